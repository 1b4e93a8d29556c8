/- WaveSpectra: the spectrum and power of any floats are what the document says, or refused. -/
import Derived.Test.YtbnpleihhbpnlaaGreatDoorSpecU
import Derived.Test.YtbnpleihhbpnlaaGreatDoorIdsK
import Derived.Test.YtbnpleihhbpnlaaGreatDoorIdsP
import Derived.Test.YtbnpleihhbpnlaaGreatDoorWavW
import Derived.Test.YtbnpleihhbpnlaaGreatDoorOpenWords
namespace Go.Proofs.YtbnpleihhbpnlaaGreatDoor
open Go.RowKit

theorem sameU {l : List Nat} {m : Nat} (A1 A2 : Option Addr) (c1 c2 B1 B2 : Nat) (w : World) (h1 : Rd w B1 1 A1 (wrdC l)) (h2 : Rd w B2 1 A2 (wrdC l)) (hl : l.length = m) (hm : m ≤ 8) :
    Calls Tryz.prog 26 #[.slice A1 m c1, .slice A2 m c2] w fun e w' => e = .returned (.bool true) ∧ ∃ n, w' = w.drewN n :=
  sameIds_self l A1 A2 m c1 c2 B1 B2 w h1 h2 hl (by simp only [maxLen]; omega)
theorem own_off {w w' w2 : World} {base : Nat} {e e2 : TypeId} {A A2 : Option Addr} {n c n2 c2 base2 : Nat} {xs ys : List (List Value)} (h : Own w base e 1 A n c xs) (h2 : Own w2 base2 e2 1 A2 n2 c2 ys) (hw : w2.heap.size ≤ base) (hg : w.grownBy w' (A2.map Addr.block)) : Own w' base e 1 A n c xs :=
  h.grown hg (by
    cases A with
    | none => exact .inl rfl
    | some a =>
      right
      intro e
      cases A2 with
      | none => cases e
      | some b =>
        have q1 := h.block (b := a.block) rfl
        have q2 := h2.block (b := b.block) rfl
        simp only [Option.map_some, Option.some.injEq] at e
        omega)
theorem row_ge {w : World} {base : Nat} {e : TypeId} {A : Option Addr} {n c : Nat} {xs : List (List Value)} (h : Own w base e 1 A n c xs) : ∀ g, A.map Addr.block = some g → base ≤ g := fun _ hg => (h.block hg).1
set_option maxRecDepth 100000 in
set_option maxHeartbeats 4000000 in
theorem waveSpectra_any (xs : List Nat) (A : Option Addr) (n c B : Nat) (w : World) (hF : FloatMem w) (hr : Rd w B 1 A (wrdC xs)) (hl : xs.length = n) (hm : n * 8 + 16 ≤ 140737488355328) (hB : B ≤ w.heap.size) :
    Calls Tryz.prog 5 #[.slice A n c] w fun e w' => e = .returned (.bool true) ∧ Below w.heap.size w w' := by
  obtain ⟨m, lR, lI, er, p, hS⟩ := specs_of xs hl
  have HS := Lib.hid hS
  have HF := Lib.hid hF
  have Hr := Lib.hid hr
  have Hl := Lib.hid hl
  have h8 := hS.small
  have H1 := Lib.hid (hS.rspec A c B w hr hB)
  clear hF hr hl hS
  go_enter Tryz.func5, Tryz.ntmps5
  go_upto_region 2 with (go_at_call 20; refine (H1.out).mono ?_; rintro e w1 ⟨A1, c1, A2, c2, rfl, t1⟩)
  have b1 : Below w.heap.size w w1 := t1.2.2.2
  have T1 := Lib.hid t1
  have H2 := Lib.hid (HS.out.rpow A c B w1 ((Hr.out).below (b1.mono hB)) (Nat.le_trans hB b1.size))
  clear t1 H1
  go_upto_region 3 with (go_at_call 21; refine (H2.out).mono ?_; rintro e w2 ⟨rfl, b2'⟩)
  have b2 : Below w.heap.size w w2 := b1.trans (b2'.mono b1.size)
  have H3 := Lib.hid (lendIds_any xs A n c B w2 ((Hr.out).below (b2.mono hB)) Hl.out (Nat.le_trans hB b2.size) hm)
  have B2' := Lib.hid b2'
  have s12 := b2'.size
  clear H2 b2'
  go_upto_region 4 with (go_at_call 22; refine (H3.out).mono ?_; rintro e w3 ⟨A5, c5, rfl, t3, b3'⟩)
  have b3 : Below w.heap.size w w3 := b2.trans (b3'.mono b2.size)
  have T3 := Lib.hid t3
  have B3' := Lib.hid b3'
  have s23 := b3'.size
  rw [Hl.out]
  have H4 := Lib.hid (HS.out.spec A5 c5 w3.heap.size w3 t3.rd (Nat.le_refl _))
  clear H3 t3 b3'
  go_upto_region 5 with (go_at_call 23; refine (H4.out).mono ?_; rintro e w4 ⟨A6, c6, A7, c7, rfl, t4⟩)
  have b4' : Below w3.heap.size w3 w4 := t4.2.2.2
  have b4 : Below w.heap.size w w4 := b3.trans (b4'.mono b3.size)
  have T4 := Lib.hid t4
  have T3w4 := Lib.hid (T3.out.belowAll b4')
  have s34 := b4'.size
  have H5 := Lib.hid (HS.out.pow A5 c5 w3.heap.size w4 ((T3.out.rd).below b4') b4'.size)
  clear H4 t4
  go_upto_region 6 with (go_at_call 24; refine (H5.out).mono ?_; rintro e w5 ⟨rfl, b5'⟩)
  have b5 : Below w.heap.size w w5 := b4.trans (b5'.mono b4.size)
  have s45 := b5'.size
  have HK := Lib.hid (keptIds_any xs A5 A n c5 n c B w2.heap.size w5 (T3w4.out.belowAll b5') Hl.out ((Hr.out).below (b5.mono hB)) rfl hm (Nat.le_trans hB b5.size))
  have lenR : lR.length = m := by rw [← wrdC_len]; exact T1.out.1.len
  have lenI : lI.length = m := by rw [← wrdC_len]; exact T1.out.2.1.len
  have R1 := Lib.hid ((((T1.out.1.rd.below B2'.out).below (B3'.out.mono s12)).below (b4'.mono (Nat.le_trans s12 s23))).below (b5'.mono (Nat.le_trans s12 (Nat.le_trans s23 s34))))
  have R2 := Lib.hid ((((T1.out.2.1.rd.below B2'.out).below (B3'.out.mono s12)).below (b4'.mono (Nat.le_trans s12 s23))).below (b5'.mono (Nat.le_trans s12 (Nat.le_trans s23 s34))))
  have hge : ∀ g, A5.map Addr.block = some g → w2.heap.size ≤ g := row_ge T3.out
  have s15 : w1.heap.size ≤ w5.heap.size := Nat.le_trans s12 (Nat.le_trans s23 (Nat.le_trans s34 s45))
  have s02 := b2.size
  have HB5 := Lib.hid (b5'.mono (Nat.le_refl _))
  have hb5 := b5
  have Hgrown : Hid (∀ w6, w5.grownBy w6 (A5.map Addr.block) → Rd w6 w1.heap.size 1 A1 (wrdC lR) ∧ Rd w6 w1.heap.size 1 A2 (wrdC lI) ∧ Own w6 w3.heap.size 22 1 A6 m c6 (wrdC lR) ∧ Own w6 w3.heap.size 22 1 A7 m c7 (wrdC lI) ∧ Below w.heap.size w w6 ∧ w5.heap.size ≤ w6.heap.size) := by
    intro w6 hg
    have hr6 : ∀ g, A5.map Addr.block = some g → w1.heap.size ≤ g := fun g hg => Nat.le_trans s12 (hge g hg)
    exact ⟨R1.out.grown hg s15 hr6, R2.out.grown hg s15 hr6, own_off (T4.out.1.belowAll b5') T3.out (Nat.le_refl _) hg, own_off (T4.out.2.1.belowAll b5') T3.out (Nat.le_refl _) hg,
      hb5.trans (below_of_grown hg hb5.size (fun g hg => Nat.le_trans s02 (hge g hg))), hg.size⟩
  have s35 : w3.heap.size ≤ w5.heap.size := Nat.le_trans s34 s45
  have HAp := Lib.hid T4.out.2.2.1
  clear H5 R1 R2 hge hb5 T1 B2' B3' T3 T4 T3w4 b4' b5' HB5 b1 b2 b3 b4 b5
  go_upto_region 8 with (first
    | (go_at_call 25; refine (HK.out).mono ?_; rintro e w6 ⟨rfl, hg6⟩; have R6 := Lib.hid (Hgrown.out w6 hg6); clear hg6)
    | (go_at_call 26; first
        | (with_reducible refine (sameU A6 A1 c6 c1 w6.heap.size w1.heap.size _ R6.out.2.2.1.rd R6.out.1 lenR h8).mono ?_; rintro e w' ⟨rfl, d1, rfl⟩)
        | (refine (sameU A7 A2 c7 c2 w6.heap.size w1.heap.size (w6.drewN d1) (R6.out.2.2.2.1.rd.drewN d1) (R6.out.2.1.drewN d1) lenI h8).mono ?_; rintro e w' ⟨rfl, d2, rfl⟩)))
  obtain ⟨q1, q2, q3, q4, q5, q6⟩ := R6.out
  have Q := Lib.hid (show Rd (w6.drewN (d1 + d2)) w1.heap.size 1 A1 (wrdC lR) ∧ Rd (w6.drewN (d1 + d2)) w1.heap.size 1 A2 (wrdC lI) ∧ Own (w6.drewN (d1 + d2)) w3.heap.size 22 1 A6 m c6 (wrdC lR) ∧ Own (w6.drewN (d1 + d2)) w3.heap.size 22 1 A7 m c7 (wrdC lI) ∧ Below w.heap.size w (w6.drewN (d1 + d2)) ∧ w5.heap.size ≤ (w6.drewN (d1 + d2)).heap.size from ⟨q1, q2, q3, q4, below_drewN q5 _, q6⟩)
  clear q1 q2 q3 q4 q5 q6 R6 Hgrown HK
  generalize w6.drewN (d1 + d2) = w7 at *
  have sB7 : B ≤ w7.heap.size := Nat.le_trans hB (Q.out.2.2.2.2.1.size)
  have H7 := Lib.hid (copyIds_any xs A n c B w7 ((Hr.out).below (Q.out.2.2.2.2.1.mono hB)) Hl.out sB7 (by omega))
  go_upto_region 9 with (first
    | (go_at_call 27; refine (H7.out).mono ?_; rintro e w8 ⟨A8, c8, rfl, ho8, hb8⟩; have H8 := Lib.hid (HS.out.spec A8 c8 w8.heap.size w8 ho8.rd (Nat.le_refl _)); replace hb8 := Lib.hid hb8; clear ho8)
    | (go_at_call 23; refine (H8.out).mono ?_; rintro e w9 ⟨A9, c9, A10, c10, rfl, t9⟩))
  have b9 : Below w8.heap.size w8 w9 := t9.2.2.2
  have s78 := hb8.out.size
  have b79 : Below w7.heap.size w7 w9 := hb8.out.trans (b9.mono s78)
  have s79 := b79.size
  have s17 : w1.heap.size ≤ w7.heap.size := Nat.le_trans s15 Q.out.2.2.2.2.2
  have s37 : w3.heap.size ≤ w7.heap.size := Nat.le_trans s35 Q.out.2.2.2.2.2
  have P1 := Lib.hid (Q.out.1.below (b79.mono s17))
  have P2 := Lib.hid (Q.out.2.1.below (b79.mono s17))
  have P3 := Lib.hid (Q.out.2.2.1.belowAll b79)
  have P4 := Lib.hid (Q.out.2.2.2.1.belowAll b79)
  have P5 := Lib.hid (Q.out.2.2.2.2.1.trans (b79.mono (Q.out.2.2.2.2.1.size)))
  have s19 : w1.heap.size ≤ w9.heap.size := Nat.le_trans s17 s79
  have s39 : w3.heap.size ≤ w9.heap.size := Nat.le_trans s37 s79
  have s13 : w1.heap.size ≤ w3.heap.size := Nat.le_trans s12 s23
  have s03 : w.heap.size ≤ w3.heap.size := Nat.le_trans s02 s23
  have H9 := Lib.hid (spoilIds_any (wrdC lR) A6 m c6 w3.heap.size w9 P3.out (by omega) s39)
  have Hg9 : Hid (∀ w', w9.grownBy w' (A6.map Addr.block) → Rd w' w1.heap.size 1 A1 (wrdC lR) ∧ Rd w' w1.heap.size 1 A2 (wrdC lI) ∧ Own w' w8.heap.size 22 1 A9 m c9 (wrdC lR) ∧ Own w' w3.heap.size 22 1 A7 m c7 (wrdC lI) ∧ Below w.heap.size w w') := by
    intro w' hg
    have hr6 : ∀ g, A6.map Addr.block = some g → w3.heap.size ≤ g := row_ge P3.out
    refine ⟨P1.out.grown hg s19 (fun g hg => Nat.le_trans s13 (hr6 g hg)), P2.out.grown hg s19 (fun g hg => Nat.le_trans s13 (hr6 g hg)), own_off t9.1 Q.out.2.2.1 s78 hg, ?_, P5.out.trans (below_of_grown hg P5.out.size (fun g hg => Nat.le_trans s03 (hr6 g hg)))⟩
    refine P4.out.grown hg ?_
    rcases HAp.out with h | h | h
    · subst h
      cases A7 with
      | none => exact .inl rfl
      | some a => right; simp
    · exact .inl h
    · exact .inr fun e => h e.symm
  clear H7 H8 t9 b9 b79 P1 P2 P3 P4 P5 Q
  go_wp2_with (first
    | (go_at_call 28; refine (H9.out).mono ?_; rintro e w10 ⟨rfl, hg10⟩; have R10 := Lib.hid (Hg9.out w10 hg10); clear hg10)
    | (go_at_call 26; first
        | (with_reducible refine (sameU A9 A1 c9 c1 w10.heap.size w1.heap.size _ R10.out.2.2.1.rd R10.out.1 lenR h8).mono ?_; rintro e w' ⟨rfl, d3, rfl⟩)
        | (refine (sameU A7 A2 c7 c2 w10.heap.size w1.heap.size (w10.drewN d3) (R10.out.2.2.2.1.rd.drewN d3) (R10.out.2.1.drewN d3) lenI h8).mono ?_; rintro e w' ⟨rfl, d4, rfl⟩))
    | (go_at_call 17; refine (awake_any (w10.drewN (d3 + d4)) ((HF.out.below R10.out.2.2.2.2).drewN _)).mono ?_; rintro e w11 ⟨rfl, hb11⟩))
  go_ret
  have hz := below_drewN R10.out.2.2.2.2 (d3 + d4)
  exact ⟨rfl, hz.trans (hb11.mono hz.size)⟩
end Go.Proofs.YtbnpleihhbpnlaaGreatDoor
