/- LabelAsks: values, sets with a label more, and parts of sets are as the document says. -/
import Derived.Test.YtnlheomfobpcmaaGreatLendL
import Derived.Test.YtnlheomfobpcmaaGreatTextsL
import Derived.Test.YtnlheomfobpcmaaGreatRLab
import Derived.Test.YtnlheomfobpcmaaGreatSpoL
import Derived.Test.YtnlheomfobpcmaaGreatLabQ
namespace Go.Proofs.YtnlheomfobpcmaaGreat
section
/-! ## LendT -/
open Go.RowKit

theorem sameTexts_self (l : List ByteArray) (A1 A2 : Option Addr) (n c1 c2 B1 B2 : Nat) (w : World) (h1 : Rd w B1 1 A1 (textsC l)) (h2 : Rd w B2 1 A2 (textsC l)) (hn : l.length = n) (hm : n ≤ maxLen) :
    Calls Tryz.prog 63 #[.slice A1 n c1, .slice A2 n c2] w fun e w' => e = .returned (.bool true) ∧ ∃ n, w' = w.drewN n := by
  have h := sameTexts_any l l A1 A2 n n c1 c2 B1 B2 w h1 h2 hn hn hm hm
  rw [decide_eq_true rfl] at h
  exact h
/-- Lent: there is room behind, with two in it. -/
def LentTexts (w : World) (base : Nat) (l : List ByteArray) (A : Option Addr) (c : Nat) : Prop := Own w base 9 1 A (l.length + 2) c (textsC (l ++ [⟨#[115, 112, 111, 105, 108, 116]⟩, ⟨#[115, 112, 111, 105, 108, 116]⟩]))
theorem LentTexts.rd {w : World} {base : Nat} {l : List ByteArray} {A : Option Addr} {c : Nat} (h : LentTexts w base l A c) : Rd w w.heap.size 1 A (textsC l) := by
  have := Own.rd h
  rw [show textsC (l ++ [⟨#[115, 112, 111, 105, 108, 116]⟩, ⟨#[115, 112, 111, 105, 108, 116]⟩]) = textsC l ++ textsC [⟨#[115, 112, 111, 105, 108, 116]⟩, ⟨#[115, 112, 111, 105, 108, 116]⟩] from by simp [textsC]] at this
  exact this.pre
theorem LentTexts.belowAll {w w' : World} {base : Nat} {l : List ByteArray} {A : Option Addr} {c : Nat} (h : LentTexts w base l A c) (hb : Below w.heap.size w w') : LentTexts w' base l A c := Own.belowAll h hb
theorem LentTexts.grown {w w' : World} {base : Nat} {l : List ByteArray} {A : Option Addr} {c : Nat} {row : Option Nat} (h : LentTexts w base l A c) (hg : w.grownBy w' row) (hne : A = none ∨ A.map Addr.block ≠ row) : LentTexts w' base l A c := Own.grown h hg hne
set_option maxHeartbeats 1000000 in
theorem lendTexts_any (l : List ByteArray) (A1 : Option Addr) (n1 c1 B1 : Nat) (w : World) (h1 : Rd w B1 1 A1 (textsC l)) (hn1 : l.length = n1) (hB : B1 ≤ w.heap.size) (hm1 : (n1 + 2) * 16 ≤ 140737488355328) :
    Calls Tryz.prog 21 #[.slice A1 n1 c1] w fun e w' => ∃ A c, e = .returned (.slice A n1 c) ∧ LentTexts w' w.heap.size l A c ∧ Below w.heap.size w w' := by
  have HC := Lib.hid (copyTexts_any l A1 n1 c1 B1 w h1 hn1 hB (by omega))
  have Hn := Lib.hid hn1
  clear h1 hn1
  go_enter Tryz.func21, Tryz.ntmps21
  go_wp2_with fail
  refine (HC.out).mono ?_
  rintro e w1 ⟨A2, c2, rfl, ho, hb⟩
  have hz := hb.size
  have HO := Lib.hid ho
  have HB := Lib.hid hb
  clear ho hb HC
  go_wp2_with (at_builtin; go_must (refine wpList_append_rd (ys := textsC [⟨#[115, 112, 111, 105, 108, 116]⟩, ⟨#[115, 112, 111, 105, 108, 116]⟩]) _ rfl (.tmp 5) (.tmp 6) _ rfl eiTexts rfl (HO.out.alloc _) rfl (Rd.new w1 (xs := textsC [⟨#[115, 112, 111, 105, 108, 116]⟩, ⟨#[115, 112, 111, 105, 108, 116]⟩]) (textsC_sz _) _ rfl) rfl (textsC_one _) (by simp only [maxLen]; omega) (by omega) (by simp; omega) ?_; intro A3 c3 w3 ho3 hg3 hat3 hb3; have hcap := ho3.cap))
  go_ret
  refine ⟨A3, c3, rfl, ?_, HB.out.trans (((Below.refl _ _).alloc (by omega) _).trans hb3)⟩
  show Own _ _ _ _ _ _ _ _
  rw [Hn.out]
  simpa [textsC] using ho3
set_option maxRecDepth 100000 in
set_option maxHeartbeats 2000000 in
theorem keptTexts_any (l : List ByteArray) (A A2 : Option Addr) (n c n2 c2 B2 base : Nat) (w : World) (hO : LentTexts w base l A c) (hn : l.length = n) (h2 : Rd w B2 1 A2 (textsC l)) (hn2 : n = n2) (hm : (n + 2) * 16 ≤ 140737488355328) (hB2 : B2 ≤ w.heap.size) :
    Calls Tryz.prog 26 #[.slice A n c, .slice A2 n2 c2] w fun e w' => e = .returned (.bool true) ∧ w.grownBy w' (A.map Addr.block) := by
  subst hn2
  have hr := hO.rd
  have hw := hO.wr
  have hfull := Own.rd hO
  rw [show textsC (l ++ [⟨#[115, 112, 111, 105, 108, 116]⟩, ⟨#[115, 112, 111, 105, 108, 116]⟩]) = textsC l ++ textsC [⟨#[115, 112, 111, 105, 108, 116]⟩, ⟨#[115, 112, 111, 105, 108, 116]⟩] from by simp [textsC]] at hfull
  unfold LentTexts at hO
  rw [hn] at hO
  have hcap := hO.cap
  rcases hO.form with ⟨_, h0, _⟩ | ⟨g, rfl, hg1, hg2⟩
  · omega
  have hpost := hfull.post
  rw [show (textsC l).length = n from by simp [textsC, hn], Nat.zero_add] at hpost
  obtain ⟨_, _, hW⟩ := hw g 0 rfl
  have HN := Lib.hid hn
  have hS1 := fun (W : World) (hb : Below w.heap.size w W) => Lib.hid (sameTexts_self l (some ⟨g, 0, none⟩) A2 n c c2 w.heap.size B2 W (hr.below hb) (h2.below (hb.mono hB2)) hn (by simp only [maxLen]; omega))
  clear hn hr hw hfull h2
  go_enter Tryz.func26, Tryz.ntmps26
  go_wp2_with fail
  refine ((hS1 _ (Below.refl _ _)).out).mono ?_
  rintro e w1 ⟨rfl, q1, rfl⟩
  have hP1 : Rd (w.drewN q1) w.heap.size 1 (some ⟨g, n * 1, none⟩) (textsC [⟨#[115, 112, 111, 105, 108, 116]⟩, ⟨#[115, 112, 111, 105, 108, 116]⟩]) := hpost
  have hR1 : Rd ((w.drewN q1).alloc (.cells #[.string ⟨#[115, 112, 111, 105, 108, 116]⟩, .string ⟨#[115, 112, 111, 105, 108, 116]⟩] 9)) (w.heap.size + 1) 1 (some ⟨w.heap.size, 0, none⟩) (textsC [⟨#[115, 112, 111, 105, 108, 116]⟩, ⟨#[115, 112, 111, 105, 108, 116]⟩]) := Rd.new (w.drewN q1) (textsC_sz _) _ rfl
  have HS2 := Lib.hid (sameTexts_self [⟨#[115, 112, 111, 105, 108, 116]⟩, ⟨#[115, 112, 111, 105, 108, 116]⟩] (some ⟨g, n * 1, none⟩) (some ⟨w.heap.size, 0, none⟩) 2 (c - n) 2 w.heap.size (w.heap.size + 1) ((w.drewN q1).alloc (.cells #[.string ⟨#[115, 112, 111, 105, 108, 116]⟩, .string ⟨#[115, 112, 111, 105, 108, 116]⟩] 9)) (hP1.below ((Below.refl w.heap.size (w.drewN q1)).alloc (Nat.le_refl _) _)) hR1 rfl (by simp [maxLen]))
  try simp only [Nat.mul_one] at HS2
  have hcn : n + 2 ≤ c := hcap.1
  clear hS1 hpost hP1 hR1
  go_wp2_with fail
  refine (HS2.out).mono ?_
  rintro e w2 ⟨rfl, q2, rfl⟩
  have hW2 : Wr (((w.drewN q1).alloc (.cells #[.string ⟨#[115, 112, 111, 105, 108, 116]⟩, .string ⟨#[115, 112, 111, 105, 108, 116]⟩] 9)).drewN q2) g 9 ((n + 2) * 1) := ((hW.less (m' := (n + 2) * 1) (Nat.mul_le_mul_right _ (by omega))).alloc _)
  have hG2 : w.grownBy (((w.drewN q1).alloc (.cells #[.string ⟨#[115, 112, 111, 105, 108, 116]⟩, .string ⟨#[115, 112, 111, 105, 108, 116]⟩] 9)).drewN q2) (some g) := grownBy_of_below (below_drewN ((below_drewN (Below.refl _ w) q1).alloc (Nat.le_refl _) _) q2)
  have HI : Hid (Wr (((w.drewN q1).alloc (.cells #[.string ⟨#[115, 112, 111, 105, 108, 116]⟩, .string ⟨#[115, 112, 111, 105, 108, 116]⟩] 9)).drewN q2) g 9 ((n + 2) * 1) ∧ w.grownBy (((w.drewN q1).alloc (.cells #[.string ⟨#[115, 112, 111, 105, 108, 116]⟩, .string ⟨#[115, 112, 111, 105, 108, 116]⟩] 9)).drewN q2) (some g)) := ⟨hW2, hG2⟩
  clear hW hW2 hG2 HS2 hO
  generalize World.drewN _ q2 = W3 at *
  go_wp2_with fail
  go_loopw [7] (fun i wr => ∃ k : Nat, i = .int .i64 k ∧ k ≤ n + 2 ∧ Hid (Wr wr g 9 ((n + 2) * 1) ∧ w.grownBy wr (some g))) (fun i _ => n + 2 - (intOf i).toNat)
  case atStart => exact ⟨0, rfl, by omega, HI⟩
  case round =>
    clear HI
    obtain ⟨k, rfl, hk, HI⟩ := hrel
    by_cases hlt : k < n + 2
    · have hltI : (k : Int) < (n : Int) + 2 := by omega
      have hltJ : (k : Int) < ((n + 2 : Nat) : Int) := by omega
      have hk0 : (0 : Int) ≤ k := by omega
      obtain ⟨v0, p0⟩ := HI.out.1.cell (j := k) (by omega)
      have hfz := HI.out.1.frozen
      have HI2 : Hid (Wr (wr.setCell ⟨g, k, none⟩ (.string ⟨#[115, 112, 111, 105, 108, 116]⟩)) g 9 ((n + 2) * 1) ∧ w.grownBy (wr.setCell ⟨g, k, none⟩ (.string ⟨#[115, 112, 111, 105, 108, 116]⟩)) (some g)) := ⟨HI.out.1.setCell _ _, grownBy_setCell HI.out.2 (by simp) _⟩
      go_wp2_with fail
      go_roundw
      case rel => exact ⟨k + 1, by go_num, by omega, HI2⟩
      case measure => simp [intOf]; omega
    · have hltI : ¬ (k : Int) < (n : Int) + 2 := by omega
      have hltJ : ¬ (k : Int) < ((n + 2 : Nat) : Int) := by omega
      go_wp2_with fail
      go_ret
      exact ⟨rfl, HI.out.2⟩
end
section
/-! ## LabelAsks -/
open Go.RowKit

/-- Rows of the call's own: from which block on, where, how long, how much room, which labels. -/
abbrev Ow := Nat × Option Addr × Nat × Nat × List Lab
def Tri (W : World) (l : List Ow) : Prop := ∀ p ∈ l, Own W p.1 51 2 p.2.1 p.2.2.1 p.2.2.2.1 (labsC p.2.2.2.2)
theorem Tri.below {W W' : World} {l : List Ow} (h : Tri W l) (hb : Below W.heap.size W W') : Tri W' l := fun p hp => (h p hp).belowAll hb
theorem Tri.grown {W W' : World} {l : List Ow} {row : Option Nat} (h : Tri W l) (hg : W.grownBy W' row) (hne : ∀ p ∈ l, p.2.1 = none ∨ p.2.1.map Addr.block ≠ row) : Tri W' l := fun p hp => (h p hp).grown hg (hne p hp)
theorem Tri.some {W : World} {l m : List Ow} (h : Tri W l) (hs : ∀ p ∈ m, p ∈ l) : Tri W m := fun p hp => h p (hs p hp)
/-- Rows made one after the other lie apart. -/
theorem apart_later {W1 W2 : World} {b1 s1 n1 c1 b2 s2 n2 c2 : Nat} {e1 e2 : TypeId} {A1 A2 : Option Addr} {x1 x2 : List (List Value)} (h1 : Own W1 b1 e1 s1 A1 n1 c1 x1) (h2 : Own W2 b2 e2 s2 A2 n2 c2 x2) (h : W1.heap.size ≤ b2) : A2 = none ∨ A2.map Addr.block ≠ A1.map Addr.block := by
  rcases h2.form with ⟨e, _⟩ | ⟨g, rfl, hg, _⟩
  · exact .inl e
  · right
    intro e
    have := (h1.block (b := g) (by rw [← e]; rfl)).2
    omega
theorem apart_sooner {W1 W2 : World} {b1 s1 n1 c1 b2 s2 n2 c2 : Nat} {e1 e2 : TypeId} {A1 A2 : Option Addr} {x1 x2 : List (List Value)} (h1 : Own W1 b1 e1 s1 A1 n1 c1 x1) (h2 : Own W2 b2 e2 s2 A2 n2 c2 x2) (h : W1.heap.size ≤ b2) : A1 = none ∨ A1.map Addr.block ≠ A2.map Addr.block := by
  rcases h1.form with ⟨e, _⟩ | ⟨g, rfl, _, hg⟩
  · exact .inl e
  · right
    intro e
    have := (h2.block (b := g) (by rw [← e]; rfl)).1
    omega
theorem own_ge {W : World} {b s n c : Nat} {e : TypeId} {A : Option Addr} {x : List (List Value)} (h : Own W b e s A n c x) : ∀ g, A.map Addr.block = some g → b ≤ g := fun _ hg => (h.block hg).1
set_option maxRecDepth 100000 in
set_option maxHeartbeats 8000000 in
theorem labelAsks_any (ls : List Lab) (nm v : ByteArray) (ns : List ByteArray) (A1 An : Option Addr) (n c1 B nn cn Bn : Nat) (w : World) (h : Rd w B 2 A1 (labsC ls)) (hn : ls.length = n) (hB : B ≤ w.heap.size) (hm : n * 32 ≤ 140737488351232)
    (hrn : Rd w Bn 1 An (namesC ns)) (hnn : ns.length = nn) (hBn : Bn ≤ w.heap.size) (hmn : nn * 16 ≤ 140737488351232) :
    Calls Tryz.prog 4 #[.slice A1 n c1, .string nm, .string v, .slice An nn cn] w fun e w' => e = .returned (.bool true) ∧ Below w.heap.size w w' := by
  have hmx : nn ≤ maxLen := by simp only [maxLen]; omega
  have hmy : n ≤ maxLen := by simp only [maxLen]; omega
  obtain ⟨x5, hx5⟩ : ∃ x5, withL ls nm v = x5 := ⟨_, rfl⟩
  obtain ⟨x6, hx6⟩ : ∃ x6, keepL ls ns = x6 := ⟨_, rfl⟩
  obtain ⟨x7, hx7⟩ : ∃ x7, withoutL ls ns = x7 := ⟨_, rfl⟩
  have l5 : x5.length ≤ n + 1 := by rw [← hx5, ← hn]; exact withL_len ls nm v
  have l6 : x6.length ≤ n := by rw [← hx6, ← hn]; exact keepL_le ls ns
  have l7 : x7.length ≤ n := by rw [← hx7, ← hn]; exact withoutL_len ls ns
  have hs1 : someL ls ns true = x6 := by rw [someL_true, hx6]
  have hs2 : someL ls ns false = x7 := by rw [someL_false, hx7]
  have HRW : ∀ W, Below w.heap.size w W → Hid (Calls Tryz.prog 29 #[.slice A1 n c1, .string nm, .string v] W (LabsOut W x5)) := fun W hb => by
    have := rwith_any ls nm v A1 n c1 B W (h.below (hb.mono hB)) hn (Nat.le_trans hB hb.size) (by omega)
    rw [hx5] at this
    exact this
  have HRS1 : ∀ W, Below w.heap.size w W → Hid (Calls Tryz.prog 30 #[.slice A1 n c1, .slice An nn cn, .bool true] W (LabsOut W x6)) := fun W hb => by
    have := rsome_any ls ns true A1 An n c1 B nn cn Bn W (h.below (hb.mono hB)) hn (Nat.le_trans hB hb.size) (by omega) (hrn.below (hb.mono hBn)) hnn (Nat.le_trans hBn hb.size) hmx
    rw [hs1] at this
    exact this
  have HRS2 : ∀ W, Below w.heap.size w W → Hid (Calls Tryz.prog 30 #[.slice A1 n c1, .slice An nn cn, .bool false] W (LabsOut W x7)) := fun W hb => by
    have := rsome_any ls ns false A1 An n c1 B nn cn Bn W (h.below (hb.mono hB)) hn (Nat.le_trans hB hb.size) (by omega) (hrn.below (hb.mono hBn)) hnn (Nat.le_trans hBn hb.size) hmx
    rw [hs2] at this
    exact this
  have HRG : ∀ W, Below w.heap.size w W → Hid (Calls Tryz.prog 27 #[.slice A1 n c1, .string nm] W fun e w' => e = .returned (.string (getL ls nm)) ∧ W = w') := fun W hb => rget_any ls nm A1 n c1 B W (h.below (hb.mono hB)) hn hmy
  have HLL := Lib.hid (lendLabels_any ls A1 n c1 B w h hn hB (by omega))
  have HLT : ∀ W, Below w.heap.size w W → Hid (Calls Tryz.prog 21 #[.slice An nn cn] W fun e w' => ∃ A c, e = .returned (.slice A nn c) ∧ LentTexts w' W.heap.size ns A c ∧ Below W.heap.size W w') := fun W hb => lendTexts_any ns An nn cn Bn W (hrn.below (hb.mono hBn)) hnn (Nat.le_trans hBn hb.size) (by omega)
  have HS : ∀ (W : World) (x : List Lab) (A A' : Option Addr) (c c' b b' m : Nat), Own W b 51 2 A x.length c (labsC x) → Own W b' 51 2 A' m c' (labsC x) → x.length = m → m ≤ n + 1 → Hid (Calls Tryz.prog 28 #[.slice A x.length c, .slice A' m c'] W fun e w' => e = .returned (.bool true) ∧ Below W.heap.size W w') := fun W x A A' c c' b b' m h1 h2 hm hmn => by
    subst hm
    refine (sameLabels_any x x A A' _ _ c c' _ _ W h1.rd h2.rd rfl rfl (by simp only [maxLen]; omega) (by simp only [maxLen]; omega)).mono ?_
    rintro e w' ⟨rfl, q, rfl⟩
    exact ⟨ret_bool (by simp), below_drewN (Below.refl _ _) q⟩
  have H := Lib.hid h
  have Hrn := Lib.hid hrn
  have Hx5 := Lib.hid hx5
  have Hx6 := Lib.hid hx6
  have Hx7 := Lib.hid hx7
  have Hn := Lib.hid hn
  have Hnn := Lib.hid hnn
  clear h hrn hx5 hx6 hx7 hs1 hs2 hn hnn
  go_enter Tryz.func4, Tryz.ntmps4
  go_wp2_with fail
  refine (HLL.out).mono ?_
  rintro e w1 ⟨A2, c2, rfl, L2, hb1⟩
  go_wp2_with fail
  refine ((HLT w1 hb1).out).mono ?_
  rintro e w2 ⟨A3, c3, rfl, T3, hb2⟩
  have L2' := L2.belowAll hb2
  have hb02 := hb1.trans (hb2.mono hb1.size)
  go_wp2_with fail
  refine (labGet_any ls nm A2 n c2 _ w2 L2'.rd Hn.out (Nat.le_refl _) hmy).mono ?_
  rintro e w3 ⟨rfl, hb3⟩
  have hb03 := hb02.trans (hb3.mono hb02.size)
  have L3 := L2'.belowAll hb3
  have T3' := T3.belowAll hb3
  go_wp2_with fail
  refine (with_any ls nm v A2 n c2 _ w3 L3.rd Hn.out (Nat.le_refl _) (by omega)).mono ?_
  rintro e w4 ⟨A5, m5, c5, rfl, hm5, O5, hb4⟩
  rw [Hx5.out] at hm5 O5
  subst hm5
  have hb04 := hb03.trans (hb4.mono hb03.size)
  have L4 := L3.belowAll hb4
  have T4 := T3'.belowAll hb4
  go_wp2_with fail
  refine (keep_any ls ns A2 A3 n c2 _ nn c3 _ w4 L4.rd Hn.out (Nat.le_refl _) (by omega) T4.rd Hnn.out (Nat.le_refl _) hmx).mono ?_
  rintro e w5 ⟨A6, m6, c6, rfl, hm6, O6, hb5⟩
  rw [Hx6.out] at hm6 O6
  subst hm6
  have hb05 := hb04.trans (hb5.mono hb04.size)
  have L5 := L4.belowAll hb5
  have T5 := T4.belowAll hb5
  have O5' := O5.belowAll hb5
  go_wp2_with fail
  refine (without_any ls ns A2 A3 n c2 _ nn c3 _ w5 L5.rd Hn.out (Nat.le_refl _) (by omega) T5.rd Hnn.out (Nat.le_refl _) hmx).mono ?_
  rintro e w6 ⟨A7, m7, c7, rfl, hm7, O7, hb6⟩
  rw [Hx7.out] at hm7 O7
  subst hm7
  have hb06 := hb05.trans (hb6.mono hb05.size)
  have L6 := L5.belowAll hb6
  have T6 := T5.belowAll hb6
  have z1 := hb1.size
  have z2 := hb2.size
  have z3 := hb3.size
  have z4 := hb4.size
  have z5 := hb5.size
  have z6 := hb6.size
  have hT : Tri w6 [(w3.heap.size, A5, x5.length, c5, x5), (w4.heap.size, A6, x6.length, c6, x6), (w5.heap.size, A7, x7.length, c7, x7)] := by
    intro p hp
    simp only [List.mem_cons, List.not_mem_nil, or_false] at hp
    rcases hp with rfl | rfl | rfl
    · exact O5'.belowAll hb6
    · exact O6.belowAll hb6
    · exact O7
  have N52 := Lib.hid (apart_later L2 O5 (by omega))
  have N62 := Lib.hid (apart_later L2 O6 (by omega))
  have N72 := Lib.hid (apart_later L2 O7 (by omega))
  have N32 := Lib.hid (apart_later L2 T3 (by omega))
  have N53 := Lib.hid (apart_later T3 O5 (by omega))
  have N63 := Lib.hid (apart_later T3 O6 (by omega))
  have N73 := Lib.hid (apart_later T3 O7 (by omega))
  have N65 := Lib.hid (apart_later O5 O6 (by omega))
  have N75 := Lib.hid (apart_later O5 O7 (by omega))
  have N76 := Lib.hid (apart_later O6 O7 (by omega))
  have G2 := Lib.hid (own_ge L2)
  have G3 := Lib.hid (own_ge T3)
  have G5 := Lib.hid (own_ge O5)
  have G6 := Lib.hid (own_ge O6)
  clear L2 L2' L3 L4 L5 T3 T3' T4 T5 O5 O5' O6 O7 hb1 hb2 hb3 hb4 hb5 hb6 hb02 hb03 hb04 hb05
  have HT := Lib.hid hT
  clear hT
  go_wp2_with fail
  refine (keptLabels_any ls A2 A1 n c2 n c1 B w.heap.size w6 L6 Hn.out (H.out.below (hb06.mono hB)) rfl (by omega) (Nat.le_trans hB hb06.size)).mono ?_
  rintro e w7 ⟨rfl, hg7⟩
  have y7 := hg7.size
  have hb07 := hb06.trans (below_of_grown hg7 hb06.size G2.out)
  have T7 : LentTexts w7 _ ns A3 c3 := T6.grown hg7 N32.out
  have HT7 : Hid (Tri w7 [(w3.heap.size, A5, x5.length, c5, x5), (w4.heap.size, A6, x6.length, c6, x6), (w5.heap.size, A7, x7.length, c7, x7)]) := HT.out.grown hg7 (by
    intro p hp
    simp only [List.mem_cons, List.not_mem_nil, or_false] at hp
    rcases hp with rfl | rfl | rfl
    · exact N52.out
    · exact N62.out
    · exact N72.out)
  clear HT T6 L6 hg7 hb06
  go_wp2_with fail
  refine (keptTexts_any ns A3 An nn c3 nn cn Bn w1.heap.size w7 T7 Hnn.out (Hrn.out.below (hb07.mono hBn)) rfl (by omega) (Nat.le_trans hBn hb07.size)).mono ?_
  rintro e w8 ⟨rfl, hg8⟩
  have y8 := hg8.size
  have hb08 := hb07.trans (below_of_grown hg8 hb07.size (fun g hg => by have := G3.out g hg; omega))
  have HT8 : Hid (Tri w8 [(w3.heap.size, A5, x5.length, c5, x5), (w4.heap.size, A6, x6.length, c6, x6), (w5.heap.size, A7, x7.length, c7, x7)]) := HT7.out.grown hg8 (by
    intro p hp
    simp only [List.mem_cons, List.not_mem_nil, or_false] at hp
    rcases hp with rfl | rfl | rfl
    · exact N53.out
    · exact N63.out
    · exact N73.out)
  clear HT7 T7 hg8 hb07
  go_wp2_with fail
  refine ((HRG w8 hb08).out).mono ?_
  rintro e w9 ⟨rfl, rfl⟩
  go_wp2_with fail
  refine ((HRW w8 hb08).out).mono ?_
  rintro e w9 ⟨B5, q5, d5, rfl, hq5, P5, hb9⟩
  subst hq5
  have y9 := hb9.size
  have hb09 := hb08.trans (hb9.mono hb08.size)
  have HT9 := Lib.hid (HT8.out.below hb9)
  have HP := Lib.hid P5
  clear P5 hb9 HT8
  go_wp2_with fail
  refine ((HS w9 x5 A5 B5 c5 d5 _ _ _ (HT9.out (w3.heap.size, A5, x5.length, c5, x5) (by simp)) HP.out rfl l5).out).mono ?_
  rintro e w10 ⟨rfl, hb10⟩
  have y10 := hb10.size
  have hb010 := hb09.trans (hb10.mono hb09.size)
  have HT10 := Lib.hid (HT9.out.below hb10)
  clear HT9 hb10 HP
  go_wp2_with fail
  refine ((HRS1 w10 hb010).out).mono ?_
  rintro e w11 ⟨B6, q6, d6, rfl, hq6, P6, hb11⟩
  subst hq6
  have y11 := hb11.size
  have hb011 := hb010.trans (hb11.mono hb010.size)
  have HT11 := Lib.hid (HT10.out.below hb11)
  have HP := Lib.hid P6
  clear P6 hb11 HT10
  go_wp2_with fail
  refine ((HS w11 x6 A6 B6 c6 d6 _ _ _ (HT11.out (w4.heap.size, A6, x6.length, c6, x6) (by simp)) HP.out rfl (by omega)).out).mono ?_
  rintro e w12 ⟨rfl, hb12⟩
  have y12 := hb12.size
  have hb012 := hb011.trans (hb12.mono hb011.size)
  have HT12 := Lib.hid (HT11.out.below hb12)
  clear HT11 hb12 HP
  go_wp2_with fail
  refine ((HRS2 w12 hb012).out).mono ?_
  rintro e w13 ⟨B7, q7, d7, rfl, hq7, P7, hb13⟩
  subst hq7
  have y13 := hb13.size
  have hb013 := hb012.trans (hb13.mono hb012.size)
  have HT13 := Lib.hid (HT12.out.below hb13)
  have HP := Lib.hid P7
  clear P7 hb13 HT12
  go_wp2_with fail
  refine ((HS w13 x7 A7 B7 c7 d7 _ _ _ (HT13.out (w5.heap.size, A7, x7.length, c7, x7) (by simp)) HP.out rfl (by omega)).out).mono ?_
  rintro e w14 ⟨rfl, hb14⟩
  have y14 := hb14.size
  have hb014 := hb013.trans (hb14.mono hb013.size)
  have HT14 := Lib.hid (HT13.out.below hb14)
  clear HT13 hb14 HP
  have hs14 := hb014.size
  go_wp2_with fail
  refine (spoilLabels_any _ A5 x5.length c5 w3.heap.size w14 (HT14.out (w3.heap.size, A5, x5.length, c5, x5) (by simp)) (by omega) (by omega)).mono ?_
  rintro e w15 ⟨rfl, hg15⟩
  have hb015 := hb014.trans (below_of_grown hg15 hb014.size (fun g hg => by have := G5.out g hg; omega))
  have HT15 : Hid (Tri w15 [(w4.heap.size, A6, x6.length, c6, x6), (w5.heap.size, A7, x7.length, c7, x7)]) := (HT14.out.some (by intro p hp; simp at hp ⊢; rcases hp with rfl | rfl <;> simp)).grown hg15 (by
    intro p hp
    simp only [List.mem_cons, List.not_mem_nil, or_false] at hp
    rcases hp with rfl | rfl
    · exact N65.out
    · exact N75.out)
  have y15 := hg15.size
  clear HT14 hg15
  go_wp2_with fail
  refine (spoilLabels_any _ A6 x6.length c6 w4.heap.size w15 (HT15.out (w4.heap.size, A6, x6.length, c6, x6) (by simp)) (by omega) (by omega)).mono ?_
  rintro e w16 ⟨rfl, hg16⟩
  have hb016 := hb015.trans (below_of_grown hg16 hb015.size (fun g hg => by have := G6.out g hg; omega))
  have HT16 : Hid (Tri w16 [(w5.heap.size, A7, x7.length, c7, x7)]) := (HT15.out.some (by intro p hp; simp at hp ⊢; subst hp; simp)).grown hg16 (by
    intro p hp
    simp only [List.mem_cons, List.not_mem_nil, or_false] at hp
    subst hp
    exact N76.out)
  clear HT15 hg16
  go_wp2_with fail
  refine ((HRS2 w16 hb016).out).mono ?_
  rintro e w17 ⟨C7, q7, f7, rfl, hq7, P7, hb17⟩
  subst hq7
  have hb017 := hb016.trans (hb17.mono hb016.size)
  have HT17 := Lib.hid (HT16.out.below hb17)
  have HP := Lib.hid P7
  clear P7 hb17 HT16
  go_wp2_with fail
  refine ((HS w17 x7 A7 C7 c7 f7 _ _ _ (HT17.out (w5.heap.size, A7, x7.length, c7, x7) (by simp)) HP.out rfl (by omega)).out).mono ?_
  rintro e w18 ⟨rfl, hb18⟩
  have hb018 := hb017.trans (hb18.mono hb017.size)
  clear HT17 hb18 HP
  go_wp2_with fail
  refine (awake_any w18).mono ?_
  rintro e w19 ⟨rfl, hb19⟩
  have hb019 := hb018.trans (hb19.mono hb018.size)
  go_wp2_with fail
  go_ret
  exact ⟨rfl, hb019⟩
end
end Go.Proofs.YtnlheomfobpcmaaGreat
