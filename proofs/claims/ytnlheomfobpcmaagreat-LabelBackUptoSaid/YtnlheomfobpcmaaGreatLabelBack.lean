/- LabelBack: a set that may be is read back from its bytes, wherever they stand; unlike sets have unlike bytes and texts. -/
import Derived.Test.YtnlheomfobpcmaaGreatTextI
import Derived.Test.YtnlheomfobpcmaaGreatLabQ
namespace Go.Proofs.YtnlheomfobpcmaaGreat
open Go.RowKit

theorem awl_encode {w W : World} {rows : List (Option Addr × List Lab)} {A : Option Addr} {x : List Lab} {n c : Nat} (hk : Aw w rows W) (hx : (A, x) ∈ rows) (hn : x.length = n) (hm : n ≤ 140737488355328) (he : (encL x).length ≤ 140737488355300) :
    Calls Tryz.prog 11 #[.slice A n c] W fun e w' => ∃ A' c', e = .returned (.slice A' (encL x).length c') ∧ Own w' W.heap.size 5 1 A' (encL x).length c' (bytesC (encL x)) ∧ Below W.heap.size W w' ∧ Aw w rows w' := by
  refine (labEncode_any x A n c _ W (hk.get hx) hn (Nat.le_refl _) hm he).mono ?_
  rintro e w' ⟨A', m, c', hm, rfl, ho, hb⟩
  subst hm
  exact ⟨A', c', rfl, ho, hb, hk.step hb⟩
theorem awl_text {w W : World} {rows : List (Option Addr × List Lab)} {A : Option Addr} {x : List Lab} {n c : Nat} (hk : Aw w rows W) (hx : (A, x) ∈ rows) (hn : x.length = n) (hm : n ≤ 140737488355328) (he : (textL x).length ≤ 1099511627776) :
    Calls Tryz.prog 13 #[.slice A n c] W fun e w' => e = .returned (.string (textB x)) ∧ Aw w rows w' := by
  refine (labText_any x A n c _ W (hk.get hx) hn (Nat.le_refl _) hm he).mono ?_
  rintro e w' ⟨rfl, hb⟩
  exact ⟨rfl, hk.step hb⟩
/-- Bytes of one's own in older memory stay. -/
theorem own_old {w w' : World} {base base2 n c : Nat} {e : TypeId} {A : Option Addr} {xs : List (List Value)} (h : Own w base e 1 A n c xs) (hb : Below base2 w w') (hs : ∀ g, A.map Addr.block = some g → g < base2) : Own w' base e 1 A n c xs := h.below hb hs
set_option maxRecDepth 100000 in
set_option maxHeartbeats 8000000 in
theorem labelBack_any (hd tl : List UInt8) (a b : List Lab) (A1 A2 Ah At : Option Addr) (n1 n2 c1 c2 B1 B2 nh ch Bh nt ct Bt : Nat) (w : World) (h1 : Rd w B1 2 A1 (labsC a)) (hn1 : a.length = n1) (hB1 : B1 ≤ w.heap.size) (h2 : Rd w B2 2 A2 (labsC b)) (hn2 : b.length = n2) (hB2 : B2 ≤ w.heap.size)
    (hh : Rd w Bh 1 Ah (bytesC hd)) (hnh : hd.length = nh) (hBh : Bh ≤ w.heap.size) (htl : Rd w Bt 1 At (bytesC tl)) (hnt : tl.length = nt) (hBt : Bt ≤ w.heap.size)
    (hok1 : okLabs a) (hok2 : okLabs b) (hm1 : n1 ≤ 1099511627776) (hm2 : n2 ≤ 1099511627776) (hmh : nh ≤ 1099511627776) (hmt : nt ≤ 1099511627776) (he1 : (encL a).length ≤ 1099511627776) (he2 : (encL b).length ≤ 1099511627776) (ht1 : (textL a).length ≤ 1099511627776) (ht2 : (textL b).length ≤ 1099511627776) :
    Calls Tryz.prog 6 #[.slice Ah nh ch, .slice A1 n1 c1, .slice A2 n2 c2, .slice At nt ct] w fun e w' => e = .returned (.bool true) ∧ Below w.heap.size w w' := by
  have hk0 : Aw w [(A1, a), (A2, b)] w := ((Aw.nil w).add (h2.more hB2)).add (h1.more hB1)
  by_cases hc1 : checkL a = 0
  · by_cases hc2 : checkL b = 0
    · obtain ⟨h16a, hga⟩ := check_good.1 hc1
      obtain ⟨h16b, hgb⟩ := check_good.1 hc2
      have hlaw : (a = b ∧ encL a = encL b ∧ textB a = textB b) ∨ (a ≠ b ∧ encL a ≠ encL b ∧ textB a ≠ textB b) := by
        by_cases e : a = b
        · exact .inl ⟨e, by rw [e], by rw [e]⟩
        · exact .inr ⟨e, fun h => e (encL_inj hok1 hok2 h16a h16b h), fun h => e (textB_inj hga hgb h)⟩
      obtain ⟨s, hs1, hs2, hs3⟩ : ∃ s, decide (a = b) = s ∧ decide (encL a = encL b) = s ∧ ((textB a).toList == (textB b).toList) = s := by
        rcases hlaw with ⟨x1, x2, x3⟩ | ⟨x1, x2, x3⟩
        · exact ⟨true, decide_eq_true x1, decide_eq_true x2, by rw [beq_toList]; exact decide_eq_true x3⟩
        · exact ⟨false, decide_eq_false x1, decide_eq_false x2, by rw [beq_toList]; exact decide_eq_false x3⟩
      have HS1 := Lib.hid hs1
      have HS2 := Lib.hid hs2
      have HCB : ∀ W, Below w.heap.size w W → Hid (Calls Tryz.prog 35 #[.slice Ah nh ch] W fun e w' => ∃ A c, e = .returned (.slice A nh c) ∧ Own w' W.heap.size 5 1 A nh c (bytesC hd) ∧ Below W.heap.size W w') := fun W hb => copyBytes_any hd Ah nh ch Bh W (hh.below (hb.mono hBh)) hnh (Nat.le_trans hBh hb.size) (by omega)
      have HTL : ∀ W, Below w.heap.size w W → Hid (Rd W Bt 1 At (bytesC tl)) := fun W hb => htl.below (hb.mono hBt)
      have hlen : (hd ++ encL a ++ tl).length = nh + (encL a).length + nt := by rw [List.length_append, List.length_append, hnh, hnt]
      have HDec : ∀ (W : World) (A : Option Addr) (c B : Nat), Rd W B 1 A (bytesC (hd ++ encL a ++ tl)) → B ≤ W.heap.size → nh + (encL a).length + nt ≤ c → c ≤ maxLen → Hid (Calls Tryz.prog 36 #[.slice A (nh + (encL a).length + nt) c, .int .i64 (nh : Nat)] W fun e w' => ∃ A' c', e = .returned (.tuple #[.slice A' n1 c', .int .i64 ((nh + (encL a).length : Nat) : Int), .int .i64 0]) ∧ Rd w' w'.heap.size 2 A' (labsC a) ∧ Below W.heap.size W w') := fun W A c B h hB hc hcm => by
        have := decode_at (hd ++ encL a ++ tl) hd tl a A _ c B W rfl h hlen hB (by omega) hc hcm h16a hok1 hc1
        rw [hnh] at this
        refine this.mono ?_
        rintro e w' ⟨A', c', rfl, ho, hb⟩
        rw [hn1] at ho ⊢
        exact ⟨A', c', rfl, ho.rd, hb⟩
      have Hn1 := Lib.hid hn1
      have Hn2 := Lib.hid hn2
      have HK0 := Lib.hid hk0
      have HC1 := Lib.hid hc1
      have HC2 := Lib.hid hc2
      have HLth : Hid ((bytesC hd).length = nh) := by show _ = _; rw [bytesC_len, hnh]
      have HLtt : Hid ((bytesC tl).length = nt) := by show _ = _; rw [bytesC_len, hnt]
      clear hlaw hs1 hs2 hn1 hn2 hc1 hc2 hnh hnt hlen hga hgb h16a h16b h1 h2 hh htl hk0
      go_enter Tryz.func6, Tryz.ntmps6
      go_wp2_with fail
      refine (awl_copy HK0.out (by simp) Hn1.out (by omega)).mono ?_
      rintro e W ⟨A, c, rfl, hk⟩
      have hC := awl_check (c := c) hk List.mem_cons_self Hn1.out (by omega) hok1
      rw [HC1.out] at hC
      go_wp2_with fail
      refine hC.mono ?_
      rintro e W ⟨rfl, hk⟩
      clear hC
      go_wp2_with fail
      refine (awl_copy (A := A2) (x := b) hk (by simp) Hn2.out (by omega)).mono ?_
      rintro e W ⟨A, c, rfl, hk⟩
      have hC := awl_check (c := c) hk List.mem_cons_self Hn2.out (by omega) hok2
      rw [HC2.out] at hC
      go_wp2_with fail
      refine hC.mono ?_
      rintro e W ⟨rfl, hk⟩
      clear hC
      go_wp2_with fail
      refine (awl_copy (A := A1) (x := a) hk (by simp) Hn1.out (by omega)).mono ?_
      rintro e W ⟨A, c, rfl, hk⟩
      go_wp2_with fail
      refine (awl_encode hk List.mem_cons_self Hn1.out (by omega) (by omega)).mono ?_
      rintro e W3 ⟨X, cx, rfl, OX, hbe, hk⟩
      have HXr : ∀ W, Below W3.heap.size W3 W → Hid (Rd W W3.heap.size 1 X (bytesC (encL a))) := fun W hb => OX.rd.below hb
      have HA3 : Hid (Aw W3 [(A1, a), (A2, b)] W3) := ⟨Below.refl _ _, fun p hp => hk.2 p (by simp at hp ⊢; rcases hp with rfl | rfl <;> simp)⟩
      have HB3 := Lib.hid hk.1
      clear OX hbe hk
      go_wp2_with fail
      refine ((HCB W3 HB3.out).out).mono ?_
      rintro e W4 ⟨Y, cy, rfl, OY, hb4⟩
      have hXlen : (bytesC (encL a)).length = (encL a).length := bytesC_len _
      obtain ⟨m, hm⟩ : ∃ m, (encL a).length = m := ⟨_, rfl⟩
      rw [hm] at hXlen HDec he1 ⊢
      have HM := Lib.hid hm
      have HXl := Lib.hid hXlen
      have HY := Lib.hid OY
      have HB4 := Lib.hid hb4
      have hs4 := hb4.size
      clear hm hXlen OY hb4 HCB
      go_wp2_with (first
        | (at_builtin; (refine wpList_append_rd (n := nh + m) (m := nt) (ys := bytesC tl) _ rfl (.tmp 32) (.tmp 33) _ rfl eiBytes rfl HO5.out rfl ((HTL _ (HB3.out.trans (HB5.out.mono HB3.out.size))).out) HLtt.out (bytesC_one _) (by simp only [maxLen]; omega) (by omega) (by have := HB5.out.size; omega) ?_; intro A6 c6 w6 ho6 hg6 hat6 hb6))
        | (at_builtin; go_must (refine wpList_append_rd (n := nh) (m := m) (ys := bytesC (encL a)) _ rfl (.tmp 30) (.tmp 31) _ rfl eiBytes rfl HY.out rfl ((HXr _ HB4.out).out) HXl.out (bytesC_one _) (by simp only [maxLen]; omega) (by omega) (by omega) ?_; intro A5 c5 w5 ho5 hg5 hat5 hb5; have HO5 := Lib.hid ho5; have HB5 : Hid (Below W3.heap.size W3 w5) := HB4.out.trans hb5; clear ho5 hg5 hat5 hb5)))
      have HB6 : Hid (Below W3.heap.size W3 w6) := HB5.out.trans hb6
      have hcap6 := ho6.cap
      have hdat : bytesC (hd ++ encL a ++ tl) = bytesC hd ++ bytesC (encL a) ++ bytesC tl := by simp [bytesC]
      have hrd6 : Rd w6 w6.heap.size 1 A6 (bytesC (hd ++ encL a ++ tl)) := by rw [hdat]; exact ho6.rd
      have HD := HDec w6 A6 c6 _ hrd6 (Nat.le_refl _) hcap6.1 hcap6.2
      clear ho6 hg6 hat6 hb6 hcap6 hdat hrd6 HDec HO5 HB5 HY HB4
      go_wp2_with fail
      refine (HD.out).mono ?_
      rintro e w7 ⟨D, d7, rfl, hrD, hb7⟩
      have hk : Aw W3 [(D, a), (A1, a), (A2, b)] w7 := (HA3.out.step (HB6.out.trans (hb7.mono HB6.out.size))).add hrD
      clear HD hb7 hrD HB6 HA3
      have hC := awl_same (A := A1) (B := A2) (c := c1) (d := c2) hk (by simp) (by simp) Hn1.out Hn2.out (by omega) (by omega)
      rw [HS1.out] at hC
      go_wp2_with fail
      refine hC.mono ?_
      rintro e w8 ⟨rfl, hk⟩
      clear hC
      have hC := awl_same (A := D) (B := A1) (x := a) (y := a) (c := d7) (d := c1) hk (by simp) (by simp) Hn1.out Hn1.out (by omega) (by omega)
      rw [decide_eq_true rfl] at hC
      go_wp2_with fail
      refine hC.mono ?_
      rintro e w9 ⟨rfl, hk⟩
      clear hC
      go_wp2_with fail
      refine (awl_copy (A := A2) (x := b) hk (by simp) Hn2.out (by omega)).mono ?_
      rintro e w10 ⟨E1, e1, rfl, hk⟩
      go_wp2_with fail
      refine (awl_encode hk List.mem_cons_self Hn2.out (by omega) (by omega)).mono ?_
      rintro e w11 ⟨Z, cz, rfl, OZ, hbz, hk⟩
      have hC : Calls Tryz.prog 16 #[.slice X m cx, .slice Z (encL b).length cz] w11 fun e w' => e = .returned (.bool s) ∧ Below w11.heap.size w11 w' := by
        refine (sameBytes_any (encL a) (encL b) X Z m _ cx cz _ _ w11 (HXr w11 hk.1).out OZ.rd HM.out rfl (by simp only [maxLen]; omega) (by simp only [maxLen]; omega)).mono ?_
        rintro e w' ⟨rfl, q, rfl⟩
        exact ⟨by rw [HS2.out], below_drewN (Below.refl _ _) q⟩
      clear OZ hbz
      go_wp2_with fail
      refine hC.mono ?_
      rintro e w12 ⟨rfl, hb12⟩
      replace hk := hk.step hb12
      clear hC hb12
      go_wp2_with fail
      refine (awl_copy (A := A1) (x := a) hk (by simp) Hn1.out (by omega)).mono ?_
      rintro e w13 ⟨E2, e2, rfl, hk⟩
      go_wp2_with fail
      refine (awl_text hk List.mem_cons_self Hn1.out (by omega) ht1).mono ?_
      rintro e w14 ⟨rfl, hk⟩
      go_wp2_with fail
      refine (awl_copy (A := A2) (x := b) hk (by simp) Hn2.out (by omega)).mono ?_
      rintro e w15 ⟨E3, e3, rfl, hk⟩
      go_wp2_with fail
      refine (awl_text hk List.mem_cons_self Hn2.out (by omega) ht2).mono ?_
      rintro e w16 ⟨rfl, hk⟩
      go_wp2_with fail
      refine (awl_awake hk).mono ?_
      rintro e w17 ⟨rfl, hk⟩
      go_wp2_with fail
      go_ret
      exact ⟨rfl, HB3.out.trans (hk.1.mono HB3.out.size)⟩
    · have HC1 := Lib.hid hc1
      have Hn1 := Lib.hid hn1
      have Hn2 := Lib.hid hn2
      have HK0 := Lib.hid hk0
      have hcb : (checkL b != 0) = true := by rw [bne_iff_ne]; exact hc2
      have HCb := fun (W : World) (A : Option Addr) (c : Nat) (rows : List (Option Addr × List Lab)) (hk : Aw w ((A, b) :: rows) W) => Lib.hid (awl_check (c := c) hk List.mem_cons_self hn2 (by omega) hok2)
      clear hc1 hc2 hn1 hn2 h1 h2 hh htl hk0
      generalize checkL b = rb at *
      go_enter Tryz.func6, Tryz.ntmps6
      go_wp2_with fail
      refine (awl_copy HK0.out (by simp) Hn1.out (by omega)).mono ?_
      rintro e W ⟨A, c, rfl, hk⟩
      have hC := awl_check (c := c) hk List.mem_cons_self Hn1.out (by omega) hok1
      rw [HC1.out] at hC
      go_wp2_with fail
      refine hC.mono ?_
      rintro e W ⟨rfl, hk⟩
      clear hC
      go_wp2_with fail
      refine (awl_copy (A := A2) (x := b) hk (by simp) Hn2.out (by omega)).mono ?_
      rintro e W ⟨A, c, rfl, hk⟩
      go_wp2_with fail
      refine ((HCb _ _ _ _ hk).out).mono ?_
      rintro e W ⟨rfl, hk⟩
      go_wp2_with fail
      refine (awl_awake hk).mono ?_
      rintro e W ⟨rfl, hk⟩
      go_wp2_with fail
      go_ret
      exact ⟨rfl, hk.1⟩
  · have Hn1 := Lib.hid hn1
    have HK0 := Lib.hid hk0
    have hca : (checkL a != 0) = true := by rw [bne_iff_ne]; exact hc1
    have HCa := fun (W : World) (A : Option Addr) (c : Nat) (rows : List (Option Addr × List Lab)) (hk : Aw w ((A, a) :: rows) W) => Lib.hid (awl_check (c := c) hk List.mem_cons_self hn1 (by omega) hok1)
    clear hc1 hn1 hn2 h1 h2 hh htl hk0
    generalize checkL a = ra at *
    go_enter Tryz.func6, Tryz.ntmps6
    go_wp2_with fail
    refine (awl_copy HK0.out (by simp) Hn1.out (by omega)).mono ?_
    rintro e W ⟨A, c, rfl, hk⟩
    go_wp2_with fail
    refine ((HCa _ _ _ _ hk).out).mono ?_
    rintro e W ⟨rfl, hk⟩
    go_wp2_with fail
    refine (awl_awake hk).mono ?_
    rintro e W ⟨rfl, hk⟩
    go_wp2_with fail
    go_ret
    exact ⟨rfl, hk.1⟩
end Go.Proofs.YtnlheomfobpcmaaGreat
