/- The document's own lexing: signs, texts. -/
import Derived.Test.YtakfnojiaakfpaaGreatDoorRefLexS
namespace Go.Proofs.YtakfnojiaakfpaaGreatDoor
open Go.RowKit
def signC : List Nat := [60, 62, 61, 43, 45, 42, 47, 40, 41, 123, 125, 91, 93, 44]
theorem sign1_list (c : UInt8) : sign1 c = signC.contains c.toNat := by
  have hall : ∀ n : Nat, n < 256 → sign1 (UInt8.ofNat n) = signC.contains (UInt8.ofNat n).toNat := by decide +kernel
  have := hall c.toNat c.toNat_lt
  rwa [UInt8.ofNat_toNat] at this
theorem sign_at {s : ByteArray} {k : Nat} (hk : k < s.size) (h : ¬ k + 1 < s.size ∨ sign2 (s.extract k (k + 2)).toList = false) : signN (s.data.toList.drop k) = if signC.contains s[k].toNat then 1 else 0 := by
  have hd := drop_at hk
  rw [signN, if_neg, hd, List.head?_cons, Option.any_some, sign1_list]
  rw [List.length_drop, ← Lib.size_eq]
  rcases h with h | h
  · rw [decide_eq_false (by omega)]; simp
  · rw [toList_data', extract_toL, show k + 2 - k = 2 from by omega] at h
    rw [h]; simp
theorem sign_two {s : ByteArray} {k : Nat} (hk : k + 1 < s.size) (h : sign2 (s.extract k (k + 2)).toList = true) : signN (s.data.toList.drop k) = 2 := by
  rw [toList_data', extract_toL, show k + 2 - k = 2 from by omega] at h
  rw [signN, if_pos]
  rw [List.length_drop, ← Lib.size_eq, decide_eq_true (by omega), h]; rfl
set_option maxRecDepth 100000 in
set_option maxHeartbeats 4000000 in
theorem rsign_any (s : ByteArray) (k : Nat) (w : World) (hs : s.size ≤ 4096) (hk : k < s.size) : Calls Tryz.prog 126 #[.string s, .int .i64 (k : Int)] w fun e w' => e = .returned (.int .i64 (signN (s.data.toList.drop k) : Nat)) ∧ w = w' := by
  have hk0 : (0 : Int) ≤ k := by omega
  have hkI : (k : Int) < s.size := by omega
  have key : (¬ k + 1 < s.size ∨ (((s.extract k (k + 2)).toList == [61, 61]) = false ∧ ((s.extract k (k + 2)).toList == [33, 61]) = false ∧ ((s.extract k (k + 2)).toList == [60, 61]) = false ∧ ((s.extract k (k + 2)).toList == [62, 61]) = false ∧ ((s.extract k (k + 2)).toList == [61, 126]) = false ∧ ((s.extract k (k + 2)).toList == [33, 126]) = false)) → Calls Tryz.prog 126 #[.string s, .int .i64 (k : Int)] w fun e w' => e = .returned (.int .i64 (signN (s.data.toList.drop k) : Nat)) ∧ w = w' := by
    intro hcase
    have HS : Hid (signN (s.data.toList.drop k) = if signC.contains s[k].toNat then 1 else 0) := sign_at hk (by
      rcases hcase with h | ⟨e0, e1, e2, e3, e4, e5⟩
      · exact .inl h
      · exact .inr (by simp only [sign2, e0, e1, e2, e3, e4, e5]; rfl))
    rcases hcase with h | ⟨e0, e1, e2, e3, e4, e5⟩
    case' inl => have hI : ¬ (k : Int) + 1 < s.size := by omega
    case' inr =>
      by_cases h1 : k + 1 < s.size
      case' pos =>
        have hI : (k : Int) + 1 < s.size := by omega
        have hI2 : (k : Int) + 2 ≤ s.size := by omega
      case' neg => have hI : ¬ (k : Int) + 1 < s.size := by omega
    all_goals
      by_cases c60 : s[k].toNat = 60
      · have f60 : (s[k].toNat : Int) = 60 := by omega
        have HT : Hid (signN (s.data.toList.drop k) = 1) := HS.out.trans (by rw [c60]; rfl)
        clear HS c60
        go_enter Tryz.func126, Tryz.ntmps126
        go_wp2_with fail
        go_ret
        exact ⟨ret_int (by rw [HT.out]; rfl), rfl⟩
      have f60 : ((s[k].toNat : Int) == 60) = false := by rw [beq_eq_false_iff_ne]; omega
      by_cases c62 : s[k].toNat = 62
      · have f62 : (s[k].toNat : Int) = 62 := by omega
        have HT : Hid (signN (s.data.toList.drop k) = 1) := HS.out.trans (by rw [c62]; rfl)
        clear HS c62
        go_enter Tryz.func126, Tryz.ntmps126
        go_wp2_with fail
        go_ret
        exact ⟨ret_int (by rw [HT.out]; rfl), rfl⟩
      have f62 : ((s[k].toNat : Int) == 62) = false := by rw [beq_eq_false_iff_ne]; omega
      by_cases c61 : s[k].toNat = 61
      · have f61 : (s[k].toNat : Int) = 61 := by omega
        have HT : Hid (signN (s.data.toList.drop k) = 1) := HS.out.trans (by rw [c61]; rfl)
        clear HS c61
        go_enter Tryz.func126, Tryz.ntmps126
        go_wp2_with fail
        go_ret
        exact ⟨ret_int (by rw [HT.out]; rfl), rfl⟩
      have f61 : ((s[k].toNat : Int) == 61) = false := by rw [beq_eq_false_iff_ne]; omega
      by_cases c43 : s[k].toNat = 43
      · have f43 : (s[k].toNat : Int) = 43 := by omega
        have HT : Hid (signN (s.data.toList.drop k) = 1) := HS.out.trans (by rw [c43]; rfl)
        clear HS c43
        go_enter Tryz.func126, Tryz.ntmps126
        go_wp2_with fail
        go_ret
        exact ⟨ret_int (by rw [HT.out]; rfl), rfl⟩
      have f43 : ((s[k].toNat : Int) == 43) = false := by rw [beq_eq_false_iff_ne]; omega
      by_cases c45 : s[k].toNat = 45
      · have f45 : (s[k].toNat : Int) = 45 := by omega
        have HT : Hid (signN (s.data.toList.drop k) = 1) := HS.out.trans (by rw [c45]; rfl)
        clear HS c45
        go_enter Tryz.func126, Tryz.ntmps126
        go_wp2_with fail
        go_ret
        exact ⟨ret_int (by rw [HT.out]; rfl), rfl⟩
      have f45 : ((s[k].toNat : Int) == 45) = false := by rw [beq_eq_false_iff_ne]; omega
      by_cases c42 : s[k].toNat = 42
      · have f42 : (s[k].toNat : Int) = 42 := by omega
        have HT : Hid (signN (s.data.toList.drop k) = 1) := HS.out.trans (by rw [c42]; rfl)
        clear HS c42
        go_enter Tryz.func126, Tryz.ntmps126
        go_wp2_with fail
        go_ret
        exact ⟨ret_int (by rw [HT.out]; rfl), rfl⟩
      have f42 : ((s[k].toNat : Int) == 42) = false := by rw [beq_eq_false_iff_ne]; omega
      by_cases c47 : s[k].toNat = 47
      · have f47 : (s[k].toNat : Int) = 47 := by omega
        have HT : Hid (signN (s.data.toList.drop k) = 1) := HS.out.trans (by rw [c47]; rfl)
        clear HS c47
        go_enter Tryz.func126, Tryz.ntmps126
        go_wp2_with fail
        go_ret
        exact ⟨ret_int (by rw [HT.out]; rfl), rfl⟩
      have f47 : ((s[k].toNat : Int) == 47) = false := by rw [beq_eq_false_iff_ne]; omega
      by_cases c40 : s[k].toNat = 40
      · have f40 : (s[k].toNat : Int) = 40 := by omega
        have HT : Hid (signN (s.data.toList.drop k) = 1) := HS.out.trans (by rw [c40]; rfl)
        clear HS c40
        go_enter Tryz.func126, Tryz.ntmps126
        go_wp2_with fail
        go_ret
        exact ⟨ret_int (by rw [HT.out]; rfl), rfl⟩
      have f40 : ((s[k].toNat : Int) == 40) = false := by rw [beq_eq_false_iff_ne]; omega
      by_cases c41 : s[k].toNat = 41
      · have f41 : (s[k].toNat : Int) = 41 := by omega
        have HT : Hid (signN (s.data.toList.drop k) = 1) := HS.out.trans (by rw [c41]; rfl)
        clear HS c41
        go_enter Tryz.func126, Tryz.ntmps126
        go_wp2_with fail
        go_ret
        exact ⟨ret_int (by rw [HT.out]; rfl), rfl⟩
      have f41 : ((s[k].toNat : Int) == 41) = false := by rw [beq_eq_false_iff_ne]; omega
      by_cases c123 : s[k].toNat = 123
      · have f123 : (s[k].toNat : Int) = 123 := by omega
        have HT : Hid (signN (s.data.toList.drop k) = 1) := HS.out.trans (by rw [c123]; rfl)
        clear HS c123
        go_enter Tryz.func126, Tryz.ntmps126
        go_wp2_with fail
        go_ret
        exact ⟨ret_int (by rw [HT.out]; rfl), rfl⟩
      have f123 : ((s[k].toNat : Int) == 123) = false := by rw [beq_eq_false_iff_ne]; omega
      by_cases c125 : s[k].toNat = 125
      · have f125 : (s[k].toNat : Int) = 125 := by omega
        have HT : Hid (signN (s.data.toList.drop k) = 1) := HS.out.trans (by rw [c125]; rfl)
        clear HS c125
        go_enter Tryz.func126, Tryz.ntmps126
        go_wp2_with fail
        go_ret
        exact ⟨ret_int (by rw [HT.out]; rfl), rfl⟩
      have f125 : ((s[k].toNat : Int) == 125) = false := by rw [beq_eq_false_iff_ne]; omega
      by_cases c91 : s[k].toNat = 91
      · have f91 : (s[k].toNat : Int) = 91 := by omega
        have HT : Hid (signN (s.data.toList.drop k) = 1) := HS.out.trans (by rw [c91]; rfl)
        clear HS c91
        go_enter Tryz.func126, Tryz.ntmps126
        go_wp2_with fail
        go_ret
        exact ⟨ret_int (by rw [HT.out]; rfl), rfl⟩
      have f91 : ((s[k].toNat : Int) == 91) = false := by rw [beq_eq_false_iff_ne]; omega
      by_cases c93 : s[k].toNat = 93
      · have f93 : (s[k].toNat : Int) = 93 := by omega
        have HT : Hid (signN (s.data.toList.drop k) = 1) := HS.out.trans (by rw [c93]; rfl)
        clear HS c93
        go_enter Tryz.func126, Tryz.ntmps126
        go_wp2_with fail
        go_ret
        exact ⟨ret_int (by rw [HT.out]; rfl), rfl⟩
      have f93 : ((s[k].toNat : Int) == 93) = false := by rw [beq_eq_false_iff_ne]; omega
      by_cases c44 : s[k].toNat = 44
      · have f44 : (s[k].toNat : Int) = 44 := by omega
        have HT : Hid (signN (s.data.toList.drop k) = 1) := HS.out.trans (by rw [c44]; rfl)
        clear HS c44
        go_enter Tryz.func126, Tryz.ntmps126
        go_wp2_with fail
        go_ret
        exact ⟨ret_int (by rw [HT.out]; rfl), rfl⟩
      have f44 : ((s[k].toNat : Int) == 44) = false := by rw [beq_eq_false_iff_ne]; omega
      have HT : Hid (signN (s.data.toList.drop k) = 0) := HS.out.trans (by rw [if_neg]; simp [signC]; omega)
      clear HS c60 c62 c61 c43 c45 c42 c47 c40 c41 c123 c125 c91 c93 c44
      go_enter Tryz.func126, Tryz.ntmps126
      go_wp2_with fail
      go_ret
      exact ⟨ret_int (by rw [HT.out]; rfl), rfl⟩
  by_cases h1 : k + 1 < s.size
  · have hI : (k : Int) + 1 < s.size := by omega
    have hI2 : (k : Int) + 2 ≤ s.size := by omega
    cases e0 : ((s.extract k (k + 2)).toList == [61, 61]) with
    | true =>
      have HT : Hid (signN (s.data.toList.drop k) = 2) := sign_two h1 (by simp [sign2, e0])
      clear key
      go_enter Tryz.func126, Tryz.ntmps126
      go_wp2_with fail
      go_ret
      exact ⟨ret_int (by rw [HT.out]; rfl), rfl⟩
    | false =>
    cases e1 : ((s.extract k (k + 2)).toList == [33, 61]) with
    | true =>
      have HT : Hid (signN (s.data.toList.drop k) = 2) := sign_two h1 (by simp [sign2, e1])
      clear key
      go_enter Tryz.func126, Tryz.ntmps126
      go_wp2_with fail
      go_ret
      exact ⟨ret_int (by rw [HT.out]; rfl), rfl⟩
    | false =>
    cases e2 : ((s.extract k (k + 2)).toList == [60, 61]) with
    | true =>
      have HT : Hid (signN (s.data.toList.drop k) = 2) := sign_two h1 (by simp [sign2, e2])
      clear key
      go_enter Tryz.func126, Tryz.ntmps126
      go_wp2_with fail
      go_ret
      exact ⟨ret_int (by rw [HT.out]; rfl), rfl⟩
    | false =>
    cases e3 : ((s.extract k (k + 2)).toList == [62, 61]) with
    | true =>
      have HT : Hid (signN (s.data.toList.drop k) = 2) := sign_two h1 (by simp [sign2, e3])
      clear key
      go_enter Tryz.func126, Tryz.ntmps126
      go_wp2_with fail
      go_ret
      exact ⟨ret_int (by rw [HT.out]; rfl), rfl⟩
    | false =>
    cases e4 : ((s.extract k (k + 2)).toList == [61, 126]) with
    | true =>
      have HT : Hid (signN (s.data.toList.drop k) = 2) := sign_two h1 (by simp [sign2, e4])
      clear key
      go_enter Tryz.func126, Tryz.ntmps126
      go_wp2_with fail
      go_ret
      exact ⟨ret_int (by rw [HT.out]; rfl), rfl⟩
    | false =>
    cases e5 : ((s.extract k (k + 2)).toList == [33, 126]) with
    | true =>
      have HT : Hid (signN (s.data.toList.drop k) = 2) := sign_two h1 (by simp [sign2, e5])
      clear key
      go_enter Tryz.func126, Tryz.ntmps126
      go_wp2_with fail
      go_ret
      exact ⟨ret_int (by rw [HT.out]; rfl), rfl⟩
    | false =>
    exact key (.inr ⟨e0, e1, e2, e3, e4, e5⟩)
  · exact key (.inl h1)
def TextOk (k : Nat) (w : World) (r : Option (List UInt8 × Nat)) (e : Ending) (w' : World) : Prop := Below w.heap.size w w' ∧ match r with
  | some (x, n) => e = .returned (.tuple #[.string (mkB x), .int .i64 ((k + 1 + n : Nat) : Int), .bool true])
  | none => e = .returned (.tuple #[.string ⟨#[]⟩, .int .i64 0, .bool false])
def txtSt (s : ByteArray) (k j : Nat) (acc : List UInt8) : Prop := textS false (s.data.toList.drop (k + 1)) = (textS false (s.data.toList.drop j)).map fun x => (acc ++ x.1, x.2 + (j - (k + 1)))
theorem txt_none {s : ByteArray} {k j : Nat} {acc : List UInt8} (h : txtSt s k j acc) (hn : textS false (s.data.toList.drop j) = none) : textS false (s.data.toList.drop (k + 1)) = none := by
  rw [h, hn]; rfl
theorem txt_end {s : ByteArray} {k j : Nat} {acc : List UInt8} (h : txtSt s k j acc) (hj : k + 1 ≤ j) (hlt : j < s.size) (h34 : s[j].toNat = 34) : textS false (s.data.toList.drop (k + 1)) = some (acc, j - k) := by
  rw [h, drop_at hlt]
  simp only [textS]
  rw [if_neg (by omega), if_pos h34]
  simp; omega
theorem txt_step {s : ByteArray} {k j : Nat} {acc : List UInt8} (h : txtSt s k j acc) (hj : k + 1 ≤ j) (hlt : j < s.size) (h32 : ¬ s[j].toNat < 32) (h34 : s[j].toNat ≠ 34) (h92 : s[j].toNat ≠ 92) : txtSt s k (j + 1) (acc ++ [s[j]]) := by
  rw [txtSt] at h ⊢
  rw [h, drop_at hlt]
  simp only [textS]
  rw [if_neg h32, if_neg h34, if_neg h92]
  cases textS false (s.data.toList.drop (j + 1)) with
  | none => rfl
  | some x => simp; omega
theorem txt_esc {s : ByteArray} {k j : Nat} {acc : List UInt8} {d : UInt8} (h : txtSt s k j acc) (hj : k + 1 ≤ j) (hlt : j + 1 < s.size) (h92 : s[j].toNat = 92) (hd : (s[j + 1].toNat = 34 ∨ s[j + 1].toNat = 92) ∧ d = s[j + 1] ∨ s[j + 1].toNat = 110 ∧ d = 10) : txtSt s k (j + 2) (acc ++ [d]) := by
  rw [txtSt] at h ⊢
  rw [h, drop_at (by omega : j < s.size), drop_at hlt]
  simp only [textS]
  rw [if_neg (by omega), if_neg (by omega), if_pos h92]
  have e : (textS true (s[j + 1] :: s.data.toList.drop (j + 1 + 1))) = (textS false (s.data.toList.drop (j + 2))).map fun x => (d :: x.1, x.2 + 1) := by
    simp only [textS]
    rcases hd with ⟨h1, rfl⟩ | ⟨h1, rfl⟩
    · rw [if_pos h1]
    · rw [if_neg (by omega), if_pos h1]
  simp only [textS] at e
  rw [e]
  cases textS false (s.data.toList.drop (j + 2)) with
  | none => rfl
  | some x => simp; omega
theorem txt_bad {s : ByteArray} {k j : Nat} {acc : List UInt8} (h : txtSt s k j acc) (hlt : j < s.size) (h92 : s[j].toNat = 92) (hd : ∀ h : j + 1 < s.size, s[j + 1].toNat ≠ 34 ∧ s[j + 1].toNat ≠ 92 ∧ s[j + 1].toNat ≠ 110) : textS false (s.data.toList.drop (k + 1)) = none := by
  refine txt_none h ?_
  rw [drop_at hlt]
  simp only [textS]
  rw [if_neg (by omega), if_neg (by omega), if_pos h92]
  by_cases h1 : j + 1 < s.size
  · obtain ⟨a, b, c⟩ := hd h1
    rw [drop_at h1]
    simp only [textS]
    rw [if_neg (by omega), if_neg c]; rfl
  · rw [List.drop_eq_nil_of_le (by rw [← Lib.size_eq]; omega)]; rfl
theorem textOk_none {k : Nat} {w w' : World} {r : Option (List UInt8 × Nat)} (h : r = none) (hb : Below w.heap.size w w') : TextOk k w r (.returned (.tuple #[.string ⟨#[]⟩, .int .i64 0, .bool false])) w' := by
  subst h; exact ⟨hb, rfl⟩
set_option maxRecDepth 100000 in
set_option maxHeartbeats 4000000 in
theorem rtext_any (s : ByteArray) (k : Nat) (w : World) (hs : s.size ≤ 4096) (hk : k < s.size) : Calls Tryz.prog 125 #[.string s, .int .i64 (k : Int)] w (TextOk k w (textS false (s.data.toList.drop (k + 1)))) := by
  have hk0 : (0 : Int) ≤ k := by omega
  have hkI : (k : Int) < s.size := by omega
  go_enter Tryz.func125, Tryz.ntmps125
  go_wp2_with fail
  go_loopw [7, 8] (fun o i wr => ∃ (j c : Nat) (A : Option Addr) (acc : List UInt8), k + 1 ≤ j ∧ j ≤ s.size ∧ i = .int .i64 j ∧ o = .slice A acc.length c ∧ acc.length ≤ j ∧ Own wr w.heap.size 5 1 A acc.length c (bytesC acc) ∧ Hid (txtSt s k j acc) ∧ Below w.heap.size w wr) (fun _ i _ => s.size - (intOf i).toNat)
  case atStart => exact ⟨k + 1, 0, none, [], Nat.le_refl _, by omega, by go_num, rfl, by simp, Own.nil_ (by omega), by show txtSt _ _ _ _; simp [txtSt], Below.refl _ _⟩
  case round =>
    obtain ⟨j, c, A, acc, hkj, hjs, rfl, rfl, hal, hO, HT, hb⟩ := hrel
    have hj0 : (0 : Int) ≤ j := by omega
    have hbs := hb.size
    have hcap := hO.cap
    by_cases hlt : j < s.size
    · have hltI : (j : Int) < s.size := by omega
      by_cases h34 : s[j].toNat = 34
      · have h34I : (s[j].toNat : Int) = 34 := by omega
        have HE := Lib.hid (txt_end HT.out hkj hlt h34)
        have hcv := run_conv_rd (P := Tryz.prog) hO.rd 91 5 9 Tryz.underlying91 Tryz.underlying5 Tryz.underlying9 acc.length c rfl (fun _ => hO.shape)
        clear HT h34
        go_wp2_with fail
        go_ret3
        rw [HE.out]
        exact ⟨hb, by simp; omega⟩
      · have h34I : ((s[j].toNat : Int) == 34) = false := by rw [beq_eq_false_iff_ne]; omega
        by_cases h32 : s[j].toNat < 32
        · have h32I : (s[j].toNat : Int) < 32 := by omega
          have HE := Lib.hid (txt_none HT.out (by rw [drop_at hlt]; simp only [textS]; rw [if_pos h32]))
          clear HT h34 h32
          go_wp2_with fail
          go_ret3
          exact textOk_none HE.out hb
        · have h32I : ¬ (s[j].toNat : Int) < 32 := by omega
          by_cases h92 : s[j].toNat = 92
          · have h92I : (s[j].toNat : Int) = 92 := by omega
            by_cases hlt1 : j + 1 < s.size
            · have hltJ : (j : Int) + 1 < s.size := by omega
              have hltK : ¬ (s.size : Int) ≤ (j : Int) + 1 := by omega
              by_cases g110 : s[j + 1].toNat = 110
              · have g110I : (s[j + 1].toNat : Int) = 110 := by omega
                have HT2 := Lib.hid (txt_esc (d := 10) HT.out hkj hlt1 h92 (.inr ⟨g110, rfl⟩))
                clear HT h34 h32 h92 g110
                go_wp2_with (at_builtin; refine wpList_append_rd (ys := bytesC [10]) _ rfl (.tmp 70) (.tmp 71) _ rfl eiByte rfl (hO.alloc _) rfl (Rd.byte 10 (by simp)) rfl (one_bytes _) (by simp only [maxLen]; omega) (by omega) (by simp; omega) ?_; intro A' c' w2 ho hg hat hb2)
                go_roundw
                case rel => exact ⟨j + 2, c', A', acc ++ [10], by omega, by omega, by go_num, by simp, by simp; omega, by simpa [bytesC] using ho, HT2, (hb.alloc hbs _).trans hb2⟩
                case measure => simp [intOf]; omega
              · have g110I : ((s[j + 1].toNat : Int) == 110) = false := by rw [beq_eq_false_iff_ne]; omega
                have g110J : ((s[j + 1].toNat : Int) != 110) = true := by rw [bne_iff_ne]; omega
                by_cases g34 : s[j + 1].toNat = 34 ∨ s[j + 1].toNat = 92
                · have HT2 := Lib.hid (txt_esc (d := s[j + 1]) HT.out hkj hlt1 h92 (.inl ⟨g34, rfl⟩))
                  clear HT h34 h32 h92 g110
                  have hcs : ((s[j + 1].toNat : Int) != 34) = false ∨ (((s[j + 1].toNat : Int) != 34) = true ∧ ((s[j + 1].toNat : Int) != 92) = false) := by
                    rcases g34 with g | g
                    · exact .inl (by rw [g]; rfl)
                    · exact .inr (by rw [g]; exact ⟨rfl, rfl⟩)
                  clear g34
                  rcases hcs with g | ⟨g, g'⟩
                  all_goals
                    go_wp2_with (at_builtin; refine wpList_append_rd (ys := bytesC [s[j + 1]]) _ rfl (.tmp 73) (.tmp 77) _ rfl eiByte rfl (hO.alloc _) rfl (Rd.byte s[j + 1] (by simp)) rfl (one_bytes _) (by simp only [maxLen]; omega) (by omega) (by simp; omega) ?_; intro A' c' w2 ho hg hat hb2)
                    go_roundw
                    case rel => exact ⟨j + 2, c', A', acc ++ [s[j + 1]], by omega, by omega, by go_num, by simp, by simp; omega, by simpa [bytesC] using ho, HT2, (hb.alloc hbs _).trans hb2⟩
                    case measure => simp [intOf]; omega
                · have g34I : ((s[j + 1].toNat : Int) != 34) = true := by rw [bne_iff_ne]; omega
                  have g92I : ((s[j + 1].toNat : Int) != 92) = true := by rw [bne_iff_ne]; omega
                  have HE := Lib.hid (txt_bad HT.out hlt h92 (fun _ => ⟨by omega, by omega, g110⟩))
                  clear HT h34 h32 h92 g110 g34
                  go_wp2_with fail
                  go_ret3
                  exact textOk_none HE.out hb
            · have hltJ : ¬ (j : Int) + 1 < s.size := by omega
              have hltK : (s.size : Int) ≤ (j : Int) + 1 := by omega
              have HE := Lib.hid (txt_bad HT.out hlt h92 (fun h => absurd h hlt1))
              clear HT h34 h32 h92
              go_wp2_with fail
              go_ret3
              exact textOk_none HE.out hb
          · have h92I : ((s[j].toNat : Int) == 92) = false := by rw [beq_eq_false_iff_ne]; omega
            have HT2 := Lib.hid (txt_step HT.out hkj hlt h32 h34 h92)
            clear HT h34 h32 h92
            go_wp2_with (at_builtin; refine wpList_append_rd (ys := bytesC [s[j]]) _ rfl (.tmp 17) (.tmp 21) _ rfl eiByte rfl (hO.alloc _) rfl (Rd.byte s[j] (by simp)) rfl (one_bytes _) (by simp only [maxLen]; omega) (by omega) (by simp; omega) ?_; intro A' c' w2 ho hg hat hb2)
            go_roundw
            case rel => exact ⟨j + 1, c', A', acc ++ [s[j]], by omega, by omega, by go_num, by simp, by simp; omega, by simpa [bytesC] using ho, HT2, (hb.alloc hbs _).trans hb2⟩
            case measure => simp [intOf]; omega
    · have hltI : ¬ (j : Int) < s.size := by omega
      have HE := Lib.hid (txt_none HT.out (by rw [show j = s.size from by omega, drop_end]; rfl))
      clear HT
      go_wp2_with fail
      go_ret3
      exact textOk_none HE.out hb
end Go.Proofs.YtakfnojiaakfpaaGreatDoor
