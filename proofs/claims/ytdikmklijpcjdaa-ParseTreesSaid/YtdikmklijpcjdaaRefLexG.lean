/- The document's own lexing: signs, texts. -/
import Derived.Test.YtdikmklijpcjdaaLexJ
namespace Go.Proofs.Ytdikmklijpcjdaa
section
/-! ## RefLexW -/
open Go.RowKit

set_option maxHeartbeats 1000000 in
theorem rdigit_any (c : UInt8) (w : World) : Calls Try.prog 43 #[.int .u8 (c.toNat : Int)] w fun e w' => e = .returned (.bool (dchar c)) ∧ w = w' := by
  have hu := u8_le c
  have h0 : (0 : Int) ≤ c.toNat := by omega
  have h255 : (c.toNat : Int) ≤ 255 := by omega
  rcases lclass c.toNat hu with h | h | h | h | h | h | h | h | h | h
  · have h1 : (0 : Int) ≤ c.toNat := by omega
    have h2 : (c.toNat : Int) ≤ 47 := by omega
    have HT : Hid (dchar c = false) := by show dchar c = _; simp [dchar]; omega
    clear h hu
    go_enter Try.func43, Try.ntmps43
    go_wp2
    go_ret
    exact ⟨ret_bool (by first | exact HT.out.symm | (rw [HT.out]; simp; omega)), rfl⟩
  · have h1 : (48 : Int) ≤ c.toNat := by omega
    have h2 : (c.toNat : Int) ≤ 57 := by omega
    have HT : Hid (dchar c = true) := by show dchar c = _; simp [dchar]; omega
    clear h hu
    go_enter Try.func43, Try.ntmps43
    go_wp2
    go_ret
    exact ⟨ret_bool (by first | exact HT.out.symm | (rw [HT.out]; simp; omega)), rfl⟩
  · have h1 : (58 : Int) ≤ c.toNat := by omega
    have h2 : (c.toNat : Int) ≤ 58 := by omega
    have HT : Hid (dchar c = false) := by show dchar c = _; simp [dchar]; omega
    clear h hu
    go_enter Try.func43, Try.ntmps43
    go_wp2
    go_ret
    exact ⟨ret_bool (by first | exact HT.out.symm | (rw [HT.out]; simp; omega)), rfl⟩
  · have h1 : (59 : Int) ≤ c.toNat := by omega
    have h2 : (c.toNat : Int) ≤ 64 := by omega
    have HT : Hid (dchar c = false) := by show dchar c = _; simp [dchar]; omega
    clear h hu
    go_enter Try.func43, Try.ntmps43
    go_wp2
    go_ret
    exact ⟨ret_bool (by first | exact HT.out.symm | (rw [HT.out]; simp; omega)), rfl⟩
  · have h1 : (65 : Int) ≤ c.toNat := by omega
    have h2 : (c.toNat : Int) ≤ 90 := by omega
    have HT : Hid (dchar c = false) := by show dchar c = _; simp [dchar]; omega
    clear h hu
    go_enter Try.func43, Try.ntmps43
    go_wp2
    go_ret
    exact ⟨ret_bool (by first | exact HT.out.symm | (rw [HT.out]; simp; omega)), rfl⟩
  · have h1 : (91 : Int) ≤ c.toNat := by omega
    have h2 : (c.toNat : Int) ≤ 94 := by omega
    have HT : Hid (dchar c = false) := by show dchar c = _; simp [dchar]; omega
    clear h hu
    go_enter Try.func43, Try.ntmps43
    go_wp2
    go_ret
    exact ⟨ret_bool (by first | exact HT.out.symm | (rw [HT.out]; simp; omega)), rfl⟩
  · have h1 : (95 : Int) ≤ c.toNat := by omega
    have h2 : (c.toNat : Int) ≤ 95 := by omega
    have HT : Hid (dchar c = false) := by show dchar c = _; simp [dchar]; omega
    clear h hu
    go_enter Try.func43, Try.ntmps43
    go_wp2
    go_ret
    exact ⟨ret_bool (by first | exact HT.out.symm | (rw [HT.out]; simp; omega)), rfl⟩
  · have h1 : (96 : Int) ≤ c.toNat := by omega
    have h2 : (c.toNat : Int) ≤ 96 := by omega
    have HT : Hid (dchar c = false) := by show dchar c = _; simp [dchar]; omega
    clear h hu
    go_enter Try.func43, Try.ntmps43
    go_wp2
    go_ret
    exact ⟨ret_bool (by first | exact HT.out.symm | (rw [HT.out]; simp; omega)), rfl⟩
  · have h1 : (97 : Int) ≤ c.toNat := by omega
    have h2 : (c.toNat : Int) ≤ 122 := by omega
    have HT : Hid (dchar c = false) := by show dchar c = _; simp [dchar]; omega
    clear h hu
    go_enter Try.func43, Try.ntmps43
    go_wp2
    go_ret
    exact ⟨ret_bool (by first | exact HT.out.symm | (rw [HT.out]; simp; omega)), rfl⟩
  · have h1 : (123 : Int) ≤ c.toNat := by omega
    have h2 : (c.toNat : Int) ≤ 255 := by omega
    have HT : Hid (dchar c = false) := by show dchar c = _; simp [dchar]; omega
    clear h hu
    go_enter Try.func43, Try.ntmps43
    go_wp2
    go_ret
    exact ⟨ret_bool (by first | exact HT.out.symm | (rw [HT.out]; simp; omega)), rfl⟩
def wholeB (l : List UInt8) : Bool := l.all dchar && decide (1 ≤ l.length) && !needB l
theorem whole_yes {s : ByteArray} (h : ∀ j (hj : j < s.size), j < s.size → dchar s[j] = true) : wholeB s.data.toList = (decide (1 ≤ s.size) && !needB s.data.toList) := by
  rw [wholeB, nall_true h, ← Lib.size_eq]; rfl
theorem whole_no {s : ByteArray} {k : Nat} (hk : k < s.size) (h : dchar s[k] = false) : wholeB s.data.toList = false := by
  rw [wholeB, nall_false hk h]; rfl
set_option maxRecDepth 100000 in
set_option maxHeartbeats 2000000 in
theorem whole_any (s : ByteArray) (w : World) (hs : s.size ≤ 140737488355328) : Calls Try.prog 62 #[.string s] w fun e w' => e = .returned (.bool (wholeB s.data.toList)) ∧ w = w' := by
  go_enter Try.func62, Try.ntmps62
  go_wp2_with fail
  go_loop [3] (fun i => ∃ k : Nat, k ≤ s.size ∧ i = .int .i64 k ∧ Hid (∀ j (hj : j < s.size), j < k → dchar s[j] = true)) (fun i => s.size - (intOf i).toNat)
  case atStart => exact ⟨0, by omega, rfl, fun j _ h => by omega⟩
  case round =>
    obtain ⟨k, hk, rfl, HA⟩ := hrel
    have hk0 : (0 : Int) ≤ k := by omega
    by_cases hlt : k < s.size
    · have hltI : (k : Int) < s.size := by omega
      cases hd : dchar s[k] with
      | true =>
        have HA2 := nall_step hlt hd HA
        have HD1 := fun (W : World) => Lib.hid (hd ▸ rdigit_any s[k] W)
        clear hd HA
        go_wp2_with (go_at_call 43; refine ((HD1 _).out).mono ?_; rintro e w' ⟨rfl, rfl⟩)
        go_round
        case rel => exact ⟨k + 1, by omega, by go_num, HA2⟩
        case measure => simp [intOf]; omega
      | false =>
        have HE := Lib.hid (whole_no hlt hd)
        have HD1 := fun (W : World) => Lib.hid (hd ▸ rdigit_any s[k] W)
        clear hd HA
        go_wp2_with (go_at_call 43; refine ((HD1 _).out).mono ?_; rintro e w' ⟨rfl, rfl⟩)
        go_ret
        exact ⟨ret_bool HE.out.symm, rfl⟩
    · have hltI : ¬ (k : Int) < s.size := by omega
      have HE := Lib.hid (whole_yes (s := s) fun j hj _ => HA.out j hj (by omega))
      clear HA
      by_cases h1 : 1 ≤ s.size
      · have hem := isEmpty_no h1
        have h0I : (0 : Int) < s.size := by omega
        by_cases h2 : s.size = 1
        · have h2I : ((s.size : Int) == 1) = true := by rw [beq_iff_eq]; omega
          have HT : Hid (wholeB s.data.toList = true) := by
            show _ = _
            rw [HE.out, decide_eq_true h1, needB, ← Lib.size_eq, decide_eq_false (by omega)]; rfl
          clear h2
          go_wp2_with fail
          go_ret
          exact ⟨ret_bool HT.out.symm, rfl⟩
        · have h2I : ((s.size : Int) == 1) = false := by rw [beq_eq_false_iff_ne]; omega
          have h3 : 0 < s.size := by omega
          by_cases h48 : s[0].toNat = 48
          · have h48I : ((s[0].toNat : Int) != 48) = false := by rw [bne_eq_false_iff_eq]; omega
            have HT : Hid (wholeB s.data.toList = false) := by
              show _ = _
              have : s[0] = 48 := UInt8.toNat_inj.1 h48
              rw [HE.out, needB, ← Lib.size_eq, decide_eq_true (by omega), head_at h3, this]; simp; omega
            clear h48
            go_wp2_with fail
            go_ret
            exact ⟨ret_bool HT.out.symm, rfl⟩
          · have h48I : ((s[0].toNat : Int) != 48) = true := by rw [bne_iff_ne]; omega
            have HT : Hid (wholeB s.data.toList = true) := by
              show _ = _
              have : s[0] ≠ 48 := fun h => h48 (by rw [h]; rfl)
              rw [HE.out, needB, decide_eq_true h1, head_at h3]; simp [this]
            clear h48
            go_wp2_with fail
            go_ret
            exact ⟨ret_bool HT.out.symm, rfl⟩
      · have hem := isEmpty_yes h1
        have HT : Hid (wholeB s.data.toList = false) := by show _ = _; rw [HE.out, decide_eq_false h1]; rfl
        go_wp2_with fail
        go_ret
        exact ⟨ret_bool HT.out.symm, rfl⟩
end
section
/-! ## RefLexN -/
open Go.RowKit

/-- Where the first point is, or the end. -/
def dotI (l : List UInt8) : Nat := (l.takeWhile fun c => !(c.toNat == 46)).length
theorem dotI_le (l : List UInt8) : dotI l ≤ l.length := (List.takeWhile_sublist _).length_le
theorem dotI_yes {s : ByteArray} {k : Nat} (hk : k < s.size) (h : s[k].toNat = 46) : dotI (s.data.toList.drop k) = 0 := by
  rw [drop_at hk, dotI, List.takeWhile_cons, if_neg (by simp [h])]; rfl
theorem dotI_no {s : ByteArray} {k : Nat} (hk : k < s.size) (h : s[k].toNat ≠ 46) : dotI (s.data.toList.drop k) = 1 + dotI (s.data.toList.drop (k + 1)) := by
  rw [drop_at hk, dotI, List.takeWhile_cons, if_pos (by simp [h]), List.length_cons, dotI, Nat.add_comm]
theorem dotI_end {s : ByteArray} : dotI (s.data.toList.drop s.size) = 0 := by rw [drop_end]; rfl
/-- The document's form of a number. -/
def numR (l : List UInt8) : Bool :=
  wholeB (l.take (dotI l)) && (if dotI l = l.length then decide (l.length ≤ 15) else (l.drop (dotI l + 1)).all dchar && decide (dotI l + 1 < l.length) && decide (l.length ≤ 16))
theorem dig_dot {c : UInt8} (h : dchar c = true) : (!(c.toNat == 46)) = true := by simp [dchar] at h; simp; omega
theorem all_digN {l : List UInt8} : l.all dchar = true ↔ digN l = l.length := by
  induction l with
  | nil => simp [digN]
  | cons c r ih =>
    rw [List.all_cons, Bool.and_eq_true, ih]
    cases h : dchar c with
    | true => simp [digN, h]
    | false => simp [digN, h]
theorem digN_take : ∀ (l : List UInt8), (l.take (dotI l)).all dchar = true → digN l = dotI l
  | [], _ => rfl
  | c :: r, h => by
    by_cases h46 : c.toNat = 46
    · have e1 : dotI (c :: r) = 0 := by simp [dotI, h46]
      have : dchar c = false := by simp [dchar, h46]
      rw [e1, digN, List.takeWhile_cons, if_neg (by simp [this])]; rfl
    · have e1 : dotI (c :: r) = dotI r + 1 := by simp [dotI, h46]
      rw [e1, List.take_succ_cons, List.all_cons, Bool.and_eq_true] at h
      have := digN_take r h.2
      rw [e1, digN, List.takeWhile_cons, if_pos h.1, List.length_cons, ← this]; rfl
theorem dotI_dig : ∀ (l : List UInt8), digN l = l.length ∨ (∃ c, l[digN l]? = some c ∧ c.toNat = 46) → dotI l = digN l
  | [], _ => rfl
  | c :: r, h => by
    cases hd : dchar c with
    | true =>
      have e1 : digN (c :: r) = digN r + 1 := by simp [digN, hd]
      have e2 : dotI (c :: r) = dotI r + 1 := by
        have := dig_dot hd
        simp at this
        simp [dotI, this]
      rw [e1] at h
      rw [e1, e2, dotI_dig r (by simpa using h)]
    | false =>
      have e1 : digN (c :: r) = 0 := by simp [digN, hd]
      rw [e1] at h
      rcases h with h | ⟨x, h1, h2⟩
      · simp at h
      · simp at h1; subst h1
        rw [e1]; simp [dotI, h2]
theorem take_all_dig (l : List UInt8) : (l.take (digN l)).all dchar = true := List.all_eq_true.2 (take_digs l)
theorem dot_at {l : List UInt8} (h : dotI l < l.length) : ∃ c, l[dotI l]? = some c ∧ c.toNat = 46 := by
  induction l with
  | nil => simp at h
  | cons c r ih =>
    by_cases h46 : c.toNat = 46
    · exact ⟨c, by simp [dotI, h46], h46⟩
    · have e1 : dotI (c :: r) = dotI r + 1 := by simp [dotI, h46]
      rw [e1] at h ⊢
      simpa using ih (by simpa using h)
theorem needB_take (l : List UInt8) (n : Nat) (h : n = (l.take n).length) : needB (l.take n) = (decide (1 < n) && (l.head? == some 48)) := by
  rw [needB, ← h]
  cases n with
  | zero => simp
  | succ n => cases l <;> simp
theorem numR_eq (l : List UInt8) : numR l = numB l := by
  by_cases hw : (l.take (dotI l)).all dchar = true
  · have hd := digN_take l hw
    have hlen : (l.take (dotI l)).length = dotI l := by rw [List.length_take]; have := dotI_le l; omega
    have hwb : wholeB (l.take (dotI l)) = (decide (1 ≤ dotI l) && !needB (l.take (dotI l))) := by rw [wholeB, hw, hlen]; rfl
    rw [numR, numB, hd, hwb]
    by_cases h0 : dotI l = 0 ∨ needB (l.take (dotI l)) = true
    · rw [if_pos h0]
      rcases h0 with h0 | h0
      · rw [decide_eq_false (by omega)]; rfl
      · rw [h0]; simp
    · rw [if_neg h0]
      have h1 : 1 ≤ dotI l := by
        have : dotI l ≠ 0 := fun h => h0 (.inl h)
        omega
      have h2 : needB (l.take (dotI l)) = false := by
        cases h : needB (l.take (dotI l)) with
        | false => rfl
        | true => exact absurd (.inr h) h0
      rw [decide_eq_true h1, h2]
      simp only [Bool.true_and, Bool.not_false]
      by_cases he : dotI l = l.length
      · rw [if_pos he, if_pos he, he]
      · rw [if_neg he, if_neg he]
        have hlt : dotI l < l.length := by have := dotI_le l; omega
        obtain ⟨c, hc, h46⟩ := dot_at hlt
        have hdb : dotB l[dotI l]? = true := by rw [hc]; simp [dotB, h46]
        rw [hdb, Bool.true_and]
        have hdl : (l.drop (dotI l + 1)).length = l.length - (dotI l + 1) := List.length_drop
        have hm := digN_le (l.drop (dotI l + 1))
        by_cases ha : (l.drop (dotI l + 1)).all dchar = true
        · have hm2 := all_digN.1 ha
          rw [ha, hm2, hdl]
          by_cases hx : dotI l + 1 < l.length
          · rw [decide_eq_true hx, decide_eq_true (show 0 < l.length - (dotI l + 1) by omega), decide_eq_true (show dotI l + 1 + (l.length - (dotI l + 1)) = l.length by omega)]
            simp only [Bool.true_and]
            exact decide_eq_decide.2 (by omega)
          · rw [decide_eq_false hx, decide_eq_false (show ¬ 0 < l.length - (dotI l + 1) by omega)]; rfl
        · have hm2 : digN (l.drop (dotI l + 1)) ≠ (l.drop (dotI l + 1)).length := fun h => ha (all_digN.2 h)
          have ha2 : (l.drop (dotI l + 1)).all dchar = false := by simpa using ha
          rw [ha2, decide_eq_false (show ¬ dotI l + 1 + digN (l.drop (dotI l + 1)) = l.length by omega)]
          simp
  · have hwb : wholeB (l.take (dotI l)) = false := by rw [wholeB]; simp at hw; simp; intro h; obtain ⟨x, hx, hx2⟩ := hw; have := h x hx; rw [hx2] at this; cases this
    rw [numR, hwb, Bool.false_and]
    have hno : dotI l ≠ digN l := fun h => hw (by rw [h]; exact take_all_dig l)
    rw [numB]
    by_cases h0 : digN l = 0 ∨ needB (l.take (digN l)) = true
    · rw [if_pos h0]
    · rw [if_neg h0]
      by_cases he : digN l = l.length
      · exact absurd (dotI_dig l (.inl he)) hno
      · rw [if_neg he]
        have hlt : digN l < l.length := by have := digN_le l; omega
        have hc : l[digN l]? = some l[digN l] := List.getElem?_eq_getElem hlt
        have : dotB l[digN l]? = false := by
          rw [hc]
          simp only [dotB]
          rw [beq_eq_false_iff_ne]
          intro h46
          exact hno (dotI_dig l (.inr ⟨_, hc, by omega⟩))
        rw [this]; rfl
theorem drop_all_step {s : ByteArray} {k : Nat} (h : k < s.size) (hd : dchar s[k] = true) : (s.data.toList.drop k).all dchar = (s.data.toList.drop (k + 1)).all dchar := by
  rw [drop_at h, List.all_cons, hd, Bool.true_and]
set_option maxRecDepth 100000 in
set_option maxHeartbeats 4000000 in
theorem rnumber_any (s : ByteArray) (w : World) (hs : s.size ≤ 140737488355328) : Calls Try.prog 46 #[.string s] w fun e w' => e = .returned (.bool (numB s.data.toList)) ∧ w = w' := by
  have HN := Lib.hid (numR_eq s.data.toList)
  have hl : s.data.toList.length = s.size := (Lib.size_eq s).symm
  obtain ⟨d, hd⟩ : ∃ d, dotI s.data.toList = d := ⟨_, rfl⟩
  have hds : d ≤ s.size := by rw [← hd, ← hl]; exact dotI_le _
  have HD := Lib.hid hd
  have HL := Lib.hid hl
  have hW := fun W => Lib.hid (whole_any (s.extract 0 d) W (by have := extract_size_le s 0 d; omega))
  obtain ⟨b, hb⟩ : ∃ b, wholeB (s.extract 0 d).data.toList = b := ⟨_, rfl⟩
  rw [hb] at hW
  have HB : Hid (numB s.data.toList = (b && (if d = s.size then decide (s.size ≤ 15) else (s.data.toList.drop (d + 1)).all dchar && decide (d + 1 < s.size) && decide (s.size ≤ 16)))) := by
    show _ = _
    rw [← HN.out, numR, hd, hl, ← hb, extract_toL, List.drop_zero, Nat.sub_zero]
  clear hd hl HN hb
  have hd0 : (0 : Int) ≤ d := by omega
  have hdI : (d : Int) ≤ s.size := by omega
  go_enter Try.func46, Try.ntmps46
  go_wp2_with fail
  go_loop [3, 4] (fun x i => ∃ (k : Nat) (y : Nat), k ≤ s.size ∧ i = .int .i64 ((k : Int) - 1) ∧ x = .int .i64 (y : Int) ∧ Hid (y = k + dotI (s.data.toList.drop k))) (fun _ i => (intOf i + 1).toNat)
  case atStart => exact ⟨s.size, s.size, Nat.le_refl _, rfl, rfl, by show _ = _; rw [dotI_end]; rfl⟩
  case round =>
    obtain ⟨k, y, hk, rfl, rfl, HY⟩ := hrel
    by_cases hlt : 0 < k
    · obtain ⟨j, rfl⟩ : ∃ j, k = j + 1 := ⟨k - 1, by omega⟩
      have hj0 : (0 : Int) ≤ (j : Int) := by omega
      have hjI : (j : Int) < s.size := by omega
      have hjs : j < s.size := by omega
      have e0 : (((j + 1 : Nat) : Int) - 1) = (j : Int) := by omega
      simp only [e0]
      by_cases h46 : s[j].toNat = 46
      · have h46I : (s[j].toNat : Int) = 46 := by omega
        have HY2 : Hid (j = j + dotI (s.data.toList.drop j)) := by show _ = _; rw [dotI_yes hjs h46]; rfl
        clear h46 HY e0
        go_wp2_with fail
        go_round
        case rel => exact ⟨j, j, by omega, rfl, rfl, HY2⟩
        case measure => simp [intOf]
      · have h46I : ((s[j].toNat : Int) == 46) = false := by rw [beq_eq_false_iff_ne]; omega
        have HY2 : Hid (y = j + dotI (s.data.toList.drop j)) := by show _ = _; rw [dotI_no hjs h46, ← Nat.add_assoc]; exact HY.out
        clear h46 HY e0
        go_wp2_with fail
        go_round
        case rel => exact ⟨j, y, by omega, rfl, rfl, HY2⟩
        case measure => simp [intOf]
    · obtain rfl : k = 0 := by omega
      have hy : y = d := by rw [HY.out, List.drop_zero, Nat.zero_add]; exact HD.out
      subst hy
      clear HY
      cases b with
      | false =>
        go_wp2_with (go_at_call 62; refine ((hW _).out).mono ?_; rintro e w' ⟨rfl, rfl⟩)
        go_ret
        exact ⟨ret_bool (by rw [HB.out]; rfl), rfl⟩
      | true =>
        by_cases he : y = s.size
        · have heI : ((y : Int) == s.size) = true := by rw [beq_iff_eq]; omega
          have HB2 : Hid (numB s.data.toList = decide (s.size ≤ 15)) := by show _ = _; rw [HB.out, if_pos he]; rfl
          have hE := Lib.hid he
          clear HB he
          go_wp2_with (go_at_call 62; refine ((hW _).out).mono ?_; rintro e w' ⟨rfl, rfl⟩)
          go_ret
          exact ⟨ret_bool (by rw [HB2.out]; simp; omega), rfl⟩
        · have heI : ((y : Int) == s.size) = false := by rw [beq_eq_false_iff_ne]; omega
          have HB2 : Hid (numB s.data.toList = ((s.data.toList.drop (y + 1)).all dchar && decide (y + 1 < s.size) && decide (s.size ≤ 16))) := by show _ = _; rw [HB.out, if_neg he]; rfl
          have hys : y < s.size := by omega
          have hysI : (y : Int) < s.size := by omega
          clear HB he
          go_wp2_with (go_at_call 62; refine ((hW _).out).mono ?_; rintro e w' ⟨rfl, rfl⟩)
          go_loop [5] (fun i => ∃ k : Nat, y + 1 ≤ k ∧ k ≤ s.size ∧ i = .int .i64 k ∧ Hid ((s.data.toList.drop (y + 1)).all dchar = (s.data.toList.drop k).all dchar)) (fun i => s.size - (intOf i).toNat)
          case atStart => exact ⟨y + 1, Nat.le_refl _, hys, by go_num, rfl⟩
          case round =>
            obtain ⟨k, hk1, hk2, rfl, HK⟩ := hrel
            have hk0 : (0 : Int) ≤ k := by omega
            by_cases hlt2 : k < s.size
            · have hltI : (k : Int) < s.size := by omega
              cases hdc : dchar s[k] with
              | true =>
                have HK2 := Lib.hid (HK.out.trans (drop_all_step hlt2 hdc))
                have HD1 := fun (W : World) => Lib.hid (hdc ▸ rdigit_any s[k] W)
                clear hdc HK
                go_wp2_with (go_at_call 43; refine ((HD1 _).out).mono ?_; rintro e w' ⟨rfl, rfl⟩)
                go_round
                case rel => exact ⟨k + 1, by omega, by omega, by go_num, HK2⟩
                case measure => simp [intOf]; omega
              | false =>
                have HT : Hid (numB s.data.toList = false) := by show _ = _; rw [HB2.out, HK.out, drop_at hlt2, List.all_cons, hdc]; rfl
                have HD1 := fun (W : World) => Lib.hid (hdc ▸ rdigit_any s[k] W)
                clear hdc HK
                go_wp2_with (go_at_call 43; refine ((HD1 _).out).mono ?_; rintro e w' ⟨rfl, rfl⟩)
                go_ret
                exact ⟨ret_bool HT.out.symm, rfl⟩
            · have hltI : ¬ (k : Int) < s.size := by omega
              have HT : Hid (numB s.data.toList = (decide (y + 1 < s.size) && decide (s.size ≤ 16))) := by
                show _ = _
                rw [HB2.out, HK.out, show k = s.size from by omega, drop_end]; rfl
              clear HK
              by_cases hx : y + 1 < s.size
              · have hxI : (y : Int) + 1 < s.size := by omega
                go_wp2_with fail
                go_ret
                exact ⟨ret_bool (by rw [HT.out, decide_eq_true hx]; simp; omega), rfl⟩
              · have hxI : ¬ (y : Int) + 1 < s.size := by omega
                go_wp2_with fail
                go_ret
                exact ⟨ret_bool (by rw [HT.out, decide_eq_false hx]; rfl), rfl⟩
end
section
/-! ## RefLexC -/
open Go.RowKit

def letR (c : UInt8) : Bool := (97 ≤ c.toNat && c.toNat ≤ 122) || (65 ≤ c.toNat && c.toNat ≤ 90) || c.toNat == 95
set_option maxHeartbeats 1000000 in
theorem rletter_any (c : UInt8) (w : World) : Calls Try.prog 47 #[.int .u8 (c.toNat : Int)] w fun e w' => e = .returned (.bool (letR c)) ∧ w = w' := by
  have hu := u8_le c
  have h0 : (0 : Int) ≤ c.toNat := by omega
  have h255 : (c.toNat : Int) ≤ 255 := by omega
  rcases lclass c.toNat hu with h | h | h | h | h | h | h | h | h | h
  · have h1 : (0 : Int) ≤ c.toNat := by omega
    have h2 : (c.toNat : Int) ≤ 47 := by omega
    have HT : Hid (letR c = false) := by show letR c = _; simp [letR]; omega
    clear h hu
    go_enter Try.func47, Try.ntmps47
    go_wp2
    go_ret
    exact ⟨ret_bool (by first | exact HT.out.symm | (rw [HT.out]; simp; omega)), rfl⟩
  · have h1 : (48 : Int) ≤ c.toNat := by omega
    have h2 : (c.toNat : Int) ≤ 57 := by omega
    have HT : Hid (letR c = false) := by show letR c = _; simp [letR]; omega
    clear h hu
    go_enter Try.func47, Try.ntmps47
    go_wp2
    go_ret
    exact ⟨ret_bool (by first | exact HT.out.symm | (rw [HT.out]; simp; omega)), rfl⟩
  · have h1 : (58 : Int) ≤ c.toNat := by omega
    have h2 : (c.toNat : Int) ≤ 58 := by omega
    have HT : Hid (letR c = false) := by show letR c = _; simp [letR]; omega
    clear h hu
    go_enter Try.func47, Try.ntmps47
    go_wp2
    go_ret
    exact ⟨ret_bool (by first | exact HT.out.symm | (rw [HT.out]; simp; omega)), rfl⟩
  · have h1 : (59 : Int) ≤ c.toNat := by omega
    have h2 : (c.toNat : Int) ≤ 64 := by omega
    have HT : Hid (letR c = false) := by show letR c = _; simp [letR]; omega
    clear h hu
    go_enter Try.func47, Try.ntmps47
    go_wp2
    go_ret
    exact ⟨ret_bool (by first | exact HT.out.symm | (rw [HT.out]; simp; omega)), rfl⟩
  · have h1 : (65 : Int) ≤ c.toNat := by omega
    have h2 : (c.toNat : Int) ≤ 90 := by omega
    have HT : Hid (letR c = true) := by show letR c = _; simp [letR]; omega
    clear h hu
    go_enter Try.func47, Try.ntmps47
    go_wp2
    go_ret
    exact ⟨ret_bool (by first | exact HT.out.symm | (rw [HT.out]; simp; omega)), rfl⟩
  · have h1 : (91 : Int) ≤ c.toNat := by omega
    have h2 : (c.toNat : Int) ≤ 94 := by omega
    have HT : Hid (letR c = false) := by show letR c = _; simp [letR]; omega
    clear h hu
    go_enter Try.func47, Try.ntmps47
    go_wp2
    go_ret
    exact ⟨ret_bool (by first | exact HT.out.symm | (rw [HT.out]; simp; omega)), rfl⟩
  · have h1 : (95 : Int) ≤ c.toNat := by omega
    have h2 : (c.toNat : Int) ≤ 95 := by omega
    have HT : Hid (letR c = true) := by show letR c = _; simp [letR]; omega
    clear h hu
    go_enter Try.func47, Try.ntmps47
    go_wp2
    go_ret
    exact ⟨ret_bool (by first | exact HT.out.symm | (rw [HT.out]; simp; omega)), rfl⟩
  · have h1 : (96 : Int) ≤ c.toNat := by omega
    have h2 : (c.toNat : Int) ≤ 96 := by omega
    have HT : Hid (letR c = false) := by show letR c = _; simp [letR]; omega
    clear h hu
    go_enter Try.func47, Try.ntmps47
    go_wp2
    go_ret
    exact ⟨ret_bool (by first | exact HT.out.symm | (rw [HT.out]; simp; omega)), rfl⟩
  · have h1 : (97 : Int) ≤ c.toNat := by omega
    have h2 : (c.toNat : Int) ≤ 122 := by omega
    have HT : Hid (letR c = true) := by show letR c = _; simp [letR]; omega
    clear h hu
    go_enter Try.func47, Try.ntmps47
    go_wp2
    go_ret
    exact ⟨ret_bool (by first | exact HT.out.symm | (rw [HT.out]; simp; omega)), rfl⟩
  · have h1 : (123 : Int) ≤ c.toNat := by omega
    have h2 : (c.toNat : Int) ≤ 255 := by omega
    have HT : Hid (letR c = false) := by show letR c = _; simp [letR]; omega
    clear h hu
    go_enter Try.func47, Try.ntmps47
    go_wp2
    go_ret
    exact ⟨ret_bool (by first | exact HT.out.symm | (rw [HT.out]; simp; omega)), rfl⟩
def RunOk (s : ByteArray) (q : UInt8 → Bool) (k : Nat) (w : World) (e : Ending) (w' : World) : Prop :=
  ∃ j : Nat, e = .returned (.int .i64 (j : Int)) ∧ k ≤ j ∧ j ≤ s.size ∧ (s.data.toList.drop k).takeWhile q = (s.extract k j).data.toList ∧ w = w'
set_option maxRecDepth 100000 in
set_option maxHeartbeats 2000000 in
theorem run_any (s : ByteArray) (q : UInt8 → Bool) (more : UInt8) (k : Nat) (w : World) (hs : s.size ≤ 4096) (hk : k ≤ s.size) (hq : ∀ c, q c = (dchar c || letR c || ((c.toNat : Int) == more.toNat))) :
    Calls Try.prog 44 #[.string s, .int .i64 (k : Int), .int .u8 (more.toNat : Int)] w (RunOk s q k w) := by
  have HQ := Lib.hid hq
  clear hq
  go_enter Try.func44, Try.ntmps44
  go_wp2_with fail
  go_loop [1] (fun i => ∃ j : Nat, k ≤ j ∧ j ≤ s.size ∧ i = .int .i64 j ∧ Hid ((s.data.toList.drop k).takeWhile q = (s.data.toList.drop k).take (j - k) ++ (s.data.toList.drop j).takeWhile q)) (fun i => s.size - (intOf i).toNat)
  case atStart => exact ⟨k, by omega, hk, rfl, by show _ = _; simp⟩
  case round =>
    obtain ⟨j, hkj, hjs, rfl, HJ⟩ := hrel
    have hj0 : (0 : Int) ≤ j := by omega
    by_cases hlt : j < s.size
    · have hltI : (j : Int) < s.size := by omega
      have hqj := HQ.out s[j]
      cases hd : dchar s[j] with
      | true =>
        rw [hd] at hqj
        have HJ2 := Lib.hid (run_step hkj hlt hqj HJ.out)
        have HD1 := fun (W : World) => Lib.hid (hd ▸ rdigit_any s[j] W)
        clear hd hqj HJ
        go_wp2_with (go_at_call 43; refine ((HD1 _).out).mono ?_; rintro e w' ⟨rfl, rfl⟩)
        go_round
        case rel => exact ⟨j + 1, by omega, by omega, by go_num, HJ2⟩
        case measure => simp [intOf]; omega
      | false =>
        have HD1 := fun (W : World) => Lib.hid (hd ▸ rdigit_any s[j] W)
        cases hl : letR s[j] with
        | true =>
          rw [hd, hl] at hqj
          have HJ2 := Lib.hid (run_step hkj hlt hqj HJ.out)
          have HL1 := fun (W : World) => Lib.hid (hl ▸ rletter_any s[j] W)
          clear hd hl hqj HJ
          go_wp2_with (first | (go_at_call 43; refine ((HD1 _).out).mono ?_; rintro e w' ⟨rfl, rfl⟩) | (go_at_call 47; refine ((HL1 _).out).mono ?_; rintro e w' ⟨rfl, rfl⟩))
          go_round
          case rel => exact ⟨j + 1, by omega, by omega, by go_num, HJ2⟩
          case measure => simp [intOf]; omega
        | false =>
          have HL1 := fun (W : World) => Lib.hid (hl ▸ rletter_any s[j] W)
          rw [hd, hl] at hqj
          cases hm : ((s[j].toNat : Int) == more.toNat) with
          | true =>
            rw [hm] at hqj
            have HJ2 := Lib.hid (run_step hkj hlt hqj HJ.out)
            clear hd hl hqj HJ
            go_wp2_with (first | (go_at_call 43; refine ((HD1 _).out).mono ?_; rintro e w' ⟨rfl, rfl⟩) | (go_at_call 47; refine ((HL1 _).out).mono ?_; rintro e w' ⟨rfl, rfl⟩))
            go_round
            case rel => exact ⟨j + 1, by omega, by omega, by go_num, HJ2⟩
            case measure => simp [intOf]; omega
          | false =>
            rw [hm] at hqj
            have HE := Lib.hid (run_stop hjs (fun _ => hqj) HJ.out)
            clear hd hl hqj HJ
            go_wp2_with (first | (go_at_call 43; refine ((HD1 _).out).mono ?_; rintro e w' ⟨rfl, rfl⟩) | (go_at_call 47; refine ((HL1 _).out).mono ?_; rintro e w' ⟨rfl, rfl⟩))
            go_ret
            exact ⟨j, rfl, hkj, hjs, HE.out, rfl⟩
    · have hltI : ¬ (j : Int) < s.size := by omega
      have HE := Lib.hid (run_stop hjs (fun h => absurd h hlt) HJ.out)
      clear HJ
      go_wp2_with fail
      go_ret
      exact ⟨j, rfl, hkj, hjs, HE.out, rfl⟩
end
section
/-! ## RefLexS -/
open Go.RowKit

theorem digN_pre : ∀ {a b : List UInt8}, a.all dchar = true → digN (a ++ b) = a.length + digN b
  | [], b, _ => by simp
  | c :: r, b, h => by
    rw [List.all_cons, Bool.and_eq_true] at h
    have := digN_pre (b := b) h.2
    rw [List.cons_append, digN, List.takeWhile_cons, if_pos h.1, List.length_cons, List.length_cons]
    show digN (r ++ b) + 1 = _
    omega
theorem span_short {l : List UInt8} (h : l.length ≤ 1) : spanN l = 0 := by
  match l, h with
  | [], _ => rfl
  | [c], _ =>
    cases hd : dchar c with
    | false => rw [spanN, if_pos (.inl (by simp [digN, hd]))]
    | true => rw [spanN, if_pos (.inr (.inr (.inr (by simp [digN, hd]))))]
theorem span_long {l : List UInt8} (h : 12 ≤ l.length) : spanN l = 0 := by
  by_cases h1 : 10 < digN l
  · rw [spanN, if_pos (.inr (.inl h1))]
  · rw [spanN, if_pos (.inr (.inr (.inr (by omega))))]
theorem unit_dig {c : UInt8} (h : dchar c = true) : unitN c.toNat = 0 := by
  simp [dchar] at h
  rw [unitN, if_neg (by omega), if_neg (by omega), if_neg (by omega), if_neg (by omega)]
theorem spanU_z1 (v : Nat) : spanU v 0 = 0 := by simp [spanU]
theorem spanU_z2 (u : Nat) : spanU 0 u = 0 := by simp [spanU]
theorem span_whole {a : List UInt8} {c : UInt8} (hw : wholeB a = true) (h10 : a.length ≤ 10) : spanN (a ++ [c]) = spanU (decN a) (unitN c.toNat) := by
  simp only [wholeB, Bool.and_eq_true, decide_eq_true_eq, Bool.not_eq_true'] at hw
  obtain ⟨⟨ha, h1⟩, hn⟩ := hw
  have hdp := digN_pre (b := [c]) ha
  cases hd : dchar c with
  | true =>
    have : digN [c] = 1 := by simp [digN, hd]
    rw [spanN, if_pos (.inr (.inr (.inr (by rw [hdp, this, List.length_append]; simp)))), unit_dig hd, spanU_z1]
  | false =>
    have : digN [c] = 0 := by simp [digN, hd]
    rw [this, Nat.add_zero] at hdp
    have e2 : (a ++ [c])[a.length]? = some c := by simp
    have eh : (a ++ [c]).head? = a.head? := by cases a with
      | nil => simp at h1
      | cons => rfl
    rw [spanN, hdp, eh, List.take_left' rfl, e2]
    cases hh : nought a.head? with
    | false => rw [if_neg (by rintro (h | h | h | h); omega; omega; cases h; simp at h)]; rfl
    | true =>
      rw [if_pos (.inr (.inr (.inl rfl)))]
      cases a with
      | nil => simp at h1
      | cons x r =>
        simp only [List.head?_cons, nought, beq_iff_eq] at hh
        have hx : x = 48 := UInt8.toNat_inj.1 (by show x.toNat = 48; omega)
        have hr : r = [] := by
          cases r with
          | nil => rfl
          | cons y z => rw [needB, hx] at hn; simp at hn
        subst hx hr
        show 0 = spanU 0 _
        rw [spanU_z2]
theorem span_nowhole {a : List UInt8} {c : UInt8} (hw : wholeB a = false) : spanN (a ++ [c]) = 0 := by
  by_cases ha : a.all dchar = true
  · have hdp := digN_pre (b := [c]) ha
    cases hd : dchar c with
    | true =>
      have : digN [c] = 1 := by simp [digN, hd]
      rw [spanN, if_pos (.inr (.inr (.inr (by rw [hdp, this, List.length_append]; simp))))]
    | false =>
      have : digN [c] = 0 := by simp [digN, hd]
      rw [this, Nat.add_zero] at hdp
      rw [spanN, hdp]
      by_cases h1 : 1 ≤ a.length
      · have hn : needB a = true := by rw [wholeB, ha, decide_eq_true h1] at hw; simpa using hw
        have hno : nought (a ++ [c]).head? = true := by
          rw [needB, Bool.and_eq_true] at hn
          cases a with
          | nil => simp at h1
          | cons x r =>
            have : x = 48 := by simpa using hn.2
            subst this; rfl
        rw [if_pos (.inr (.inr (.inl hno)))]
      · rw [if_pos (.inl (by omega))]
  · have hlt : digN (a ++ [c]) + 1 ≠ (a ++ [c]).length := by
      intro h
      rw [List.length_append] at h
      have h2 : digN (a ++ [c]) = a.length := by simpa using h
      apply ha
      have := take_all_dig (a ++ [c])
      rwa [h2, List.take_left' rfl] at this
    rw [spanN, if_pos (.inr (.inr (.inr hlt)))]
def SpanOk (s : ByteArray) (w : World) (e : Ending) (w' : World) : Prop :=
  ∃ v : Int, e = .returned (.tuple #[.int .i64 v, .bool (decide (0 < spanN s.data.toList))]) ∧ (0 < spanN s.data.toList → v = spanN s.data.toList) ∧ w = w'
theorem spanOk_no {s : ByteArray} {w : World} (h : spanN s.data.toList = 0) : SpanOk s w (.returned (.tuple #[.int .i64 0, .bool false])) w := ⟨0, by rw [h]; rfl, by omega, rfl⟩
theorem ret_tup {a b : Int} {x y : Bool} (h1 : a = b) (h2 : x = y) : Ending.returned (.tuple #[.int .i64 a, .bool x]) = .returned (.tuple #[.int .i64 b, .bool y]) := by rw [h1, h2]
theorem split_last {s : ByteArray} {n : Nat} (h : s.size = n + 1) (hn : n < s.size) : s.data.toList = s.data.toList.take n ++ [s[n]] := by
  rw [← take_at hn, List.take_of_length_le (by rw [← Lib.size_eq]; omega)]
set_option maxRecDepth 100000 in
set_option maxHeartbeats 4000000 in
theorem xspan_any (s : ByteArray) (w : World) (hs : s.size ≤ 4096) : Calls Try.prog 45 #[.string s] w (SpanOk s w) := by
  have hl : s.data.toList.length = s.size := (Lib.size_eq s).symm
  by_cases h1 : s.size ≤ 1
  · have HT := Lib.hid (span_short (l := s.data.toList) (by omega))
    have hI : (s.size : Int) - 1 < 1 := by omega
    clear hl h1
    go_enter Try.func45, Try.ntmps45
    go_wp2_with fail
    go_ret2
    exact spanOk_no HT.out
  by_cases h2 : 12 ≤ s.size
  · have HT := Lib.hid (span_long (l := s.data.toList) (by omega))
    have hI : ¬ (s.size : Int) - 1 < 1 := by omega
    have hJ : (10 : Int) < (s.size : Int) - 1 := by omega
    clear hl h1 h2
    go_enter Try.func45, Try.ntmps45
    go_wp2_with fail
    go_ret2
    exact spanOk_no HT.out
  obtain ⟨n, hn⟩ : ∃ n, s.size = n + 1 := ⟨s.size - 1, by omega⟩
  have hns : n < s.size := by omega
  have hsp := split_last hn hns
  have htl : (s.data.toList.take n).length = n := by rw [List.length_take, hl]; omega
  have hn1 : (1 : Int) ≤ n := by omega
  have hn10 : (n : Int) ≤ 10 := by omega
  have hnI : (n : Int) ≤ s.size := by omega
  have hnJ : (n : Int) < s.size := by omega
  have hw := fun W => Lib.hid (whole_any (s.extract 0 n) W (by have := extract_size_le s 0 n; omega))
  have e0 : (s.size : Int) - 1 = (n : Int) := by omega
  obtain ⟨b, hb⟩ : ∃ b, wholeB (s.data.toList.take n) = b := ⟨_, rfl⟩
  have hb2 : wholeB (s.extract 0 n).data.toList = b := by rw [extract_toL, List.drop_zero, Nat.sub_zero]; exact hb
  rw [hb2] at hw
  cases b with
  | false =>
    have HT : Hid (spanN s.data.toList = 0) := by show _ = _; rw [hsp]; exact span_nowhole hb
    clear hl h1 h2 hn hsp htl hb hb2
    go_enter Try.func45, Try.ntmps45
    go_wp2_with (go_at_call 62; refine ((hw _).out).mono ?_; rintro e w' ⟨rfl, rfl⟩)
    go_ret2
    exact spanOk_no HT.out
  | true =>
    have HT : Hid (spanN s.data.toList = spanU (decN (s.data.toList.take n)) (unitN s[n].toNat)) := by
      show _ = _
      conv => lhs; rw [hsp]
      exact span_whole hb (by omega)
    have HW : Hid (∀ c ∈ s.data.toList.take n, dchar c = true) := by
      simp only [wholeB, Bool.and_eq_true] at hb
      exact List.all_eq_true.1 hb.1.1
    clear hl h1 h2 hn hsp htl hb hb2
    go_enter Try.func45, Try.ntmps45
    go_wp2_with (go_at_call 62; refine ((hw _).out).mono ?_; rintro e w' ⟨rfl, rfl⟩)
    clear e0
    go_loop [5, 6] (fun v i => ∃ (k V : Nat), k ≤ n ∧ i = .int .i64 k ∧ v = .int .i64 V ∧ Hid (decN (s.data.toList.take k) = V) ∧ V < 10 ^ k) (fun _ i => n - (intOf i).toNat)
    case atStart => exact ⟨0, 0, by omega, rfl, rfl, by show _ = _; rfl, by simp⟩
    case round =>
      obtain ⟨k, V, hk, rfl, rfl, HV, hV⟩ := hrel
      by_cases hkn : k < n
      · have hks : k < s.size := by omega
        have hkI : (k : Int) < n := by omega
        have hksI : (k : Int) < s.size := by omega
        have hk0 : (0 : Int) ≤ k := by omega
        obtain ⟨d1, d2⟩ := dchar_yes (HW.out s[k] (by rw [List.mem_iff_getElem?]; exact ⟨k, by rw [List.getElem?_take, if_pos hkn, List.getElem?_eq_getElem (by rw [← Lib.size_eq]; exact hks)]; rfl⟩))
        have hp : 10 ^ k ≤ 10 ^ 9 := Nat.pow_le_pow_right (by omega) (by omega)
        have hp2 : 10 ^ (k + 1) = 10 * 10 ^ k := by rw [Nat.pow_succ, Nat.mul_comm]
        have hV1 : (V : Int) ≤ 999999999 := by omega
        have hV0 : (0 : Int) ≤ V := by omega
        have HV2 := Lib.hid ((dec_step hks).trans (by rw [HV.out]))
        have HB : Hid (10 * V + (s[k].toNat - 48) < 10 ^ (k + 1)) := by show _ < _; omega
        clear HV hV hp hp2
        go_wp2
        go_round
        case rel => exact ⟨k + 1, 10 * V + (s[k].toNat - 48), by omega, by go_num, by congr 1; omega, HV2, HB.out⟩
        case measure => simp [intOf]; omega
      · have hke : k = n := by omega
        subst hke
        have hp : 10 ^ k ≤ 10 ^ 10 := Nat.pow_le_pow_right (by omega) (by omega)
        have hV1 : (V : Int) ≤ 9999999999 := by omega
        have hV0 : (0 : Int) ≤ V := by omega
        have hnk : ¬ (k : Int) < k := by omega
        have hk0 : (0 : Int) ≤ k := by omega
        rw [HV.out] at HT
        have hu := u8_le s[k]
        have hu0 : (0 : Int) ≤ s[k].toNat := by omega
        have huI : (s[k].toNat : Int) ≤ 255 := by omega
        clear HV hV hp HW
        have hun : unitN s[k].toNat = if s[k].toNat = 115 then 1 else if s[k].toNat = 109 then 60 else if s[k].toNat = 104 then 3600 else if s[k].toNat = 100 then 86400 else 0 := rfl
        by_cases u115 : s[k].toNat = 115
        · have f115 : ((s[k].toNat : Int) == 115) = true := by rw [u115]; rfl
          have HT2 := Lib.hid (HT.out.trans (by rw [u115]; rfl : _ = spanU V 1))
          clear HT u115 hun
          by_cases hv : (V : Int)  < 1
          · have HT3 : Hid (spanN s.data.toList = 0) := HT2.out.trans (by rw [spanU, if_neg (by omega)]; omega)
            go_wp2
            go_ret2
            exact ⟨_, ret_tup rfl (by rw [HT3.out]; rfl), by rw [HT3.out]; omega, rfl⟩
          · by_cases hb : (V : Int)  ≤ 2147483647
            · have HT3 : Hid (spanN s.data.toList = V * 1) := HT2.out.trans (by rw [spanU, if_neg (by omega)])
              have hv1 : 1 ≤ (V : Int)  := by omega
              go_wp2
              go_ret2
              exact ⟨_, ret_tup rfl (by rw [HT3.out]; simp; omega), by rw [HT3.out]; omega, rfl⟩
            · have HT3 : Hid (spanN s.data.toList = 0) := HT2.out.trans (by rw [spanU, if_pos (by omega)])
              have hv1 : 1 ≤ (V : Int)  := by omega
              go_wp2
              go_ret2
              exact ⟨_, ret_tup rfl (by rw [HT3.out]; simp; try omega), by rw [HT3.out]; omega, rfl⟩
        have f115 : ((s[k].toNat : Int) == 115) = false := by rw [beq_eq_false_iff_ne]; omega
        by_cases u109 : s[k].toNat = 109
        · have f109 : ((s[k].toNat : Int) == 109) = true := by rw [u109]; rfl
          have HT2 := Lib.hid (HT.out.trans (by rw [u109]; rfl : _ = spanU V 60))
          clear HT u109 hun
          by_cases hv : (V : Int) *60 < 1
          · have HT3 : Hid (spanN s.data.toList = 0) := HT2.out.trans (by rw [spanU, if_neg (by omega)]; omega)
            go_wp2
            go_ret2
            exact ⟨_, ret_tup rfl (by rw [HT3.out]; rfl), by rw [HT3.out]; omega, rfl⟩
          · by_cases hb : (V : Int) *60 ≤ 2147483647
            · have HT3 : Hid (spanN s.data.toList = V * 60) := HT2.out.trans (by rw [spanU, if_neg (by omega)])
              have hv1 : 1 ≤ (V : Int) *60 := by omega
              go_wp2
              go_ret2
              exact ⟨_, ret_tup rfl (by rw [HT3.out]; simp; omega), by rw [HT3.out]; omega, rfl⟩
            · have HT3 : Hid (spanN s.data.toList = 0) := HT2.out.trans (by rw [spanU, if_pos (by omega)])
              have hv1 : 1 ≤ (V : Int) *60 := by omega
              go_wp2
              go_ret2
              exact ⟨_, ret_tup rfl (by rw [HT3.out]; simp; try omega), by rw [HT3.out]; omega, rfl⟩
        have f109 : ((s[k].toNat : Int) == 109) = false := by rw [beq_eq_false_iff_ne]; omega
        by_cases u104 : s[k].toNat = 104
        · have f104 : ((s[k].toNat : Int) == 104) = true := by rw [u104]; rfl
          have HT2 := Lib.hid (HT.out.trans (by rw [u104]; rfl : _ = spanU V 3600))
          clear HT u104 hun
          by_cases hv : (V : Int) *3600 < 1
          · have HT3 : Hid (spanN s.data.toList = 0) := HT2.out.trans (by rw [spanU, if_neg (by omega)]; omega)
            go_wp2
            go_ret2
            exact ⟨_, ret_tup rfl (by rw [HT3.out]; rfl), by rw [HT3.out]; omega, rfl⟩
          · by_cases hb : (V : Int) *3600 ≤ 2147483647
            · have HT3 : Hid (spanN s.data.toList = V * 3600) := HT2.out.trans (by rw [spanU, if_neg (by omega)])
              have hv1 : 1 ≤ (V : Int) *3600 := by omega
              go_wp2
              go_ret2
              exact ⟨_, ret_tup rfl (by rw [HT3.out]; simp; omega), by rw [HT3.out]; omega, rfl⟩
            · have HT3 : Hid (spanN s.data.toList = 0) := HT2.out.trans (by rw [spanU, if_pos (by omega)])
              have hv1 : 1 ≤ (V : Int) *3600 := by omega
              go_wp2
              go_ret2
              exact ⟨_, ret_tup rfl (by rw [HT3.out]; simp; try omega), by rw [HT3.out]; omega, rfl⟩
        have f104 : ((s[k].toNat : Int) == 104) = false := by rw [beq_eq_false_iff_ne]; omega
        by_cases u100 : s[k].toNat = 100
        · have f100 : ((s[k].toNat : Int) == 100) = true := by rw [u100]; rfl
          have HT2 := Lib.hid (HT.out.trans (by rw [u100]; rfl : _ = spanU V 86400))
          clear HT u100 hun
          by_cases hv : (V : Int) *86400 < 1
          · have HT3 : Hid (spanN s.data.toList = 0) := HT2.out.trans (by rw [spanU, if_neg (by omega)]; omega)
            go_wp2
            go_ret2
            exact ⟨_, ret_tup rfl (by rw [HT3.out]; rfl), by rw [HT3.out]; omega, rfl⟩
          · by_cases hb : (V : Int) *86400 ≤ 2147483647
            · have HT3 : Hid (spanN s.data.toList = V * 86400) := HT2.out.trans (by rw [spanU, if_neg (by omega)])
              have hv1 : 1 ≤ (V : Int) *86400 := by omega
              go_wp2
              go_ret2
              exact ⟨_, ret_tup rfl (by rw [HT3.out]; simp; omega), by rw [HT3.out]; omega, rfl⟩
            · have HT3 : Hid (spanN s.data.toList = 0) := HT2.out.trans (by rw [spanU, if_pos (by omega)])
              have hv1 : 1 ≤ (V : Int) *86400 := by omega
              go_wp2
              go_ret2
              exact ⟨_, ret_tup rfl (by rw [HT3.out]; simp; try omega), by rw [HT3.out]; omega, rfl⟩
        have f100 : ((s[k].toNat : Int) == 100) = false := by rw [beq_eq_false_iff_ne]; omega
        have HT3 : Hid (spanN s.data.toList = 0) := HT.out.trans (by rw [hun, if_neg u115, if_neg u109, if_neg u104, if_neg u100]; rfl)
        clear HT u115 u109 u104 u100 hun
        go_wp2
        go_ret2
        exact spanOk_no HT3.out
end
section
/-! ## RefLexG -/
open Go.RowKit

def signC : List Nat := [60, 62, 61, 43, 45, 42, 47, 40, 41, 123, 125, 91, 93, 44]
theorem sign1_list (c : UInt8) : sign1 c = signC.contains c.toNat := by
  have hall : ∀ n : Nat, n < 256 → sign1 (UInt8.ofNat n) = signC.contains (UInt8.ofNat n).toNat := by decide +kernel
  have := hall c.toNat c.toNat_lt
  rwa [UInt8.ofNat_toNat] at this
theorem sign_at {s : ByteArray} {k : Nat} (hk : k < s.size) (h : ¬ k + 1 < s.size ∨ sign2 (s.extract k (k + 2)).toList = false) : signN (s.data.toList.drop k) = if signC.contains s[k].toNat then 1 else 0 := by
  have hd := drop_at hk
  rw [signN, if_neg, hd, List.head?_cons, Option.any_some, sign1_list]
  rw [List.length_drop, ← Lib.size_eq]
  rcases h with h | h
  · rw [decide_eq_false (by omega)]; simp
  · rw [toList_data', extract_toL, show k + 2 - k = 2 from by omega] at h
    rw [h]; simp
theorem sign_two {s : ByteArray} {k : Nat} (hk : k + 1 < s.size) (h : sign2 (s.extract k (k + 2)).toList = true) : signN (s.data.toList.drop k) = 2 := by
  rw [toList_data', extract_toL, show k + 2 - k = 2 from by omega] at h
  rw [signN, if_pos]
  rw [List.length_drop, ← Lib.size_eq, decide_eq_true (by omega), h]; rfl
set_option maxRecDepth 100000 in
set_option maxHeartbeats 4000000 in
theorem rsign_any (s : ByteArray) (k : Nat) (w : World) (hs : s.size ≤ 4096) (hk : k < s.size) : Calls Try.prog 49 #[.string s, .int .i64 (k : Int)] w fun e w' => e = .returned (.int .i64 (signN (s.data.toList.drop k) : Nat)) ∧ w = w' := by
  have hk0 : (0 : Int) ≤ k := by omega
  have hkI : (k : Int) < s.size := by omega
  have key : (¬ k + 1 < s.size ∨ (((s.extract k (k + 2)).toList == [61, 61]) = false ∧ ((s.extract k (k + 2)).toList == [33, 61]) = false ∧ ((s.extract k (k + 2)).toList == [60, 61]) = false ∧ ((s.extract k (k + 2)).toList == [62, 61]) = false ∧ ((s.extract k (k + 2)).toList == [61, 126]) = false ∧ ((s.extract k (k + 2)).toList == [33, 126]) = false)) → Calls Try.prog 49 #[.string s, .int .i64 (k : Int)] w fun e w' => e = .returned (.int .i64 (signN (s.data.toList.drop k) : Nat)) ∧ w = w' := by
    intro hcase
    have HS : Hid (signN (s.data.toList.drop k) = if signC.contains s[k].toNat then 1 else 0) := sign_at hk (by
      rcases hcase with h | ⟨e0, e1, e2, e3, e4, e5⟩
      · exact .inl h
      · exact .inr (by simp only [sign2, e0, e1, e2, e3, e4, e5]; rfl))
    rcases hcase with h | ⟨e0, e1, e2, e3, e4, e5⟩
    case' inl => have hI : ¬ (k : Int) + 1 < s.size := by omega
    case' inr =>
      by_cases h1 : k + 1 < s.size
      case' pos =>
        have hI : (k : Int) + 1 < s.size := by omega
        have hI2 : (k : Int) + 2 ≤ s.size := by omega
      case' neg => have hI : ¬ (k : Int) + 1 < s.size := by omega
    all_goals
      by_cases c60 : s[k].toNat = 60
      · have f60 : (s[k].toNat : Int) = 60 := by omega
        have HT : Hid (signN (s.data.toList.drop k) = 1) := HS.out.trans (by rw [c60]; rfl)
        clear HS c60
        go_enter Try.func49, Try.ntmps49
        go_wp2_with fail
        go_ret
        exact ⟨ret_int (by rw [HT.out]; rfl), rfl⟩
      have f60 : ((s[k].toNat : Int) == 60) = false := by rw [beq_eq_false_iff_ne]; omega
      by_cases c62 : s[k].toNat = 62
      · have f62 : (s[k].toNat : Int) = 62 := by omega
        have HT : Hid (signN (s.data.toList.drop k) = 1) := HS.out.trans (by rw [c62]; rfl)
        clear HS c62
        go_enter Try.func49, Try.ntmps49
        go_wp2_with fail
        go_ret
        exact ⟨ret_int (by rw [HT.out]; rfl), rfl⟩
      have f62 : ((s[k].toNat : Int) == 62) = false := by rw [beq_eq_false_iff_ne]; omega
      by_cases c61 : s[k].toNat = 61
      · have f61 : (s[k].toNat : Int) = 61 := by omega
        have HT : Hid (signN (s.data.toList.drop k) = 1) := HS.out.trans (by rw [c61]; rfl)
        clear HS c61
        go_enter Try.func49, Try.ntmps49
        go_wp2_with fail
        go_ret
        exact ⟨ret_int (by rw [HT.out]; rfl), rfl⟩
      have f61 : ((s[k].toNat : Int) == 61) = false := by rw [beq_eq_false_iff_ne]; omega
      by_cases c43 : s[k].toNat = 43
      · have f43 : (s[k].toNat : Int) = 43 := by omega
        have HT : Hid (signN (s.data.toList.drop k) = 1) := HS.out.trans (by rw [c43]; rfl)
        clear HS c43
        go_enter Try.func49, Try.ntmps49
        go_wp2_with fail
        go_ret
        exact ⟨ret_int (by rw [HT.out]; rfl), rfl⟩
      have f43 : ((s[k].toNat : Int) == 43) = false := by rw [beq_eq_false_iff_ne]; omega
      by_cases c45 : s[k].toNat = 45
      · have f45 : (s[k].toNat : Int) = 45 := by omega
        have HT : Hid (signN (s.data.toList.drop k) = 1) := HS.out.trans (by rw [c45]; rfl)
        clear HS c45
        go_enter Try.func49, Try.ntmps49
        go_wp2_with fail
        go_ret
        exact ⟨ret_int (by rw [HT.out]; rfl), rfl⟩
      have f45 : ((s[k].toNat : Int) == 45) = false := by rw [beq_eq_false_iff_ne]; omega
      by_cases c42 : s[k].toNat = 42
      · have f42 : (s[k].toNat : Int) = 42 := by omega
        have HT : Hid (signN (s.data.toList.drop k) = 1) := HS.out.trans (by rw [c42]; rfl)
        clear HS c42
        go_enter Try.func49, Try.ntmps49
        go_wp2_with fail
        go_ret
        exact ⟨ret_int (by rw [HT.out]; rfl), rfl⟩
      have f42 : ((s[k].toNat : Int) == 42) = false := by rw [beq_eq_false_iff_ne]; omega
      by_cases c47 : s[k].toNat = 47
      · have f47 : (s[k].toNat : Int) = 47 := by omega
        have HT : Hid (signN (s.data.toList.drop k) = 1) := HS.out.trans (by rw [c47]; rfl)
        clear HS c47
        go_enter Try.func49, Try.ntmps49
        go_wp2_with fail
        go_ret
        exact ⟨ret_int (by rw [HT.out]; rfl), rfl⟩
      have f47 : ((s[k].toNat : Int) == 47) = false := by rw [beq_eq_false_iff_ne]; omega
      by_cases c40 : s[k].toNat = 40
      · have f40 : (s[k].toNat : Int) = 40 := by omega
        have HT : Hid (signN (s.data.toList.drop k) = 1) := HS.out.trans (by rw [c40]; rfl)
        clear HS c40
        go_enter Try.func49, Try.ntmps49
        go_wp2_with fail
        go_ret
        exact ⟨ret_int (by rw [HT.out]; rfl), rfl⟩
      have f40 : ((s[k].toNat : Int) == 40) = false := by rw [beq_eq_false_iff_ne]; omega
      by_cases c41 : s[k].toNat = 41
      · have f41 : (s[k].toNat : Int) = 41 := by omega
        have HT : Hid (signN (s.data.toList.drop k) = 1) := HS.out.trans (by rw [c41]; rfl)
        clear HS c41
        go_enter Try.func49, Try.ntmps49
        go_wp2_with fail
        go_ret
        exact ⟨ret_int (by rw [HT.out]; rfl), rfl⟩
      have f41 : ((s[k].toNat : Int) == 41) = false := by rw [beq_eq_false_iff_ne]; omega
      by_cases c123 : s[k].toNat = 123
      · have f123 : (s[k].toNat : Int) = 123 := by omega
        have HT : Hid (signN (s.data.toList.drop k) = 1) := HS.out.trans (by rw [c123]; rfl)
        clear HS c123
        go_enter Try.func49, Try.ntmps49
        go_wp2_with fail
        go_ret
        exact ⟨ret_int (by rw [HT.out]; rfl), rfl⟩
      have f123 : ((s[k].toNat : Int) == 123) = false := by rw [beq_eq_false_iff_ne]; omega
      by_cases c125 : s[k].toNat = 125
      · have f125 : (s[k].toNat : Int) = 125 := by omega
        have HT : Hid (signN (s.data.toList.drop k) = 1) := HS.out.trans (by rw [c125]; rfl)
        clear HS c125
        go_enter Try.func49, Try.ntmps49
        go_wp2_with fail
        go_ret
        exact ⟨ret_int (by rw [HT.out]; rfl), rfl⟩
      have f125 : ((s[k].toNat : Int) == 125) = false := by rw [beq_eq_false_iff_ne]; omega
      by_cases c91 : s[k].toNat = 91
      · have f91 : (s[k].toNat : Int) = 91 := by omega
        have HT : Hid (signN (s.data.toList.drop k) = 1) := HS.out.trans (by rw [c91]; rfl)
        clear HS c91
        go_enter Try.func49, Try.ntmps49
        go_wp2_with fail
        go_ret
        exact ⟨ret_int (by rw [HT.out]; rfl), rfl⟩
      have f91 : ((s[k].toNat : Int) == 91) = false := by rw [beq_eq_false_iff_ne]; omega
      by_cases c93 : s[k].toNat = 93
      · have f93 : (s[k].toNat : Int) = 93 := by omega
        have HT : Hid (signN (s.data.toList.drop k) = 1) := HS.out.trans (by rw [c93]; rfl)
        clear HS c93
        go_enter Try.func49, Try.ntmps49
        go_wp2_with fail
        go_ret
        exact ⟨ret_int (by rw [HT.out]; rfl), rfl⟩
      have f93 : ((s[k].toNat : Int) == 93) = false := by rw [beq_eq_false_iff_ne]; omega
      by_cases c44 : s[k].toNat = 44
      · have f44 : (s[k].toNat : Int) = 44 := by omega
        have HT : Hid (signN (s.data.toList.drop k) = 1) := HS.out.trans (by rw [c44]; rfl)
        clear HS c44
        go_enter Try.func49, Try.ntmps49
        go_wp2_with fail
        go_ret
        exact ⟨ret_int (by rw [HT.out]; rfl), rfl⟩
      have f44 : ((s[k].toNat : Int) == 44) = false := by rw [beq_eq_false_iff_ne]; omega
      have HT : Hid (signN (s.data.toList.drop k) = 0) := HS.out.trans (by rw [if_neg]; simp [signC]; omega)
      clear HS c60 c62 c61 c43 c45 c42 c47 c40 c41 c123 c125 c91 c93 c44
      go_enter Try.func49, Try.ntmps49
      go_wp2_with fail
      go_ret
      exact ⟨ret_int (by rw [HT.out]; rfl), rfl⟩
  by_cases h1 : k + 1 < s.size
  · have hI : (k : Int) + 1 < s.size := by omega
    have hI2 : (k : Int) + 2 ≤ s.size := by omega
    cases e0 : ((s.extract k (k + 2)).toList == [61, 61]) with
    | true =>
      have HT : Hid (signN (s.data.toList.drop k) = 2) := sign_two h1 (by simp [sign2, e0])
      clear key
      go_enter Try.func49, Try.ntmps49
      go_wp2_with fail
      go_ret
      exact ⟨ret_int (by rw [HT.out]; rfl), rfl⟩
    | false =>
    cases e1 : ((s.extract k (k + 2)).toList == [33, 61]) with
    | true =>
      have HT : Hid (signN (s.data.toList.drop k) = 2) := sign_two h1 (by simp [sign2, e1])
      clear key
      go_enter Try.func49, Try.ntmps49
      go_wp2_with fail
      go_ret
      exact ⟨ret_int (by rw [HT.out]; rfl), rfl⟩
    | false =>
    cases e2 : ((s.extract k (k + 2)).toList == [60, 61]) with
    | true =>
      have HT : Hid (signN (s.data.toList.drop k) = 2) := sign_two h1 (by simp [sign2, e2])
      clear key
      go_enter Try.func49, Try.ntmps49
      go_wp2_with fail
      go_ret
      exact ⟨ret_int (by rw [HT.out]; rfl), rfl⟩
    | false =>
    cases e3 : ((s.extract k (k + 2)).toList == [62, 61]) with
    | true =>
      have HT : Hid (signN (s.data.toList.drop k) = 2) := sign_two h1 (by simp [sign2, e3])
      clear key
      go_enter Try.func49, Try.ntmps49
      go_wp2_with fail
      go_ret
      exact ⟨ret_int (by rw [HT.out]; rfl), rfl⟩
    | false =>
    cases e4 : ((s.extract k (k + 2)).toList == [61, 126]) with
    | true =>
      have HT : Hid (signN (s.data.toList.drop k) = 2) := sign_two h1 (by simp [sign2, e4])
      clear key
      go_enter Try.func49, Try.ntmps49
      go_wp2_with fail
      go_ret
      exact ⟨ret_int (by rw [HT.out]; rfl), rfl⟩
    | false =>
    cases e5 : ((s.extract k (k + 2)).toList == [33, 126]) with
    | true =>
      have HT : Hid (signN (s.data.toList.drop k) = 2) := sign_two h1 (by simp [sign2, e5])
      clear key
      go_enter Try.func49, Try.ntmps49
      go_wp2_with fail
      go_ret
      exact ⟨ret_int (by rw [HT.out]; rfl), rfl⟩
    | false =>
    exact key (.inr ⟨e0, e1, e2, e3, e4, e5⟩)
  · exact key (.inl h1)

def TextOk (k : Nat) (w : World) (r : Option (List UInt8 × Nat)) (e : Ending) (w' : World) : Prop := Below w.heap.size w w' ∧ match r with
  | some (x, n) => e = .returned (.tuple #[.string (mkB x), .int .i64 ((k + 1 + n : Nat) : Int), .bool true])
  | none => e = .returned (.tuple #[.string ⟨#[]⟩, .int .i64 0, .bool false])
def txtSt (s : ByteArray) (k j : Nat) (acc : List UInt8) : Prop := textS false (s.data.toList.drop (k + 1)) = (textS false (s.data.toList.drop j)).map fun x => (acc ++ x.1, x.2 + (j - (k + 1)))
theorem txt_none {s : ByteArray} {k j : Nat} {acc : List UInt8} (h : txtSt s k j acc) (hn : textS false (s.data.toList.drop j) = none) : textS false (s.data.toList.drop (k + 1)) = none := by
  rw [h, hn]; rfl
theorem txt_end {s : ByteArray} {k j : Nat} {acc : List UInt8} (h : txtSt s k j acc) (hj : k + 1 ≤ j) (hlt : j < s.size) (h34 : s[j].toNat = 34) : textS false (s.data.toList.drop (k + 1)) = some (acc, j - k) := by
  rw [h, drop_at hlt]
  simp only [textS]
  rw [if_neg (by omega), if_pos h34]
  simp; omega
theorem txt_step {s : ByteArray} {k j : Nat} {acc : List UInt8} (h : txtSt s k j acc) (hj : k + 1 ≤ j) (hlt : j < s.size) (h32 : ¬ s[j].toNat < 32) (h34 : s[j].toNat ≠ 34) (h92 : s[j].toNat ≠ 92) : txtSt s k (j + 1) (acc ++ [s[j]]) := by
  rw [txtSt] at h ⊢
  rw [h, drop_at hlt]
  simp only [textS]
  rw [if_neg h32, if_neg h34, if_neg h92]
  cases textS false (s.data.toList.drop (j + 1)) with
  | none => rfl
  | some x => simp; omega
theorem txt_esc {s : ByteArray} {k j : Nat} {acc : List UInt8} {d : UInt8} (h : txtSt s k j acc) (hj : k + 1 ≤ j) (hlt : j + 1 < s.size) (h92 : s[j].toNat = 92) (hd : (s[j + 1].toNat = 34 ∨ s[j + 1].toNat = 92) ∧ d = s[j + 1] ∨ s[j + 1].toNat = 110 ∧ d = 10) : txtSt s k (j + 2) (acc ++ [d]) := by
  rw [txtSt] at h ⊢
  rw [h, drop_at (by omega : j < s.size), drop_at hlt]
  simp only [textS]
  rw [if_neg (by omega), if_neg (by omega), if_pos h92]
  have e : (textS true (s[j + 1] :: s.data.toList.drop (j + 1 + 1))) = (textS false (s.data.toList.drop (j + 2))).map fun x => (d :: x.1, x.2 + 1) := by
    simp only [textS]
    rcases hd with ⟨h1, rfl⟩ | ⟨h1, rfl⟩
    · rw [if_pos h1]
    · rw [if_neg (by omega), if_pos h1]
  simp only [textS] at e
  rw [e]
  cases textS false (s.data.toList.drop (j + 2)) with
  | none => rfl
  | some x => simp; omega
theorem txt_bad {s : ByteArray} {k j : Nat} {acc : List UInt8} (h : txtSt s k j acc) (hlt : j < s.size) (h92 : s[j].toNat = 92) (hd : ∀ h : j + 1 < s.size, s[j + 1].toNat ≠ 34 ∧ s[j + 1].toNat ≠ 92 ∧ s[j + 1].toNat ≠ 110) : textS false (s.data.toList.drop (k + 1)) = none := by
  refine txt_none h ?_
  rw [drop_at hlt]
  simp only [textS]
  rw [if_neg (by omega), if_neg (by omega), if_pos h92]
  by_cases h1 : j + 1 < s.size
  · obtain ⟨a, b, c⟩ := hd h1
    rw [drop_at h1]
    simp only [textS]
    rw [if_neg (by omega), if_neg c]; rfl
  · rw [List.drop_eq_nil_of_le (by rw [← Lib.size_eq]; omega)]; rfl
theorem textOk_none {k : Nat} {w w' : World} {r : Option (List UInt8 × Nat)} (h : r = none) (hb : Below w.heap.size w w') : TextOk k w r (.returned (.tuple #[.string ⟨#[]⟩, .int .i64 0, .bool false])) w' := by
  subst h; exact ⟨hb, rfl⟩
set_option maxRecDepth 100000 in
set_option maxHeartbeats 4000000 in
theorem rtext_any (s : ByteArray) (k : Nat) (w : World) (hs : s.size ≤ 4096) (hk : k < s.size) : Calls Try.prog 48 #[.string s, .int .i64 (k : Int)] w (TextOk k w (textS false (s.data.toList.drop (k + 1)))) := by
  have hk0 : (0 : Int) ≤ k := by omega
  have hkI : (k : Int) < s.size := by omega
  go_enter Try.func48, Try.ntmps48
  go_wp2_with fail
  go_loopw [7, 8] (fun o i wr => ∃ (j c : Nat) (A : Option Addr) (acc : List UInt8), k + 1 ≤ j ∧ j ≤ s.size ∧ i = .int .i64 j ∧ o = .slice A acc.length c ∧ acc.length ≤ j ∧ Own wr w.heap.size 5 1 A acc.length c (bytesC acc) ∧ Hid (txtSt s k j acc) ∧ Below w.heap.size w wr) (fun _ i _ => s.size - (intOf i).toNat)
  case atStart => exact ⟨k + 1, 0, none, [], Nat.le_refl _, by omega, by go_num, rfl, by simp, Own.nil_ (by omega), by show txtSt _ _ _ _; simp [txtSt], Below.refl _ _⟩
  case round =>
    obtain ⟨j, c, A, acc, hkj, hjs, rfl, rfl, hal, hO, HT, hb⟩ := hrel
    have hj0 : (0 : Int) ≤ j := by omega
    have hbs := hb.size
    have hcap := hO.cap
    by_cases hlt : j < s.size
    · have hltI : (j : Int) < s.size := by omega
      by_cases h34 : s[j].toNat = 34
      · have h34I : (s[j].toNat : Int) = 34 := by omega
        have HE := Lib.hid (txt_end HT.out hkj hlt h34)
        have hcv := run_conv_rd (P := Try.prog) hO.rd 65 5 9 Try.underlying65 Try.underlying5 Try.underlying9 acc.length c rfl (fun _ => hO.shape)
        clear HT h34
        go_wp2_with fail
        go_ret3
        rw [HE.out]
        exact ⟨hb, by simp; omega⟩
      · have h34I : ((s[j].toNat : Int) == 34) = false := by rw [beq_eq_false_iff_ne]; omega
        by_cases h32 : s[j].toNat < 32
        · have h32I : (s[j].toNat : Int) < 32 := by omega
          have HE := Lib.hid (txt_none HT.out (by rw [drop_at hlt]; simp only [textS]; rw [if_pos h32]))
          clear HT h34 h32
          go_wp2_with fail
          go_ret3
          exact textOk_none HE.out hb
        · have h32I : ¬ (s[j].toNat : Int) < 32 := by omega
          by_cases h92 : s[j].toNat = 92
          · have h92I : (s[j].toNat : Int) = 92 := by omega
            by_cases hlt1 : j + 1 < s.size
            · have hltJ : (j : Int) + 1 < s.size := by omega
              have hltK : ¬ (s.size : Int) ≤ (j : Int) + 1 := by omega
              by_cases g110 : s[j + 1].toNat = 110
              · have g110I : (s[j + 1].toNat : Int) = 110 := by omega
                have HT2 := Lib.hid (txt_esc (d := 10) HT.out hkj hlt1 h92 (.inr ⟨g110, rfl⟩))
                clear HT h34 h32 h92 g110
                go_wp2_with (at_builtin; refine wpList_append_rd (ys := bytesC [10]) _ rfl (.tmp 70) (.tmp 71) _ rfl eiByte rfl (hO.alloc _) rfl (Rd.byte 10 (by simp)) rfl (one_bytes _) (by simp only [maxLen]; omega) (by omega) (by simp; omega) ?_; intro A' c' w2 ho hg hat hb2)
                go_roundw
                case rel => exact ⟨j + 2, c', A', acc ++ [10], by omega, by omega, by go_num, by simp, by simp; omega, by simpa [bytesC] using ho, HT2, (hb.alloc hbs _).trans hb2⟩
                case measure => simp [intOf]; omega
              · have g110I : ((s[j + 1].toNat : Int) == 110) = false := by rw [beq_eq_false_iff_ne]; omega
                have g110J : ((s[j + 1].toNat : Int) != 110) = true := by rw [bne_iff_ne]; omega
                by_cases g34 : s[j + 1].toNat = 34 ∨ s[j + 1].toNat = 92
                · have HT2 := Lib.hid (txt_esc (d := s[j + 1]) HT.out hkj hlt1 h92 (.inl ⟨g34, rfl⟩))
                  clear HT h34 h32 h92 g110
                  have hcs : ((s[j + 1].toNat : Int) != 34) = false ∨ (((s[j + 1].toNat : Int) != 34) = true ∧ ((s[j + 1].toNat : Int) != 92) = false) := by
                    rcases g34 with g | g
                    · exact .inl (by rw [g]; rfl)
                    · exact .inr (by rw [g]; exact ⟨rfl, rfl⟩)
                  clear g34
                  rcases hcs with g | ⟨g, g'⟩
                  all_goals
                    go_wp2_with (at_builtin; refine wpList_append_rd (ys := bytesC [s[j + 1]]) _ rfl (.tmp 73) (.tmp 77) _ rfl eiByte rfl (hO.alloc _) rfl (Rd.byte s[j + 1] (by simp)) rfl (one_bytes _) (by simp only [maxLen]; omega) (by omega) (by simp; omega) ?_; intro A' c' w2 ho hg hat hb2)
                    go_roundw
                    case rel => exact ⟨j + 2, c', A', acc ++ [s[j + 1]], by omega, by omega, by go_num, by simp, by simp; omega, by simpa [bytesC] using ho, HT2, (hb.alloc hbs _).trans hb2⟩
                    case measure => simp [intOf]; omega
                · have g34I : ((s[j + 1].toNat : Int) != 34) = true := by rw [bne_iff_ne]; omega
                  have g92I : ((s[j + 1].toNat : Int) != 92) = true := by rw [bne_iff_ne]; omega
                  have HE := Lib.hid (txt_bad HT.out hlt h92 (fun _ => ⟨by omega, by omega, g110⟩))
                  clear HT h34 h32 h92 g110 g34
                  go_wp2_with fail
                  go_ret3
                  exact textOk_none HE.out hb
            · have hltJ : ¬ (j : Int) + 1 < s.size := by omega
              have hltK : (s.size : Int) ≤ (j : Int) + 1 := by omega
              have HE := Lib.hid (txt_bad HT.out hlt h92 (fun h => absurd h hlt1))
              clear HT h34 h32 h92
              go_wp2_with fail
              go_ret3
              exact textOk_none HE.out hb
          · have h92I : ((s[j].toNat : Int) == 92) = false := by rw [beq_eq_false_iff_ne]; omega
            have HT2 := Lib.hid (txt_step HT.out hkj hlt h32 h34 h92)
            clear HT h34 h32 h92
            go_wp2_with (at_builtin; refine wpList_append_rd (ys := bytesC [s[j]]) _ rfl (.tmp 17) (.tmp 21) _ rfl eiByte rfl (hO.alloc _) rfl (Rd.byte s[j] (by simp)) rfl (one_bytes _) (by simp only [maxLen]; omega) (by omega) (by simp; omega) ?_; intro A' c' w2 ho hg hat hb2)
            go_roundw
            case rel => exact ⟨j + 1, c', A', acc ++ [s[j]], by omega, by omega, by go_num, by simp, by simp; omega, by simpa [bytesC] using ho, HT2, (hb.alloc hbs _).trans hb2⟩
            case measure => simp [intOf]; omega
    · have hltI : ¬ (j : Int) < s.size := by omega
      have HE := Lib.hid (txt_none HT.out (by rw [show j = s.size from by omega, drop_end]; rfl))
      clear HT
      go_wp2_with fail
      go_ret3
      exact textOk_none HE.out hb
end
end Go.Proofs.Ytdikmklijpcjdaa
