/- The document's own lexing: numbers and spans. -/
import Derived.Test.YtakfnojiaakfpaaGreatDoorRefLexW
namespace Go.Proofs.YtakfnojiaakfpaaGreatDoor
open Go.RowKit
/-- Where the first point is, or the end. -/
def dotI (l : List UInt8) : Nat := (l.takeWhile fun c => !(c.toNat == 46)).length
theorem dotI_le (l : List UInt8) : dotI l ≤ l.length := (List.takeWhile_sublist _).length_le
theorem dotI_yes {s : ByteArray} {k : Nat} (hk : k < s.size) (h : s[k].toNat = 46) : dotI (s.data.toList.drop k) = 0 := by
  rw [drop_at hk, dotI, List.takeWhile_cons, if_neg (by simp [h])]; rfl
theorem dotI_no {s : ByteArray} {k : Nat} (hk : k < s.size) (h : s[k].toNat ≠ 46) : dotI (s.data.toList.drop k) = 1 + dotI (s.data.toList.drop (k + 1)) := by
  rw [drop_at hk, dotI, List.takeWhile_cons, if_pos (by simp [h]), List.length_cons, dotI, Nat.add_comm]
theorem dotI_end {s : ByteArray} : dotI (s.data.toList.drop s.size) = 0 := by rw [drop_end]; rfl
/-- The document's form of a number. -/
def numR (l : List UInt8) : Bool :=
  wholeB (l.take (dotI l)) && (if dotI l = l.length then decide (l.length ≤ 15) else (l.drop (dotI l + 1)).all dchar && decide (dotI l + 1 < l.length) && decide (l.length ≤ 16))
theorem dig_dot {c : UInt8} (h : dchar c = true) : (!(c.toNat == 46)) = true := by simp [dchar] at h; simp; omega
theorem all_digN {l : List UInt8} : l.all dchar = true ↔ digN l = l.length := by
  induction l with
  | nil => simp [digN]
  | cons c r ih =>
    rw [List.all_cons, Bool.and_eq_true, ih]
    cases h : dchar c with
    | true => simp [digN, h]
    | false => simp [digN, h]
theorem digN_take : ∀ (l : List UInt8), (l.take (dotI l)).all dchar = true → digN l = dotI l
  | [], _ => rfl
  | c :: r, h => by
    by_cases h46 : c.toNat = 46
    · have e1 : dotI (c :: r) = 0 := by simp [dotI, h46]
      have : dchar c = false := by simp [dchar, h46]
      rw [e1, digN, List.takeWhile_cons, if_neg (by simp [this])]; rfl
    · have e1 : dotI (c :: r) = dotI r + 1 := by simp [dotI, h46]
      rw [e1, List.take_succ_cons, List.all_cons, Bool.and_eq_true] at h
      have := digN_take r h.2
      rw [e1, digN, List.takeWhile_cons, if_pos h.1, List.length_cons, ← this]; rfl
theorem dotI_dig : ∀ (l : List UInt8), digN l = l.length ∨ (∃ c, l[digN l]? = some c ∧ c.toNat = 46) → dotI l = digN l
  | [], _ => rfl
  | c :: r, h => by
    cases hd : dchar c with
    | true =>
      have e1 : digN (c :: r) = digN r + 1 := by simp [digN, hd]
      have e2 : dotI (c :: r) = dotI r + 1 := by
        have := dig_dot hd
        simp at this
        simp [dotI, this]
      rw [e1] at h
      rw [e1, e2, dotI_dig r (by simpa using h)]
    | false =>
      have e1 : digN (c :: r) = 0 := by simp [digN, hd]
      rw [e1] at h
      rcases h with h | ⟨x, h1, h2⟩
      · simp at h
      · simp at h1; subst h1
        rw [e1]; simp [dotI, h2]
theorem take_all_dig (l : List UInt8) : (l.take (digN l)).all dchar = true := List.all_eq_true.2 (take_digs l)
theorem dot_at {l : List UInt8} (h : dotI l < l.length) : ∃ c, l[dotI l]? = some c ∧ c.toNat = 46 := by
  induction l with
  | nil => simp at h
  | cons c r ih =>
    by_cases h46 : c.toNat = 46
    · exact ⟨c, by simp [dotI, h46], h46⟩
    · have e1 : dotI (c :: r) = dotI r + 1 := by simp [dotI, h46]
      rw [e1] at h ⊢
      simpa using ih (by simpa using h)
theorem numR_eq (l : List UInt8) : numR l = numB l := by
  by_cases hw : (l.take (dotI l)).all dchar = true
  · have hd := digN_take l hw
    have hlen : (l.take (dotI l)).length = dotI l := by rw [List.length_take]; have := dotI_le l; omega
    have hwb : wholeB (l.take (dotI l)) = (decide (1 ≤ dotI l) && !needB (l.take (dotI l))) := by rw [wholeB, hw, hlen]; rfl
    rw [numR, numB, hd, hwb]
    by_cases h0 : dotI l = 0 ∨ needB (l.take (dotI l)) = true
    · rw [if_pos h0]
      rcases h0 with h0 | h0
      · rw [decide_eq_false (by omega)]; rfl
      · rw [h0]; simp
    · rw [if_neg h0]
      have h1 : 1 ≤ dotI l := by
        have : dotI l ≠ 0 := fun h => h0 (.inl h)
        omega
      have h2 : needB (l.take (dotI l)) = false := by
        cases h : needB (l.take (dotI l)) with
        | false => rfl
        | true => exact absurd (.inr h) h0
      rw [decide_eq_true h1, h2]
      simp only [Bool.true_and, Bool.not_false]
      by_cases he : dotI l = l.length
      · rw [if_pos he, if_pos he, he]
      · rw [if_neg he, if_neg he]
        have hlt : dotI l < l.length := by have := dotI_le l; omega
        obtain ⟨c, hc, h46⟩ := dot_at hlt
        have hdb : dotB l[dotI l]? = true := by rw [hc]; simp [dotB, h46]
        rw [hdb, Bool.true_and]
        have hdl : (l.drop (dotI l + 1)).length = l.length - (dotI l + 1) := List.length_drop
        have hm := digN_le (l.drop (dotI l + 1))
        by_cases ha : (l.drop (dotI l + 1)).all dchar = true
        · have hm2 := all_digN.1 ha
          rw [ha, hm2, hdl]
          by_cases hx : dotI l + 1 < l.length
          · rw [decide_eq_true hx, decide_eq_true (show 0 < l.length - (dotI l + 1) by omega), decide_eq_true (show dotI l + 1 + (l.length - (dotI l + 1)) = l.length by omega)]
            simp only [Bool.true_and]
            exact decide_eq_decide.2 (by omega)
          · rw [decide_eq_false hx, decide_eq_false (show ¬ 0 < l.length - (dotI l + 1) by omega)]; rfl
        · have hm2 : digN (l.drop (dotI l + 1)) ≠ (l.drop (dotI l + 1)).length := fun h => ha (all_digN.2 h)
          have ha2 : (l.drop (dotI l + 1)).all dchar = false := by simpa using ha
          rw [ha2, decide_eq_false (show ¬ dotI l + 1 + digN (l.drop (dotI l + 1)) = l.length by omega)]
          simp
  · have hwb : wholeB (l.take (dotI l)) = false := by rw [wholeB]; simp at hw; simp; intro h; obtain ⟨x, hx, hx2⟩ := hw; have := h x hx; rw [hx2] at this; cases this
    rw [numR, hwb, Bool.false_and]
    have hno : dotI l ≠ digN l := fun h => hw (by rw [h]; exact take_all_dig l)
    rw [numB]
    by_cases h0 : digN l = 0 ∨ needB (l.take (digN l)) = true
    · rw [if_pos h0]
    · rw [if_neg h0]
      by_cases he : digN l = l.length
      · exact absurd (dotI_dig l (.inl he)) hno
      · rw [if_neg he]
        have hlt : digN l < l.length := by have := digN_le l; omega
        have hc : l[digN l]? = some l[digN l] := List.getElem?_eq_getElem hlt
        have : dotB l[digN l]? = false := by
          rw [hc]
          simp only [dotB]
          rw [beq_eq_false_iff_ne]
          intro h46
          exact hno (dotI_dig l (.inr ⟨_, hc, by omega⟩))
        rw [this]; rfl
theorem drop_all_step {s : ByteArray} {k : Nat} (h : k < s.size) (hd : dchar s[k] = true) : (s.data.toList.drop k).all dchar = (s.data.toList.drop (k + 1)).all dchar := by
  rw [drop_at h, List.all_cons, hd, Bool.true_and]
set_option maxRecDepth 100000 in
set_option maxHeartbeats 4000000 in
theorem rnumber_any (s : ByteArray) (w : World) (hs : s.size ≤ 140737488355328) : Calls Tryz.prog 72 #[.string s] w fun e w' => e = .returned (.bool (numB s.data.toList)) ∧ w = w' := by
  have HN := Lib.hid (numR_eq s.data.toList)
  have hl : s.data.toList.length = s.size := (Lib.size_eq s).symm
  obtain ⟨d, hd⟩ : ∃ d, dotI s.data.toList = d := ⟨_, rfl⟩
  have hds : d ≤ s.size := by rw [← hd, ← hl]; exact dotI_le _
  have HD := Lib.hid hd
  have HL := Lib.hid hl
  have hW := fun W => Lib.hid (whole_any (s.extract 0 d) W (by have := extract_size_le s 0 d; omega))
  obtain ⟨b, hb⟩ : ∃ b, wholeB (s.extract 0 d).data.toList = b := ⟨_, rfl⟩
  rw [hb] at hW
  have HB : Hid (numB s.data.toList = (b && (if d = s.size then decide (s.size ≤ 15) else (s.data.toList.drop (d + 1)).all dchar && decide (d + 1 < s.size) && decide (s.size ≤ 16)))) := by
    show _ = _
    rw [← HN.out, numR, hd, hl, ← hb, extract_toL, List.drop_zero, Nat.sub_zero]
  clear hd hl HN hb
  have hd0 : (0 : Int) ≤ d := by omega
  have hdI : (d : Int) ≤ s.size := by omega
  go_enter Tryz.func72, Tryz.ntmps72
  go_wp2_with fail
  go_loop [3, 4] (fun x i => ∃ (k : Nat) (y : Nat), k ≤ s.size ∧ i = .int .i64 ((k : Int) - 1) ∧ x = .int .i64 (y : Int) ∧ Hid (y = k + dotI (s.data.toList.drop k))) (fun _ i => (intOf i + 1).toNat)
  case atStart => exact ⟨s.size, s.size, Nat.le_refl _, rfl, rfl, by show _ = _; rw [dotI_end]; rfl⟩
  case round =>
    obtain ⟨k, y, hk, rfl, rfl, HY⟩ := hrel
    by_cases hlt : 0 < k
    · obtain ⟨j, rfl⟩ : ∃ j, k = j + 1 := ⟨k - 1, by omega⟩
      have hj0 : (0 : Int) ≤ (j : Int) := by omega
      have hjI : (j : Int) < s.size := by omega
      have hjs : j < s.size := by omega
      have e0 : (((j + 1 : Nat) : Int) - 1) = (j : Int) := by omega
      simp only [e0]
      by_cases h46 : s[j].toNat = 46
      · have h46I : (s[j].toNat : Int) = 46 := by omega
        have HY2 : Hid (j = j + dotI (s.data.toList.drop j)) := by show _ = _; rw [dotI_yes hjs h46]; rfl
        clear h46 HY e0
        go_wp2_with fail
        go_round
        case rel => exact ⟨j, j, by omega, rfl, rfl, HY2⟩
        case measure => simp [intOf]
      · have h46I : ((s[j].toNat : Int) == 46) = false := by rw [beq_eq_false_iff_ne]; omega
        have HY2 : Hid (y = j + dotI (s.data.toList.drop j)) := by show _ = _; rw [dotI_no hjs h46, ← Nat.add_assoc]; exact HY.out
        clear h46 HY e0
        go_wp2_with fail
        go_round
        case rel => exact ⟨j, y, by omega, rfl, rfl, HY2⟩
        case measure => simp [intOf]
    · obtain rfl : k = 0 := by omega
      have hy : y = d := by rw [HY.out, List.drop_zero, Nat.zero_add]; exact HD.out
      subst hy
      clear HY
      cases b with
      | false =>
        go_wp2_with (go_at_call 107; refine ((hW _).out).mono ?_; rintro e w' ⟨rfl, rfl⟩)
        go_ret
        exact ⟨ret_bool (by rw [HB.out]; rfl), rfl⟩
      | true =>
        by_cases he : y = s.size
        · have heI : ((y : Int) == s.size) = true := by rw [beq_iff_eq]; omega
          have HB2 : Hid (numB s.data.toList = decide (s.size ≤ 15)) := by show _ = _; rw [HB.out, if_pos he]; rfl
          have hE := Lib.hid he
          clear HB he
          go_wp2_with (go_at_call 107; refine ((hW _).out).mono ?_; rintro e w' ⟨rfl, rfl⟩)
          go_ret
          exact ⟨ret_bool (by rw [HB2.out]; simp; omega), rfl⟩
        · have heI : ((y : Int) == s.size) = false := by rw [beq_eq_false_iff_ne]; omega
          have HB2 : Hid (numB s.data.toList = ((s.data.toList.drop (y + 1)).all dchar && decide (y + 1 < s.size) && decide (s.size ≤ 16))) := by show _ = _; rw [HB.out, if_neg he]; rfl
          have hys : y < s.size := by omega
          have hysI : (y : Int) < s.size := by omega
          clear HB he
          go_wp2_with (go_at_call 107; refine ((hW _).out).mono ?_; rintro e w' ⟨rfl, rfl⟩)
          go_loop [5] (fun i => ∃ k : Nat, y + 1 ≤ k ∧ k ≤ s.size ∧ i = .int .i64 k ∧ Hid ((s.data.toList.drop (y + 1)).all dchar = (s.data.toList.drop k).all dchar)) (fun i => s.size - (intOf i).toNat)
          case atStart => exact ⟨y + 1, Nat.le_refl _, hys, by go_num, rfl⟩
          case round =>
            obtain ⟨k, hk1, hk2, rfl, HK⟩ := hrel
            have hk0 : (0 : Int) ≤ k := by omega
            by_cases hlt2 : k < s.size
            · have hltI : (k : Int) < s.size := by omega
              cases hdc : dchar s[k] with
              | true =>
                have HK2 := Lib.hid (HK.out.trans (drop_all_step hlt2 hdc))
                have HD1 := fun (W : World) => Lib.hid (hdc ▸ rdigit_any s[k] W)
                clear hdc HK
                go_wp2_with (go_at_call 108; refine ((HD1 _).out).mono ?_; rintro e w' ⟨rfl, rfl⟩)
                go_round
                case rel => exact ⟨k + 1, by omega, by omega, by go_num, HK2⟩
                case measure => simp [intOf]; omega
              | false =>
                have HT : Hid (numB s.data.toList = false) := by show _ = _; rw [HB2.out, HK.out, drop_at hlt2, List.all_cons, hdc]; rfl
                have HD1 := fun (W : World) => Lib.hid (hdc ▸ rdigit_any s[k] W)
                clear hdc HK
                go_wp2_with (go_at_call 108; refine ((HD1 _).out).mono ?_; rintro e w' ⟨rfl, rfl⟩)
                go_ret
                exact ⟨ret_bool HT.out.symm, rfl⟩
            · have hltI : ¬ (k : Int) < s.size := by omega
              have HT : Hid (numB s.data.toList = (decide (y + 1 < s.size) && decide (s.size ≤ 16))) := by
                show _ = _
                rw [HB2.out, HK.out, show k = s.size from by omega, drop_end]; rfl
              clear HK
              by_cases hx : y + 1 < s.size
              · have hxI : (y : Int) + 1 < s.size := by omega
                go_wp2_with fail
                go_ret
                exact ⟨ret_bool (by rw [HT.out, decide_eq_true hx]; simp; omega), rfl⟩
              · have hxI : ¬ (y : Int) + 1 < s.size := by omega
                go_wp2_with fail
                go_ret
                exact ⟨ret_bool (by rw [HT.out, decide_eq_false hx]; rfl), rfl⟩
end Go.Proofs.YtakfnojiaakfpaaGreatDoor
