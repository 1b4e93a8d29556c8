/- Numbers, spans, signs of a query. -/
import Derived.Test.YtdikmklijpcjdaaLexC
namespace Go.Proofs.Ytdikmklijpcjdaa
open Go.RowKit

theorem extract_toL (s : ByteArray) (i j : Nat) : (s.extract i j).data.toList = (s.data.toList.drop i).take (j - i) := by
  rw [ByteArray.data_extract, Array.toList_extract, List.extract_eq_take_drop]
theorem extract_size_le (s : ByteArray) (i j : Nat) : (s.extract i j).size ≤ s.size := by
  rw [ByteArray.size_extract]; omega
theorem digN_le (l : List UInt8) : digN l ≤ l.length := (List.takeWhile_sublist _).length_le
theorem digN_le' (s : ByteArray) : digN s.data.toList ≤ s.size := by rw [Lib.size_eq]; exact digN_le _

def dotB : Option UInt8 → Bool
  | some c => (c.toNat : Int) == 46
  | none => false
def numB (l : List UInt8) : Bool :=
  if digN l = 0 ∨ needB (l.take (digN l)) = true then false
  else if digN l = l.length then decide (digN l ≤ 15)
  else dotB l[digN l]? && decide (0 < digN (l.drop (digN l + 1))) && decide (digN l + 1 + digN (l.drop (digN l + 1)) = l.length) && decide (digN l + digN (l.drop (digN l + 1)) ≤ 15)

set_option maxHeartbeats 1000000 in
theorem number_any (s : ByteArray) (w : World) (hs : s.size ≤ 140737488355328) : Calls Try.prog 37 #[.string s] w fun e w' => e = .returned (.bool (numB s.data.toList)) ∧ w = w' := by
  obtain ⟨n, hn⟩ : ∃ n, digN s.data.toList = n := ⟨_, rfl⟩
  have hns : n ≤ s.size := hn ▸ digN_le' s
  have HD := fun W => Lib.hid (digits_any s W (by unfold maxLen; omega))
  rw [hn] at HD
  have hnI : (n : Int) ≤ s.size := by omega
  have hl : s.data.toList.length = s.size := (Lib.size_eq s).symm
  by_cases h0 : n = 0
  · have HT : Hid (numB s.data.toList = false) := by show numB _ = _; rw [numB, hn, if_pos (.inl h0)]
    clear hn hns hl
    subst h0
    go_enter Try.func37, Try.ntmps37
    go_wp2_with (go_at_call 60; refine ((HD _).out).mono ?_; rintro e w' ⟨rfl, rfl⟩)
    go_ret
    exact ⟨ret_bool HT.out.symm, rfl⟩
  · have hnz : ((n : Int) == 0) = false := by rw [beq_eq_false_iff_ne]; omega
    have HE := fun W => Lib.hid (needless_any (s.extract 0 n) W (by have := extract_size_le s 0 n; unfold maxLen; omega))
    rw [extract_toL, List.drop_zero, Nat.sub_zero] at HE
    have hn0 : (0 : Int) ≤ n := by omega
    cases hne : needB (s.data.toList.take n) with
    | true =>
      rw [hne] at HE
      have HT : Hid (numB s.data.toList = false) := by show numB _ = _; rw [numB, hn, if_pos (.inr hne)]
      clear hn hns hl hne
      go_enter Try.func37, Try.ntmps37
      go_wp2_with (first | (go_at_call 60; refine ((HD _).out).mono ?_; rintro e w' ⟨rfl, rfl⟩) | (go_at_call 61; refine ((HE _).out).mono ?_; rintro e w' ⟨rfl, rfl⟩))
      go_ret
      exact ⟨ret_bool HT.out.symm, rfl⟩
    | false =>
      rw [hne] at HE
      by_cases hf : n = s.size
      · have HT : Hid (numB s.data.toList = decide (n ≤ 15)) := by show numB _ = _; rw [numB, hn, if_neg (by simp [h0, hne]), if_pos (by omega)]
        have hfI : ((n : Int) == s.size) = true := by rw [beq_iff_eq]; omega
        clear hn hns hl hne hf h0
        go_enter Try.func37, Try.ntmps37
        go_wp2_with (first | (go_at_call 60; refine ((HD _).out).mono ?_; rintro e w' ⟨rfl, rfl⟩) | (go_at_call 61; refine ((HE _).out).mono ?_; rintro e w' ⟨rfl, rfl⟩))
        go_ret
        exact ⟨ret_bool (by rw [HT.out]; simp; omega), rfl⟩
      · have hlt : n < s.size := by omega
        obtain ⟨m, hm⟩ : ∃ m, digN (s.data.toList.drop (n + 1)) = m := ⟨_, rfl⟩
        have hm' : digN (s.extract (n + 1) s.size).data.toList = m := by rw [extract_toL, List.take_of_length_le (by simp)]; exact hm
        have HM := fun W => Lib.hid (digits_any (s.extract (n + 1) s.size) W (by have := extract_size_le s (n + 1) s.size; unfold maxLen; omega))
        rw [hm'] at HM
        have hml : m ≤ s.size := by have := digN_le' (s.extract (n + 1) s.size); have := extract_size_le s (n + 1) s.size; omega
        have hfI : ((n : Int) == s.size) = false := by rw [beq_eq_false_iff_ne]; omega
        have HT : Hid (numB s.data.toList = (((s[n].toNat : Int) == 46) && decide (0 < m) && decide (n + 1 + m = s.size) && decide (n + m ≤ 15))) := by
          show numB _ = _
          rw [numB, hn, if_neg (by simp [h0, hne]), if_neg (by omega), hm, hl]
          have : s.data.toList[n]? = some s[n] := by rw [List.getElem?_eq_getElem (by omega)]; rfl
          rw [this]
          rfl
        have hltI : (n : Int) + 1 ≤ s.size := by omega
        have hltJ : (n : Int) < s.size := by omega
        have hw1 : IntKind.i64.wrap ((n : Int) + 1) = ((n + 1 : Nat) : Int) := by rw [IntKind.wrap_i64]; omega
        have hw2 : IntKind.i64.wrap (((n + 1 : Nat) : Int) + m) = ((n + 1 + m : Nat) : Int) := by rw [IntKind.wrap_i64]; omega
        have hw3 : IntKind.i64.wrap ((n : Int) + m) = ((n + m : Nat) : Int) := by rw [IntKind.wrap_i64]; omega
        have hk0 : (0 : Int) ≤ ((n + 1 : Nat) : Int) := by omega
        have hk1 : ((n + 1 : Nat) : Int) ≤ s.size := by omega
        clear hn hns hl hne hf hm hm'
        cases c1 : ((s[n].toNat : Int) == 46)
        all_goals
          go_enter Try.func37, Try.ntmps37
          go_wp2_with (first | (go_at_call 60; first | (with_reducible refine ((HM _).out).mono ?_; rintro e w' ⟨rfl, rfl⟩) | (with_reducible refine ((HD _).out).mono ?_; rintro e w' ⟨rfl, rfl⟩)) | (go_at_call 61; refine ((HE _).out).mono ?_; rintro e w' ⟨rfl, rfl⟩))
          all_goals
            go_ret
            refine ⟨ret_bool ?_, rfl⟩
            rw [HT.out, c1]
            clear HT HM HE HD hw1 hw2 hw3
            first
              | rfl
              | (simp; done)
              | (simp; intros; omega)
              | (rw [Bool.eq_iff_iff]; simp; omega)
end Go.Proofs.Ytdikmklijpcjdaa
