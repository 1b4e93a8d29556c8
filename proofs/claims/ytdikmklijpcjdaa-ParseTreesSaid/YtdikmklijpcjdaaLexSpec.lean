/- What a query's text is cut into: plain. -/
import Derived.Test.YtdikmklijpcjdaaProg
import Derived.Test.YtdikmklijpcjdaaDrop
import Derived.Test.YtdikmklijpcjdaaNameB
import Derived.Lib.Bytealg
import Derived.Laws.Externs
namespace Go.Proofs.Ytdikmklijpcjdaa
section
/-! ## LexC -/
open Go.RowKit

def letB (c : UInt8) : Bool := (97 ≤ c.toNat && c.toNat ≤ 122) || (65 ≤ c.toNat && c.toNat ≤ 90) || c.toNat == 95 || c.toNat == 58
def digN (l : List UInt8) : Nat := (l.takeWhile dchar).length

theorem lclass (c : Nat) (hc : c ≤ 255) : (0 ≤ c ∧ c ≤ 47) ∨ (48 ≤ c ∧ c ≤ 57) ∨ (58 ≤ c ∧ c ≤ 58) ∨ (59 ≤ c ∧ c ≤ 64) ∨ (65 ≤ c ∧ c ≤ 90) ∨ (91 ≤ c ∧ c ≤ 94) ∨ (95 ≤ c ∧ c ≤ 95) ∨ (96 ≤ c ∧ c ≤ 96) ∨ (97 ≤ c ∧ c ≤ 122) ∨ (123 ≤ c ∧ c ≤ 255) := by omega
set_option maxHeartbeats 1000000 in
theorem digit_any (c : UInt8) (w : World) : Calls Try.prog 33 #[.int .u8 (c.toNat : Int)] w fun e w' => e = .returned (.bool (dchar c)) ∧ w = w' := by
  have hu := u8_le c
  have h0 : (0 : Int) ≤ c.toNat := by omega
  have h255 : (c.toNat : Int) ≤ 255 := by omega
  rcases lclass c.toNat hu with h | h | h | h | h | h | h | h | h | h
  · have h1 : (0 : Int) ≤ c.toNat := by omega
    have h2 : (c.toNat : Int) ≤ 47 := by omega
    have HT : Hid (dchar c = false) := by show dchar c = _; simp [dchar]; omega
    clear h hu
    go_enter Try.func33, Try.ntmps33
    go_wp2
    go_ret
    exact ⟨ret_bool (by first | exact HT.out.symm | (rw [HT.out]; simp; omega)), rfl⟩
  · have h1 : (48 : Int) ≤ c.toNat := by omega
    have h2 : (c.toNat : Int) ≤ 57 := by omega
    have HT : Hid (dchar c = true) := by show dchar c = _; simp [dchar]; omega
    clear h hu
    go_enter Try.func33, Try.ntmps33
    go_wp2
    go_ret
    exact ⟨ret_bool (by first | exact HT.out.symm | (rw [HT.out]; simp; omega)), rfl⟩
  · have h1 : (58 : Int) ≤ c.toNat := by omega
    have h2 : (c.toNat : Int) ≤ 58 := by omega
    have HT : Hid (dchar c = false) := by show dchar c = _; simp [dchar]; omega
    clear h hu
    go_enter Try.func33, Try.ntmps33
    go_wp2
    go_ret
    exact ⟨ret_bool (by first | exact HT.out.symm | (rw [HT.out]; simp; omega)), rfl⟩
  · have h1 : (59 : Int) ≤ c.toNat := by omega
    have h2 : (c.toNat : Int) ≤ 64 := by omega
    have HT : Hid (dchar c = false) := by show dchar c = _; simp [dchar]; omega
    clear h hu
    go_enter Try.func33, Try.ntmps33
    go_wp2
    go_ret
    exact ⟨ret_bool (by first | exact HT.out.symm | (rw [HT.out]; simp; omega)), rfl⟩
  · have h1 : (65 : Int) ≤ c.toNat := by omega
    have h2 : (c.toNat : Int) ≤ 90 := by omega
    have HT : Hid (dchar c = false) := by show dchar c = _; simp [dchar]; omega
    clear h hu
    go_enter Try.func33, Try.ntmps33
    go_wp2
    go_ret
    exact ⟨ret_bool (by first | exact HT.out.symm | (rw [HT.out]; simp; omega)), rfl⟩
  · have h1 : (91 : Int) ≤ c.toNat := by omega
    have h2 : (c.toNat : Int) ≤ 94 := by omega
    have HT : Hid (dchar c = false) := by show dchar c = _; simp [dchar]; omega
    clear h hu
    go_enter Try.func33, Try.ntmps33
    go_wp2
    go_ret
    exact ⟨ret_bool (by first | exact HT.out.symm | (rw [HT.out]; simp; omega)), rfl⟩
  · have h1 : (95 : Int) ≤ c.toNat := by omega
    have h2 : (c.toNat : Int) ≤ 95 := by omega
    have HT : Hid (dchar c = false) := by show dchar c = _; simp [dchar]; omega
    clear h hu
    go_enter Try.func33, Try.ntmps33
    go_wp2
    go_ret
    exact ⟨ret_bool (by first | exact HT.out.symm | (rw [HT.out]; simp; omega)), rfl⟩
  · have h1 : (96 : Int) ≤ c.toNat := by omega
    have h2 : (c.toNat : Int) ≤ 96 := by omega
    have HT : Hid (dchar c = false) := by show dchar c = _; simp [dchar]; omega
    clear h hu
    go_enter Try.func33, Try.ntmps33
    go_wp2
    go_ret
    exact ⟨ret_bool (by first | exact HT.out.symm | (rw [HT.out]; simp; omega)), rfl⟩
  · have h1 : (97 : Int) ≤ c.toNat := by omega
    have h2 : (c.toNat : Int) ≤ 122 := by omega
    have HT : Hid (dchar c = false) := by show dchar c = _; simp [dchar]; omega
    clear h hu
    go_enter Try.func33, Try.ntmps33
    go_wp2
    go_ret
    exact ⟨ret_bool (by first | exact HT.out.symm | (rw [HT.out]; simp; omega)), rfl⟩
  · have h1 : (123 : Int) ≤ c.toNat := by omega
    have h2 : (c.toNat : Int) ≤ 255 := by omega
    have HT : Hid (dchar c = false) := by show dchar c = _; simp [dchar]; omega
    clear h hu
    go_enter Try.func33, Try.ntmps33
    go_wp2
    go_ret
    exact ⟨ret_bool (by first | exact HT.out.symm | (rw [HT.out]; simp; omega)), rfl⟩
set_option maxHeartbeats 1000000 in
theorem letter_any (c : UInt8) (w : World) : Calls Try.prog 34 #[.int .u8 (c.toNat : Int)] w fun e w' => e = .returned (.bool (letB c)) ∧ w = w' := by
  have hu := u8_le c
  have h0 : (0 : Int) ≤ c.toNat := by omega
  have h255 : (c.toNat : Int) ≤ 255 := by omega
  rcases lclass c.toNat hu with h | h | h | h | h | h | h | h | h | h
  · have h1 : (0 : Int) ≤ c.toNat := by omega
    have h2 : (c.toNat : Int) ≤ 47 := by omega
    have HT : Hid (letB c = false) := by show letB c = _; simp [letB]; omega
    clear h hu
    go_enter Try.func34, Try.ntmps34
    go_wp2
    go_ret
    exact ⟨ret_bool (by first | exact HT.out.symm | (rw [HT.out]; simp; omega)), rfl⟩
  · have h1 : (48 : Int) ≤ c.toNat := by omega
    have h2 : (c.toNat : Int) ≤ 57 := by omega
    have HT : Hid (letB c = false) := by show letB c = _; simp [letB]; omega
    clear h hu
    go_enter Try.func34, Try.ntmps34
    go_wp2
    go_ret
    exact ⟨ret_bool (by first | exact HT.out.symm | (rw [HT.out]; simp; omega)), rfl⟩
  · have h1 : (58 : Int) ≤ c.toNat := by omega
    have h2 : (c.toNat : Int) ≤ 58 := by omega
    have HT : Hid (letB c = true) := by show letB c = _; simp [letB]; omega
    clear h hu
    go_enter Try.func34, Try.ntmps34
    go_wp2
    go_ret
    exact ⟨ret_bool (by first | exact HT.out.symm | (rw [HT.out]; simp; omega)), rfl⟩
  · have h1 : (59 : Int) ≤ c.toNat := by omega
    have h2 : (c.toNat : Int) ≤ 64 := by omega
    have HT : Hid (letB c = false) := by show letB c = _; simp [letB]; omega
    clear h hu
    go_enter Try.func34, Try.ntmps34
    go_wp2
    go_ret
    exact ⟨ret_bool (by first | exact HT.out.symm | (rw [HT.out]; simp; omega)), rfl⟩
  · have h1 : (65 : Int) ≤ c.toNat := by omega
    have h2 : (c.toNat : Int) ≤ 90 := by omega
    have HT : Hid (letB c = true) := by show letB c = _; simp [letB]; omega
    clear h hu
    go_enter Try.func34, Try.ntmps34
    go_wp2
    go_ret
    exact ⟨ret_bool (by first | exact HT.out.symm | (rw [HT.out]; simp; omega)), rfl⟩
  · have h1 : (91 : Int) ≤ c.toNat := by omega
    have h2 : (c.toNat : Int) ≤ 94 := by omega
    have HT : Hid (letB c = false) := by show letB c = _; simp [letB]; omega
    clear h hu
    go_enter Try.func34, Try.ntmps34
    go_wp2
    go_ret
    exact ⟨ret_bool (by first | exact HT.out.symm | (rw [HT.out]; simp; omega)), rfl⟩
  · have h1 : (95 : Int) ≤ c.toNat := by omega
    have h2 : (c.toNat : Int) ≤ 95 := by omega
    have HT : Hid (letB c = true) := by show letB c = _; simp [letB]; omega
    clear h hu
    go_enter Try.func34, Try.ntmps34
    go_wp2
    go_ret
    exact ⟨ret_bool (by first | exact HT.out.symm | (rw [HT.out]; simp; omega)), rfl⟩
  · have h1 : (96 : Int) ≤ c.toNat := by omega
    have h2 : (c.toNat : Int) ≤ 96 := by omega
    have HT : Hid (letB c = false) := by show letB c = _; simp [letB]; omega
    clear h hu
    go_enter Try.func34, Try.ntmps34
    go_wp2
    go_ret
    exact ⟨ret_bool (by first | exact HT.out.symm | (rw [HT.out]; simp; omega)), rfl⟩
  · have h1 : (97 : Int) ≤ c.toNat := by omega
    have h2 : (c.toNat : Int) ≤ 122 := by omega
    have HT : Hid (letB c = true) := by show letB c = _; simp [letB]; omega
    clear h hu
    go_enter Try.func34, Try.ntmps34
    go_wp2
    go_ret
    exact ⟨ret_bool (by first | exact HT.out.symm | (rw [HT.out]; simp; omega)), rfl⟩
  · have h1 : (123 : Int) ≤ c.toNat := by omega
    have h2 : (c.toNat : Int) ≤ 255 := by omega
    have HT : Hid (letB c = false) := by show letB c = _; simp [letB]; omega
    clear h hu
    go_enter Try.func34, Try.ntmps34
    go_wp2
    go_ret
    exact ⟨ret_bool (by first | exact HT.out.symm | (rw [HT.out]; simp; omega)), rfl⟩
theorem digN_at {s : ByteArray} {k : Nat} (h : k < s.size) (hd : dchar s[k] = true) : digN (s.data.toList.drop k) = 1 + digN (s.data.toList.drop (k + 1)) := by
  rw [drop_at h, digN, List.takeWhile_cons, if_pos hd, List.length_cons, digN, Nat.add_comm]
theorem digN_no {s : ByteArray} {k : Nat} (h : k < s.size) (hd : dchar s[k] = false) : digN (s.data.toList.drop k) = 0 := by
  rw [drop_at h, digN, List.takeWhile_cons, if_neg (by simp [hd])]; rfl
theorem digN_end {s : ByteArray} : digN (s.data.toList.drop s.size) = 0 := by rw [drop_end]; rfl
set_option maxHeartbeats 1000000 in
theorem digits_any (s : ByteArray) (w : World) (hs : s.size ≤ maxLen) : Calls Try.prog 60 #[.string s] w fun e w' => e = .returned (.int .i64 (digN s.data.toList)) ∧ w = w' := by
  have HD := fun (c : UInt8) (W : World) => Lib.hid (digit_any c W)
  unfold maxLen at hs
  go_enter Try.func60, Try.ntmps60
  go_wp2
  go_loop [3] (fun i => ∃ k : Nat, k ≤ s.size ∧ i = .int .i64 k ∧ Hid (digN s.data.toList = k + digN (s.data.toList.drop k))) (fun i => s.size - (intOf i).toNat)
  case atStart => exact ⟨0, by omega, rfl, by show _ = _; simp⟩
  case round =>
    obtain ⟨k, hk, rfl, HV⟩ := hrel
    by_cases hlt : k < s.size
    · cases hd : dchar s[k] with
      | true =>
        have HV2 := Lib.hid (HV.out.trans (by rw [digN_at hlt hd, ← Nat.add_assoc] : _ = k + 1 + digN (s.data.toList.drop (k + 1))))
        have HD1 := fun (W : World) => Lib.hid (hd ▸ digit_any s[k] W)
        clear hd HV HD
        go_wp2_with (go_at_call 33; refine ((HD1 _).out).mono ?_; rintro e w' ⟨rfl, rfl⟩)
        go_round
        case rel => exact ⟨k + 1, by omega, by go_num, HV2⟩
        case measure => simp [intOf]; omega
      | false =>
        have HV2 := Lib.hid (HV.out.trans (by rw [digN_no hlt hd] : _ = k + 0))
        have HD1 := fun (W : World) => Lib.hid (hd ▸ digit_any s[k] W)
        clear hd HV HD
        go_wp2_with (go_at_call 33; refine ((HD1 _).out).mono ?_; rintro e w' ⟨rfl, rfl⟩)
        go_ret
        exact ⟨ret_int (by rw [HV2.out]; rfl), rfl⟩
    · have hks : k = s.size := by omega
      have HV2 := Lib.hid (HV.out.trans (by rw [hks, digN_end] : _ = k + 0))
      clear hks HV
      go_wp2_with fail
      go_ret
      exact ⟨ret_int (by rw [HV2.out]; rfl), rfl⟩
def needB (l : List UInt8) : Bool := decide (1 < l.length) && (l.head? == some 48)
set_option maxHeartbeats 1000000 in
theorem needless_any (s : ByteArray) (w : World) (hs : s.size ≤ maxLen) : Calls Try.prog 61 #[.string s] w fun e w' => e = .returned (.bool (needB s.data.toList)) ∧ w = w' := by
  unfold maxLen at hs
  by_cases h : 1 < s.size
  · have hI : (1 : Int) < s.size := by omega
    have h0 : 0 < s.size := by omega
    cases h1 : ((s[0].toNat : Int) == 48) with
    | _ =>
      have HT : Hid (needB s.data.toList = ((s[0].toNat : Int) == 48)) := by
        show needB _ = _
        have : (s[0] == (48 : UInt8)) = ((s[0].toNat : Int) == 48) := by
          by_cases hc : s[0] = 48
          · rw [hc]; rfl
          · have : s[0].toNat ≠ 48 := fun h' => hc (UInt8.toNat_inj.1 h')
            rw [beq_eq_false_iff_ne.2 hc, eq_comm, beq_eq_false_iff_ne]; omega
        rw [needB, head_at h0, ← Lib.size_eq, decide_eq_true h, Bool.true_and, ← this]; rfl
      rw [h1] at HT
      go_enter Try.func61, Try.ntmps61
      go_wp2
      go_ret
      exact ⟨ret_bool HT.out.symm, rfl⟩
  · have hI : ¬ (1 : Int) < s.size := by omega
    have HT : Hid (needB s.data.toList = false) := by show needB _ = _; rw [needB, ← Lib.size_eq, decide_eq_false h]; rfl
    go_enter Try.func61, Try.ntmps61
    go_wp2
    go_ret
    exact ⟨ret_bool HT.out.symm, rfl⟩
end
section
/-! ## LexN -/
open Go.RowKit

theorem extract_toL (s : ByteArray) (i j : Nat) : (s.extract i j).data.toList = (s.data.toList.drop i).take (j - i) := by
  rw [ByteArray.data_extract, Array.toList_extract, List.extract_eq_take_drop]
theorem extract_size_le (s : ByteArray) (i j : Nat) : (s.extract i j).size ≤ s.size := by
  rw [ByteArray.size_extract]; omega
theorem digN_le (l : List UInt8) : digN l ≤ l.length := (List.takeWhile_sublist _).length_le
theorem digN_le' (s : ByteArray) : digN s.data.toList ≤ s.size := by rw [Lib.size_eq]; exact digN_le _

def dotB : Option UInt8 → Bool
  | some c => (c.toNat : Int) == 46
  | none => false
def numB (l : List UInt8) : Bool :=
  if digN l = 0 ∨ needB (l.take (digN l)) = true then false
  else if digN l = l.length then decide (digN l ≤ 15)
  else dotB l[digN l]? && decide (0 < digN (l.drop (digN l + 1))) && decide (digN l + 1 + digN (l.drop (digN l + 1)) = l.length) && decide (digN l + digN (l.drop (digN l + 1)) ≤ 15)

set_option maxHeartbeats 1000000 in
theorem number_any (s : ByteArray) (w : World) (hs : s.size ≤ 140737488355328) : Calls Try.prog 37 #[.string s] w fun e w' => e = .returned (.bool (numB s.data.toList)) ∧ w = w' := by
  obtain ⟨n, hn⟩ : ∃ n, digN s.data.toList = n := ⟨_, rfl⟩
  have hns : n ≤ s.size := hn ▸ digN_le' s
  have HD := fun W => Lib.hid (digits_any s W (by unfold maxLen; omega))
  rw [hn] at HD
  have hnI : (n : Int) ≤ s.size := by omega
  have hl : s.data.toList.length = s.size := (Lib.size_eq s).symm
  by_cases h0 : n = 0
  · have HT : Hid (numB s.data.toList = false) := by show numB _ = _; rw [numB, hn, if_pos (.inl h0)]
    clear hn hns hl
    subst h0
    go_enter Try.func37, Try.ntmps37
    go_wp2_with (go_at_call 60; refine ((HD _).out).mono ?_; rintro e w' ⟨rfl, rfl⟩)
    go_ret
    exact ⟨ret_bool HT.out.symm, rfl⟩
  · have hnz : ((n : Int) == 0) = false := by rw [beq_eq_false_iff_ne]; omega
    have HE := fun W => Lib.hid (needless_any (s.extract 0 n) W (by have := extract_size_le s 0 n; unfold maxLen; omega))
    rw [extract_toL, List.drop_zero, Nat.sub_zero] at HE
    have hn0 : (0 : Int) ≤ n := by omega
    cases hne : needB (s.data.toList.take n) with
    | true =>
      rw [hne] at HE
      have HT : Hid (numB s.data.toList = false) := by show numB _ = _; rw [numB, hn, if_pos (.inr hne)]
      clear hn hns hl hne
      go_enter Try.func37, Try.ntmps37
      go_wp2_with (first | (go_at_call 60; refine ((HD _).out).mono ?_; rintro e w' ⟨rfl, rfl⟩) | (go_at_call 61; refine ((HE _).out).mono ?_; rintro e w' ⟨rfl, rfl⟩))
      go_ret
      exact ⟨ret_bool HT.out.symm, rfl⟩
    | false =>
      rw [hne] at HE
      by_cases hf : n = s.size
      · have HT : Hid (numB s.data.toList = decide (n ≤ 15)) := by show numB _ = _; rw [numB, hn, if_neg (by simp [h0, hne]), if_pos (by omega)]
        have hfI : ((n : Int) == s.size) = true := by rw [beq_iff_eq]; omega
        clear hn hns hl hne hf h0
        go_enter Try.func37, Try.ntmps37
        go_wp2_with (first | (go_at_call 60; refine ((HD _).out).mono ?_; rintro e w' ⟨rfl, rfl⟩) | (go_at_call 61; refine ((HE _).out).mono ?_; rintro e w' ⟨rfl, rfl⟩))
        go_ret
        exact ⟨ret_bool (by rw [HT.out]; simp; omega), rfl⟩
      · have hlt : n < s.size := by omega
        obtain ⟨m, hm⟩ : ∃ m, digN (s.data.toList.drop (n + 1)) = m := ⟨_, rfl⟩
        have hm' : digN (s.extract (n + 1) s.size).data.toList = m := by rw [extract_toL, List.take_of_length_le (by simp)]; exact hm
        have HM := fun W => Lib.hid (digits_any (s.extract (n + 1) s.size) W (by have := extract_size_le s (n + 1) s.size; unfold maxLen; omega))
        rw [hm'] at HM
        have hml : m ≤ s.size := by have := digN_le' (s.extract (n + 1) s.size); have := extract_size_le s (n + 1) s.size; omega
        have hfI : ((n : Int) == s.size) = false := by rw [beq_eq_false_iff_ne]; omega
        have HT : Hid (numB s.data.toList = (((s[n].toNat : Int) == 46) && decide (0 < m) && decide (n + 1 + m = s.size) && decide (n + m ≤ 15))) := by
          show numB _ = _
          rw [numB, hn, if_neg (by simp [h0, hne]), if_neg (by omega), hm, hl]
          have : s.data.toList[n]? = some s[n] := by rw [List.getElem?_eq_getElem (by omega)]; rfl
          rw [this]
          rfl
        have hltI : (n : Int) + 1 ≤ s.size := by omega
        have hltJ : (n : Int) < s.size := by omega
        have hw1 : IntKind.i64.wrap ((n : Int) + 1) = ((n + 1 : Nat) : Int) := by rw [IntKind.wrap_i64]; omega
        have hw2 : IntKind.i64.wrap (((n + 1 : Nat) : Int) + m) = ((n + 1 + m : Nat) : Int) := by rw [IntKind.wrap_i64]; omega
        have hw3 : IntKind.i64.wrap ((n : Int) + m) = ((n + m : Nat) : Int) := by rw [IntKind.wrap_i64]; omega
        have hk0 : (0 : Int) ≤ ((n + 1 : Nat) : Int) := by omega
        have hk1 : ((n + 1 : Nat) : Int) ≤ s.size := by omega
        clear hn hns hl hne hf hm hm'
        cases c1 : ((s[n].toNat : Int) == 46)
        all_goals
          go_enter Try.func37, Try.ntmps37
          go_wp2_with (first | (go_at_call 60; first | (with_reducible refine ((HM _).out).mono ?_; rintro e w' ⟨rfl, rfl⟩) | (with_reducible refine ((HD _).out).mono ?_; rintro e w' ⟨rfl, rfl⟩)) | (go_at_call 61; refine ((HE _).out).mono ?_; rintro e w' ⟨rfl, rfl⟩))
          all_goals
            go_ret
            refine ⟨ret_bool ?_, rfl⟩
            rw [HT.out, c1]
            clear HT HM HE HD hw1 hw2 hw3
            first
              | rfl
              | (simp; done)
              | (simp; intros; omega)
              | (rw [Bool.eq_iff_iff]; simp; omega)
end
section
/-! ## LexS -/
open Go.RowKit

def decN (l : List UInt8) : Nat := l.foldl (fun v c => 10 * v + (c.toNat - 48)) 0
def unitN (c : Nat) : Nat := if c = 115 then 1 else if c = 109 then 60 else if c = 104 then 3600 else if c = 100 then 86400 else 0
def spanU (v u : Nat) : Nat := if 2147483648 ≤ v * u then 0 else v * u
def unitAt : Option UInt8 → Nat
  | some c => unitN c.toNat
  | none => 0
def nought : Option UInt8 → Bool
  | some c => (c.toNat : Int) == 48
  | none => false
def spanN (l : List UInt8) : Nat :=
  if digN l = 0 ∨ 10 < digN l ∨ nought l.head? = true ∨ digN l + 1 ≠ l.length then 0 else spanU (decN (l.take (digN l))) (unitAt l[digN l]?)

theorem take_at {s : ByteArray} {k : Nat} (h : k < s.size) : s.data.toList.take (k + 1) = s.data.toList.take k ++ [s[k]] := by
  have h' : k < s.data.toList.length := by rw [← Lib.size_eq]; exact h
  rw [List.take_add_one, List.getElem?_eq_getElem h']
  rfl
theorem dec_step {s : ByteArray} {k : Nat} (h : k < s.size) : decN (s.data.toList.take (k + 1)) = 10 * decN (s.data.toList.take k) + (s[k].toNat - 48) := by
  rw [take_at h, decN, List.foldl_append]; rfl
theorem take_digs : ∀ (l : List UInt8), ∀ c ∈ l.take (digN l), dchar c = true
  | [], _, h => by simp at h
  | x :: r, c, h => by
    cases hx : dchar x with
    | true =>
      have : digN (x :: r) = digN r + 1 := by rw [digN, List.takeWhile_cons, if_pos hx, List.length_cons]; rfl
      rw [this, List.take_succ_cons] at h
      rcases List.mem_cons.1 h with rfl | h
      · exact hx
      · exact take_digs r c h
    | false =>
      have : digN (x :: r) = 0 := by rw [digN, List.takeWhile_cons, if_neg (by simp [hx])]; rfl
      rw [this] at h
      simp at h
theorem dig_at {s : ByteArray} {k n : Nat} (hn : digN s.data.toList = n) (h : k < n) (hs : k < s.size) : 48 ≤ (s[k].toNat : Int) ∧ (s[k].toNat : Int) ≤ 57 := by
  refine dchar_yes (take_digs s.data.toList _ ?_)
  rw [hn, List.mem_iff_getElem?]
  exact ⟨k, by rw [List.getElem?_take, if_pos h, List.getElem?_eq_getElem (by rw [← Lib.size_eq]; exact hs)]; rfl⟩

set_option maxHeartbeats 2000000 in
theorem span_any (s : ByteArray) (w : World) (hs : s.size ≤ 4096) : Calls Try.prog 36 #[.string s] w fun e w' => e = .returned (.int .i64 (spanN s.data.toList)) ∧ w = w' := by
  obtain ⟨n, hn⟩ : ∃ n, digN s.data.toList = n := ⟨_, rfl⟩
  have hns : n ≤ s.size := hn ▸ digN_le' s
  have HD := fun W => Lib.hid (digits_any s W (by unfold maxLen; omega))
  rw [hn] at HD
  have hl : s.data.toList.length = s.size := (Lib.size_eq s).symm
  have hn00 : (0 : Int) ≤ n := by omega
  by_cases h0 : n = 0
  · have HT : Hid (spanN s.data.toList = 0) := by show spanN _ = _; rw [spanN, hn, if_pos (.inl h0)]
    clear hn hns hl hn00
    subst h0
    go_enter Try.func36, Try.ntmps36
    go_wp2_with (go_at_call 60; refine ((HD _).out).mono ?_; rintro e w' ⟨rfl, rfl⟩)
    go_ret
    exact ⟨ret_int (by rw [HT.out]; rfl), rfl⟩
  have hnz : ((n : Int) == 0) = false := by rw [beq_eq_false_iff_ne]; omega
  by_cases h1 : 10 < n
  · have HT : Hid (spanN s.data.toList = 0) := by show spanN _ = _; rw [spanN, hn, if_pos (.inr (.inl h1))]
    have hI : (10 : Int) < n := by omega
    clear hn hns hl
    go_enter Try.func36, Try.ntmps36
    go_wp2_with (go_at_call 60; refine ((HD _).out).mono ?_; rintro e w' ⟨rfl, rfl⟩)
    go_ret
    exact ⟨ret_int (by rw [HT.out]; rfl), rfl⟩
  have hI : (n : Int) ≤ 10 := by omega
  have hz : 0 < s.size := by omega
  have hzI : (0 : Int) < s.size := by omega
  cases c0 : ((s[0].toNat : Int) == 48) with
  | true =>
    have HT : Hid (spanN s.data.toList = 0) := by show spanN _ = _; rw [spanN, hn, if_pos (.inr (.inr (.inl (by rw [head_at hz]; exact c0))))]
    clear hn hns hl
    go_enter Try.func36, Try.ntmps36
    go_wp2_with (go_at_call 60; refine ((HD _).out).mono ?_; rintro e w' ⟨rfl, rfl⟩)
    go_ret
    exact ⟨ret_int (by rw [HT.out]; rfl), rfl⟩
  | false =>
  by_cases h2 : n + 1 = s.size
  · have hlt : n < s.size := by omega
    have HT : Hid (spanN s.data.toList = spanU (decN (s.data.toList.take n)) (unitN s[n].toNat)) := by
      show spanN _ = _
      have h3 : n < s.data.toList.length := by omega
      rw [spanN, hn, if_neg (by rw [head_at hz]; simp [nought, c0]; omega), List.getElem?_eq_getElem h3]
      rfl
    have hw1 : IntKind.i64.wrap ((n : Int) + 1) = ((n + 1 : Nat) : Int) := by rw [IntKind.wrap_i64]; omega
    have hf : ((n : Int) + 1 != s.size) = false := by rw [bne_eq_false_iff_eq]; omega
    have HN := Lib.hid hn
    have hltI : (n : Int) < s.size := by omega
    clear hn hl
    go_enter Try.func36, Try.ntmps36
    go_wp2_with (go_at_call 60; refine ((HD _).out).mono ?_; rintro e w' ⟨rfl, rfl⟩)
    go_loop [4, 5] (fun v i => ∃ (k V : Nat), k ≤ n ∧ i = .int .i64 k ∧ v = .int .i64 V ∧ Hid (decN (s.data.toList.take k) = V) ∧ V < 10 ^ k) (fun _ i => n - (intOf i).toNat)
    case atStart => exact ⟨0, 0, by omega, rfl, rfl, by show _ = _; rfl, by simp⟩
    case round =>
      obtain ⟨k, V, hk, rfl, rfl, HV, hV⟩ := hrel
      by_cases hkn : k < n
      · have hks : k < s.size := by omega
        have hkI : (k : Int) < n := by omega
        have hksI : (k : Int) < s.size := by omega
        have hk0 : (0 : Int) ≤ k := by omega
        obtain ⟨d1, d2⟩ := dig_at HN.out hkn hks
        have hp : 10 ^ k ≤ 10 ^ 9 := Nat.pow_le_pow_right (by omega) (by omega)
        have hp2 : 10 ^ (k + 1) = 10 * 10 ^ k := by rw [Nat.pow_succ, Nat.mul_comm]
        have hV1 : (V : Int) ≤ 999999999 := by omega
        have hV0 : (0 : Int) ≤ V := by omega
        have HV2 := Lib.hid ((dec_step hks).trans (by rw [HV.out]))
        have HB : Hid (10 * V + (s[k].toNat - 48) < 10 ^ (k + 1)) := by show _ < _; omega
        clear HV hV hp hp2
        go_wp2
        go_round
        case rel => exact ⟨k + 1, 10 * V + (s[k].toNat - 48), by omega, by go_num, by congr 1; omega, HV2, HB.out⟩
        case measure => simp [intOf]; omega
      · have hke : k = n := by omega
        subst hke
        have hp : 10 ^ k ≤ 10 ^ 10 := Nat.pow_le_pow_right (by omega) (by omega)
        have hV1 : (V : Int) ≤ 9999999999 := by omega
        have hV0 : (0 : Int) ≤ V := by omega
        have hnk : ¬ (k : Int) < k := by omega
        rw [HV.out] at HT
        have hu := u8_le s[k]
        have hu0 : (0 : Int) ≤ s[k].toNat := by omega
        have huI : (s[k].toNat : Int) ≤ 255 := by omega
        clear HV hV hp hn00 h1 h2 h0
        by_cases u115 : s[k].toNat = 115
        · have e115 : ((s[k].toNat : Int) == 115) = true := by rw [u115]; rfl
          have HT2 := Lib.hid (HT.out.trans (by rw [u115]; rfl : _ = spanU V 1))
          clear HT u115
          by_cases hb : (2147483648 : Int) ≤ (V : Int)
          · have HT3 : Hid (spanN s.data.toList = 0) := HT2.out.trans (by rw [spanU, if_pos (by omega)])
            go_wp2
            go_ret
            exact ⟨ret_int (by rw [HT3.out]; rfl), rfl⟩
          · have HT3 : Hid (spanN s.data.toList = V * 1) := HT2.out.trans (by rw [spanU, if_neg (by omega)])
            go_wp2
            go_ret
            exact ⟨ret_int (by rw [HT3.out]; simp), rfl⟩
        have f115 : ((s[k].toNat : Int) == 115) = false := by rw [beq_eq_false_iff_ne]; omega
        by_cases u109 : s[k].toNat = 109
        · have e109 : ((s[k].toNat : Int) == 109) = true := by rw [u109]; rfl
          have HT2 := Lib.hid (HT.out.trans (by rw [u109]; rfl : _ = spanU V 60))
          clear HT u109
          by_cases hb : (2147483648 : Int) ≤ (V : Int) * 60
          · have HT3 : Hid (spanN s.data.toList = 0) := HT2.out.trans (by rw [spanU, if_pos (by omega)])
            go_wp2
            go_ret
            exact ⟨ret_int (by rw [HT3.out]; rfl), rfl⟩
          · have HT3 : Hid (spanN s.data.toList = V * 60) := HT2.out.trans (by rw [spanU, if_neg (by omega)])
            go_wp2
            go_ret
            exact ⟨ret_int (by rw [HT3.out]; simp), rfl⟩
        have f109 : ((s[k].toNat : Int) == 109) = false := by rw [beq_eq_false_iff_ne]; omega
        by_cases u104 : s[k].toNat = 104
        · have e104 : ((s[k].toNat : Int) == 104) = true := by rw [u104]; rfl
          have HT2 := Lib.hid (HT.out.trans (by rw [u104]; rfl : _ = spanU V 3600))
          clear HT u104
          by_cases hb : (2147483648 : Int) ≤ (V : Int) * 3600
          · have HT3 : Hid (spanN s.data.toList = 0) := HT2.out.trans (by rw [spanU, if_pos (by omega)])
            go_wp2
            go_ret
            exact ⟨ret_int (by rw [HT3.out]; rfl), rfl⟩
          · have HT3 : Hid (spanN s.data.toList = V * 3600) := HT2.out.trans (by rw [spanU, if_neg (by omega)])
            go_wp2
            go_ret
            exact ⟨ret_int (by rw [HT3.out]; simp), rfl⟩
        have f104 : ((s[k].toNat : Int) == 104) = false := by rw [beq_eq_false_iff_ne]; omega
        by_cases u100 : s[k].toNat = 100
        · have e100 : ((s[k].toNat : Int) == 100) = true := by rw [u100]; rfl
          have HT2 := Lib.hid (HT.out.trans (by rw [u100]; rfl : _ = spanU V 86400))
          clear HT u100
          by_cases hb : (2147483648 : Int) ≤ (V : Int) * 86400
          · have HT3 : Hid (spanN s.data.toList = 0) := HT2.out.trans (by rw [spanU, if_pos (by omega)])
            go_wp2
            go_ret
            exact ⟨ret_int (by rw [HT3.out]; rfl), rfl⟩
          · have HT3 : Hid (spanN s.data.toList = V * 86400) := HT2.out.trans (by rw [spanU, if_neg (by omega)])
            go_wp2
            go_ret
            exact ⟨ret_int (by rw [HT3.out]; simp), rfl⟩
        have f100 : ((s[k].toNat : Int) == 100) = false := by rw [beq_eq_false_iff_ne]; omega
        have HT3 : Hid (spanN s.data.toList = 0) := HT.out.trans (by rw [unitN, if_neg u115, if_neg u109, if_neg u104, if_neg u100]; rfl)
        clear HT u115 u109 u104 u100
        go_wp2
        go_ret
        exact ⟨ret_int (by rw [HT3.out]; rfl), rfl⟩
  · have HT : Hid (spanN s.data.toList = 0) := by show spanN _ = _; rw [spanN, hn, if_pos (.inr (.inr (.inr (by rw [hl]; exact h2))))]
    have hw1 : IntKind.i64.wrap ((n : Int) + 1) = ((n + 1 : Nat) : Int) := by rw [IntKind.wrap_i64]; omega
    have hf : ((n : Int) + 1 != s.size) = true := by rw [bne_iff_ne]; omega
    clear hn hl
    go_enter Try.func36, Try.ntmps36
    go_wp2_with (go_at_call 60; refine ((HD _).out).mono ?_; rintro e w' ⟨rfl, rfl⟩)
    go_ret
    exact ⟨ret_int (by rw [HT.out]; rfl), rfl⟩
end
section
/-! ## LexG -/
open Go.RowKit

def sign1 (c : UInt8) : Bool := decide (0 ≤ Lib.indexByte [60, 62, 61, 43, 45, 42, 47, 40, 41, 123, 125, 91, 93, 44] c)
def sign2 (x : List UInt8) : Bool := (x == [61, 61]) || (x == [33, 61]) || (x == [60, 61]) || (x == [62, 61]) || (x == [61, 126]) || (x == [33, 126])
def signN (l : List UInt8) : Nat := if decide (1 < l.length) && sign2 (l.take 2) then 2 else if l.head?.any sign1 then 1 else 0
def signS (s : ByteArray) : ByteArray := ⟨(s.data.toList.take (signN s.data.toList)).toArray⟩
theorem extract_upto' (s : ByteArray) (k : Nat) : s.extract 0 k = ⟨(s.data.toList.take k).toArray⟩ := by
  apply ByteArray.ext; apply Array.toList_inj.1; rw [extract_toL]; rfl
theorem toList_data' (s : ByteArray) : s.toList = s.data.toList := ByteArray.toList_eq s
theorem ret_string {a b : ByteArray} (h : a = b) : Ending.returned (.string a) = .returned (.string b) := by rw [h]
theorem signS_2 {s : ByteArray} (h1 : 1 < s.size) (h : sign2 (s.extract 0 2).toList = true) : signS s = s.extract 0 2 := by
  rw [signS, signN, if_pos, extract_upto']
  rw [toList_data', extract_toL] at h
  rw [← Lib.size_eq, decide_eq_true h1, Bool.true_and]
  exact h
theorem signN_1 {s : ByteArray} (h0 : 0 < s.size) (h : ¬ 1 < s.size ∨ sign2 (s.extract 0 2).toList = false) : signN s.data.toList = if sign1 s[0] = true then 1 else 0 := by
  rw [signN, if_neg, head_at h0, Option.any_some]
  rw [← Lib.size_eq]
  rcases h with h | h
  · simp [h]
  · rw [toList_data', extract_toL] at h
    have : sign2 (s.data.toList.take 2) = false := h
    simp [this]
theorem u8_back (c : UInt8) : ((c.toNat : Int)).toNat.toUInt8 = c := by simp
set_option maxRecDepth 100000 in
set_option maxHeartbeats 1000000 in
theorem index1_any (s : ByteArray) (c : UInt8) (w : World) : Calls Try.prog 75 #[.string s, .int .u8 (c.toNat : Int)] w fun e w' => e = .returned (.int .i64 (Lib.indexByte s.data.toList c)) ∧ w = w' := by
  go_enter Try.func75, Try.ntmps75
  go_wp2
  rw [run_callFunc_extern Try.func82 (by kernel_rfl) (by kernel_rfl) (by kernel_rfl) (e := Extern.BytealgIndexByte.indexByte) (by kernel_rfl), Lib.run_indexByteString]
  simp only [Result.andThen]
  rw [Oper.upon_value, u8_back]
  go_wp2
  go_ret
  exact ⟨rfl, rfl⟩
set_option maxRecDepth 100000 in
set_option maxHeartbeats 1000000 in
theorem index2_any (s : ByteArray) (c : UInt8) (w : World) : Calls Try.prog 59 #[.string s, .int .u8 (c.toNat : Int)] w fun e w' => e = .returned (.int .i64 (Lib.indexByte s.data.toList c)) ∧ w = w' := by
  have H := fun W => Lib.hid (index1_any s c W)
  go_enter Try.func59, Try.ntmps59
  go_wp2_with (go_at_call 75; refine ((H _).out).mono ?_; rintro e w' ⟨rfl, rfl⟩)
  go_ret
  exact ⟨rfl, rfl⟩
set_option maxRecDepth 100000 in
set_option maxHeartbeats 2000000 in
theorem sign_any (s : ByteArray) (w : World) (h0 : 0 < s.size) : Calls Try.prog 35 #[.string s] w fun e w' => e = .returned (.string (signS s)) ∧ w = w' := by
  have h0I : (0 : Int) < s.size := by omega
  have h1J : (1 : Int) ≤ s.size := by omega
  have HX := fun W => Lib.hid (index2_any ⟨#[60, 62, 61, 43, 45, 42, 47, 40, 41, 123, 125, 91, 93, 44]⟩ s[0] W)
  have HS : Hid (sign1 s[0] = decide ((0 : Int) ≤ Lib.indexByte [60, 62, 61, 43, 45, 42, 47, 40, 41, 123, 125, 91, 93, 44] s[0])) := rfl
  by_cases h1 : 1 < s.size
  · have h1I : (1 : Int) < s.size := by omega
    have h2I : (2 : Int) ≤ s.size := by omega
    cases e0 : ((s.extract 0 2).toList == [61, 61]) with
    | true =>
      have HT : Hid (signS s = s.extract 0 2) := signS_2 h1 (by simp [sign2, e0])
      clear HX HS
      go_enter Try.func35, Try.ntmps35
      go_wp2_with fail
      go_ret
      exact ⟨ret_string HT.out.symm, rfl⟩
    | false =>
    cases e1 : ((s.extract 0 2).toList == [33, 61]) with
    | true =>
      have HT : Hid (signS s = s.extract 0 2) := signS_2 h1 (by simp [sign2, e1])
      clear HX HS
      go_enter Try.func35, Try.ntmps35
      go_wp2_with fail
      go_ret
      exact ⟨ret_string HT.out.symm, rfl⟩
    | false =>
    cases e2 : ((s.extract 0 2).toList == [60, 61]) with
    | true =>
      have HT : Hid (signS s = s.extract 0 2) := signS_2 h1 (by simp [sign2, e2])
      clear HX HS
      go_enter Try.func35, Try.ntmps35
      go_wp2_with fail
      go_ret
      exact ⟨ret_string HT.out.symm, rfl⟩
    | false =>
    cases e3 : ((s.extract 0 2).toList == [62, 61]) with
    | true =>
      have HT : Hid (signS s = s.extract 0 2) := signS_2 h1 (by simp [sign2, e3])
      clear HX HS
      go_enter Try.func35, Try.ntmps35
      go_wp2_with fail
      go_ret
      exact ⟨ret_string HT.out.symm, rfl⟩
    | false =>
    cases e4 : ((s.extract 0 2).toList == [61, 126]) with
    | true =>
      have HT : Hid (signS s = s.extract 0 2) := signS_2 h1 (by simp [sign2, e4])
      clear HX HS
      go_enter Try.func35, Try.ntmps35
      go_wp2_with fail
      go_ret
      exact ⟨ret_string HT.out.symm, rfl⟩
    | false =>
    cases e5 : ((s.extract 0 2).toList == [33, 126]) with
    | true =>
      have HT : Hid (signS s = s.extract 0 2) := signS_2 h1 (by simp [sign2, e5])
      clear HX HS
      go_enter Try.func35, Try.ntmps35
      go_wp2_with fail
      go_ret
      exact ⟨ret_string HT.out.symm, rfl⟩
    | false =>
    have HN : Hid (signN s.data.toList = if sign1 s[0] = true then 1 else 0) := signN_1 h0 (.inr (by simp only [sign2, e0, e1, e2, e3, e4, e5]; rfl))
    rw [HS.out] at HN
    by_cases hx : (0 : Int) ≤ Lib.indexByte [60, 62, 61, 43, 45, 42, 47, 40, 41, 123, 125, 91, 93, 44] s[0]
    · have HT : Hid (signS s = s.extract 0 1) := by show signS s = _; rw [signS, HN.out, if_pos (decide_eq_true hx), extract_upto']
      clear HS HN
      go_enter Try.func35, Try.ntmps35
      go_wp2_with (go_at_call 59; refine ((HX _).out).mono ?_; rintro e w' ⟨rfl, rfl⟩)
      go_ret
      exact ⟨ret_string HT.out.symm, rfl⟩
    · have HT : Hid (signS s = ⟨#[]⟩) := by show signS s = _; rw [signS, HN.out, if_neg (by simpa using hx)]; rfl
      clear HS HN
      go_enter Try.func35, Try.ntmps35
      go_wp2_with (go_at_call 59; refine ((HX _).out).mono ?_; rintro e w' ⟨rfl, rfl⟩)
      go_ret
      exact ⟨ret_string HT.out.symm, rfl⟩
  · have h1I : ¬ (1 : Int) < s.size := by omega
    have HN : Hid (signN s.data.toList = if sign1 s[0] = true then 1 else 0) := signN_1 h0 (.inl h1)
    rw [HS.out] at HN
    by_cases hx : (0 : Int) ≤ Lib.indexByte [60, 62, 61, 43, 45, 42, 47, 40, 41, 123, 125, 91, 93, 44] s[0]
    · have HT : Hid (signS s = s.extract 0 1) := by show signS s = _; rw [signS, HN.out, if_pos (decide_eq_true hx), extract_upto']
      clear HS HN
      go_enter Try.func35, Try.ntmps35
      go_wp2_with (go_at_call 59; refine ((HX _).out).mono ?_; rintro e w' ⟨rfl, rfl⟩)
      go_ret
      exact ⟨ret_string HT.out.symm, rfl⟩
    · have HT : Hid (signS s = ⟨#[]⟩) := by show signS s = _; rw [signS, HN.out, if_neg (by simpa using hx)]; rfl
      clear HS HN
      go_enter Try.func35, Try.ntmps35
      go_wp2_with (go_at_call 59; refine ((HX _).out).mono ?_; rintro e w' ⟨rfl, rfl⟩)
      go_ret
      exact ⟨ret_string HT.out.symm, rfl⟩
end
section
/-! ## LexSpec -/
open Go.RowKit

structure Tok where
  kind : Int
  at_ : Nat
  text : ByteArray
  span : Nat
def tokC (t : Tok) : List Value := [.int .i64 t.kind, .int .i64 t.at_, .string t.text, .int .i64 t.span]
def toksC (ts : List Tok) : List (List Value) := ts.map tokC
theorem toksC_len (ts : List Tok) : (toksC ts).length = ts.length := by simp [toksC]
theorem toksC_sz (ts : List Tok) : ∀ x ∈ toksC ts, x.length = 4 := by
  intro x hx
  obtain ⟨t, _, rfl⟩ := List.mem_map.1 hx
  rfl

inductive LexR where
  | ok (ts : List Tok)
  | err (p : Nat) (e : Int)
def LexR.pre (ds : List Tok) : LexR → LexR
  | .ok ts => .ok (ds ++ ts)
  | .err p e => .err p e

def blankB (c : UInt8) : Bool := c.toNat == 32 || c.toNat == 9 || c.toNat == 13 || c.toNat == 10
def numC (c : UInt8) : Bool := dchar c || (letB c && !(c.toNat == 58)) || c.toNat == 46
def wordC (c : UInt8) : Bool := letB c || dchar c
def runN (p : UInt8 → Bool) (l : List UInt8) : Nat := (l.takeWhile p).length
/-- What a text in quotes says, and how many bytes it has from here to behind its end; the flag: behind a backslash. -/
def textS : Bool → List UInt8 → Option (List UInt8 × Nat)
  | _, [] => none
  | false, c :: r => if c.toNat < 32 then none else if c.toNat = 34 then some ([], 1) else if c.toNat = 92 then (textS true r).map fun x => (x.1, x.2 + 1) else (textS false r).map fun x => (c :: x.1, x.2 + 1)
  | true, c :: r => if c.toNat = 34 ∨ c.toNat = 92 then (textS false r).map fun x => (c :: x.1, x.2 + 1) else if c.toNat = 110 then (textS false r).map fun x => (10 :: x.1, x.2 + 1) else none

def mkB (l : List UInt8) : ByteArray := ⟨l.toArray⟩
/-- The next step at a place where a text goes on: what it adds, and how many bytes it takes. -/
inductive OneR where
  | ok (ts : List Tok) (n : Nat)
  | err (p : Nat) (e : Int)
def numTok (at_ : Nat) (x : List UInt8) : OneR :=
  if 0 < spanN x then .ok [⟨2, at_, mkB x, spanN x⟩] x.length else if numB x then .ok [⟨1, at_, mkB x, 0⟩] x.length else .err at_ 172
def textTok (at_ : Nat) (k : Nat) (acc : List UInt8) : Option (List UInt8 × Nat) → OneR
  | some (x, n) => .ok [⟨4, at_, mkB (acc ++ x), 0⟩] (k + n)
  | none => .err at_ 173
def oneL (at_ : Nat) : List UInt8 → OneR
  | [] => .err at_ 0
  | c :: r =>
    if blankB c then .ok [] 1
    else if dchar c then numTok at_ ((c :: r).takeWhile numC)
    else if letB c then .ok [⟨3, at_, mkB ((c :: r).takeWhile wordC), 0⟩] (runN wordC (c :: r))
    else if c.toNat = 34 then textTok at_ 1 [] (textS false r)
    else if 0 < signN (c :: r) then .ok [⟨5, at_, mkB ((c :: r).take (signN (c :: r))), 0⟩] (signN (c :: r))
    else .err at_ 171
def lexF : Nat → Nat → List UInt8 → LexR
  | _, at_, [] => .ok [⟨0, at_, mkB [], 0⟩]
  | 0, at_, _ :: _ => .err at_ 0
  | f + 1, at_, c :: r => match oneL at_ (c :: r) with
    | .ok ts n => (lexF f (at_ + n) ((c :: r).drop n)).pre ts
    | .err p e => .err p e
def lexL (at_ : Nat) (l : List UInt8) : LexR := lexF l.length at_ l
def lexR (s : ByteArray) : LexR := if 4096 < s.size then .err 0 170 else lexL 0 s.data.toList

theorem dchar_numC {c : UInt8} (h : dchar c = true) : numC c = true := by simp [numC, h]
theorem letB_wordC {c : UInt8} (h : letB c = true) : wordC c = true := by simp [wordC, h]
theorem signN_le (l : List UInt8) : signN l ≤ l.length := by
  rw [signN]
  split
  · rename_i h
    simp at h
    omega
  · split
    · rename_i h
      cases l with
      | nil => simp at h
      | cons => simp
    · omega
theorem textS_le : ∀ (l : List UInt8) (b : Bool) (x : List UInt8) (n : Nat), textS b l = some (x, n) → 1 ≤ n ∧ n ≤ l.length
  | [], b, x, n, h => by cases b <;> simp [textS] at h
  | c :: r, false, x, n, h => by
    rw [textS] at h
    split at h
    · cases h
    · split at h
      · injection h with h; injection h with h1 h2; subst h2; simp
      · split at h
        all_goals
          simp only [Option.map_eq_some_iff] at h
          obtain ⟨⟨y, m⟩, hy, he⟩ := h
          injection he with h1 h2
          have := textS_le r _ y m hy
          simp at h2 ⊢; omega
  | c :: r, true, x, n, h => by
    rw [textS] at h
    split at h
    · simp only [Option.map_eq_some_iff] at h
      obtain ⟨⟨y, m⟩, hy, he⟩ := h
      injection he with h1 h2
      have := textS_le r _ y m hy
      simp at h2 ⊢; omega
    · split at h
      · simp only [Option.map_eq_some_iff] at h
        obtain ⟨⟨y, m⟩, hy, he⟩ := h
        injection he with h1 h2
        have := textS_le r _ y m hy
        simp at h2 ⊢; omega
      · cases h
theorem oneL_n {at_ : Nat} {l : List UInt8} {ts : List Tok} {n : Nat} (h : oneL at_ l = .ok ts n) : 1 ≤ n ∧ n ≤ l.length := by
  cases l with
  | nil => simp [oneL] at h
  | cons c r =>
    rw [oneL] at h
    by_cases h1 : blankB c = true
    · rw [if_pos h1] at h; injection h with _ h; subst h; simp
    rw [if_neg h1] at h
    by_cases h2 : dchar c = true
    · rw [if_pos h2, numTok] at h
      have hx : 1 ≤ ((c :: r).takeWhile numC).length := by rw [List.takeWhile_cons, if_pos (dchar_numC h2)]; simp
      have hy := (List.takeWhile_sublist numC (l := c :: r)).length_le
      split at h
      · injection h with _ h; omega
      · split at h
        · injection h with _ h; omega
        · cases h
    rw [if_neg h2] at h
    by_cases h3 : letB c = true
    · rw [if_pos h3] at h
      have hx : 1 ≤ runN wordC (c :: r) := by rw [runN, List.takeWhile_cons, if_pos (letB_wordC h3)]; simp
      have hy : runN wordC (c :: r) ≤ _ := (List.takeWhile_sublist wordC (l := c :: r)).length_le
      injection h with _ h; omega
    rw [if_neg h3] at h
    by_cases h4 : c.toNat = 34
    · rw [if_pos h4] at h
      cases ht : textS false r with
      | none => rw [ht, textTok] at h; cases h
      | some x =>
        obtain ⟨x, m⟩ := x
        rw [ht, textTok] at h
        have := textS_le r _ x m ht
        injection h with _ h; simp; omega
    rw [if_neg h4] at h
    by_cases h5 : 0 < signN (c :: r)
    · rw [if_pos h5] at h
      have := signN_le (c :: r)
      injection h with _ h; omega
    · rw [if_neg h5] at h; cases h
theorem lexF_more : ∀ (f : Nat) (at_ : Nat) (l : List UInt8), l.length ≤ f → lexF f at_ l = lexL at_ l := by
  intro f
  induction f using Nat.strongRecOn with
  | _ f ih =>
    intro at_ l hl
    cases l with
    | nil => cases f <;> rfl
    | cons c r =>
      cases f with
      | zero => simp at hl
      | succ f =>
        simp only [List.length_cons] at hl
        show (match oneL at_ (c :: r) with | .ok ts n => (lexF f (at_ + n) ((c :: r).drop n)).pre ts | .err p e => LexR.err p e) = lexF (r.length + 1) at_ (c :: r)
        rw [lexF]
        cases h : oneL at_ (c :: r) with
        | err p e => rfl
        | ok ts n =>
          have hn := oneL_n h
          have hd : ((c :: r).drop n).length ≤ r.length := by rw [List.length_drop, List.length_cons]; omega
          show (lexF f (at_ + n) ((c :: r).drop n)).pre ts = (lexF r.length (at_ + n) ((c :: r).drop n)).pre ts
          rw [ih f (by omega) (at_ + n) _ (by omega)]
          by_cases hf : r.length = f
          · rw [hf, ih f (by omega) (at_ + n) _ (by omega)]
          · rw [ih r.length (by omega) (at_ + n) _ hd]
theorem lexL_nil (at_ : Nat) : lexL at_ [] = .ok [⟨0, at_, mkB [], 0⟩] := rfl
theorem lexL_cons (at_ : Nat) (c : UInt8) (r : List UInt8) : lexL at_ (c :: r) = match oneL at_ (c :: r) with
    | .ok ts n => (lexL (at_ + n) ((c :: r).drop n)).pre ts
    | .err p e => .err p e := by
  show lexF (r.length + 1) at_ (c :: r) = _
  rw [lexF]
  cases h : oneL at_ (c :: r) with
  | err p e => rfl
  | ok ts n =>
    have hn := oneL_n h
    show (lexF r.length _ _).pre ts = (lexL _ _).pre ts
    rw [lexF_more r.length _ _ (by rw [List.length_drop, List.length_cons]; omega)]
theorem pre_nil (r : LexR) : r.pre [] = r := by cases r <;> rfl
theorem pre_pre (a b : List Tok) (r : LexR) : (r.pre b).pre a = r.pre (a ++ b) := by cases r <;> simp [LexR.pre]
end
end Go.Proofs.Ytdikmklijpcjdaa
