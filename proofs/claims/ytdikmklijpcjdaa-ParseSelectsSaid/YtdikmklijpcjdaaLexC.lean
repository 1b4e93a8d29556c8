/- Single bytes of a query; digits ahead. -/
import Derived.Test.YtdikmklijpcjdaaProg
import Derived.Test.YtdikmklijpcjdaaDrop
import Derived.Test.YtdikmklijpcjdaaNameB
import Derived.Lib.Bytealg
namespace Go.Proofs.Ytdikmklijpcjdaa
open Go.RowKit

def letB (c : UInt8) : Bool := (97 ≤ c.toNat && c.toNat ≤ 122) || (65 ≤ c.toNat && c.toNat ≤ 90) || c.toNat == 95 || c.toNat == 58
def digN (l : List UInt8) : Nat := (l.takeWhile dchar).length

theorem lclass (c : Nat) (hc : c ≤ 255) : (0 ≤ c ∧ c ≤ 47) ∨ (48 ≤ c ∧ c ≤ 57) ∨ (58 ≤ c ∧ c ≤ 58) ∨ (59 ≤ c ∧ c ≤ 64) ∨ (65 ≤ c ∧ c ≤ 90) ∨ (91 ≤ c ∧ c ≤ 94) ∨ (95 ≤ c ∧ c ≤ 95) ∨ (96 ≤ c ∧ c ≤ 96) ∨ (97 ≤ c ∧ c ≤ 122) ∨ (123 ≤ c ∧ c ≤ 255) := by omega
set_option maxHeartbeats 1000000 in
theorem digit_any (c : UInt8) (w : World) : Calls Try.prog 33 #[.int .u8 (c.toNat : Int)] w fun e w' => e = .returned (.bool (dchar c)) ∧ w = w' := by
  have hu := u8_le c
  have h0 : (0 : Int) ≤ c.toNat := by omega
  have h255 : (c.toNat : Int) ≤ 255 := by omega
  rcases lclass c.toNat hu with h | h | h | h | h | h | h | h | h | h
  · have h1 : (0 : Int) ≤ c.toNat := by omega
    have h2 : (c.toNat : Int) ≤ 47 := by omega
    have HT : Hid (dchar c = false) := by show dchar c = _; simp [dchar]; omega
    clear h hu
    go_enter Try.func33, Try.ntmps33
    go_wp2
    go_ret
    exact ⟨ret_bool (by first | exact HT.out.symm | (rw [HT.out]; simp; omega)), rfl⟩
  · have h1 : (48 : Int) ≤ c.toNat := by omega
    have h2 : (c.toNat : Int) ≤ 57 := by omega
    have HT : Hid (dchar c = true) := by show dchar c = _; simp [dchar]; omega
    clear h hu
    go_enter Try.func33, Try.ntmps33
    go_wp2
    go_ret
    exact ⟨ret_bool (by first | exact HT.out.symm | (rw [HT.out]; simp; omega)), rfl⟩
  · have h1 : (58 : Int) ≤ c.toNat := by omega
    have h2 : (c.toNat : Int) ≤ 58 := by omega
    have HT : Hid (dchar c = false) := by show dchar c = _; simp [dchar]; omega
    clear h hu
    go_enter Try.func33, Try.ntmps33
    go_wp2
    go_ret
    exact ⟨ret_bool (by first | exact HT.out.symm | (rw [HT.out]; simp; omega)), rfl⟩
  · have h1 : (59 : Int) ≤ c.toNat := by omega
    have h2 : (c.toNat : Int) ≤ 64 := by omega
    have HT : Hid (dchar c = false) := by show dchar c = _; simp [dchar]; omega
    clear h hu
    go_enter Try.func33, Try.ntmps33
    go_wp2
    go_ret
    exact ⟨ret_bool (by first | exact HT.out.symm | (rw [HT.out]; simp; omega)), rfl⟩
  · have h1 : (65 : Int) ≤ c.toNat := by omega
    have h2 : (c.toNat : Int) ≤ 90 := by omega
    have HT : Hid (dchar c = false) := by show dchar c = _; simp [dchar]; omega
    clear h hu
    go_enter Try.func33, Try.ntmps33
    go_wp2
    go_ret
    exact ⟨ret_bool (by first | exact HT.out.symm | (rw [HT.out]; simp; omega)), rfl⟩
  · have h1 : (91 : Int) ≤ c.toNat := by omega
    have h2 : (c.toNat : Int) ≤ 94 := by omega
    have HT : Hid (dchar c = false) := by show dchar c = _; simp [dchar]; omega
    clear h hu
    go_enter Try.func33, Try.ntmps33
    go_wp2
    go_ret
    exact ⟨ret_bool (by first | exact HT.out.symm | (rw [HT.out]; simp; omega)), rfl⟩
  · have h1 : (95 : Int) ≤ c.toNat := by omega
    have h2 : (c.toNat : Int) ≤ 95 := by omega
    have HT : Hid (dchar c = false) := by show dchar c = _; simp [dchar]; omega
    clear h hu
    go_enter Try.func33, Try.ntmps33
    go_wp2
    go_ret
    exact ⟨ret_bool (by first | exact HT.out.symm | (rw [HT.out]; simp; omega)), rfl⟩
  · have h1 : (96 : Int) ≤ c.toNat := by omega
    have h2 : (c.toNat : Int) ≤ 96 := by omega
    have HT : Hid (dchar c = false) := by show dchar c = _; simp [dchar]; omega
    clear h hu
    go_enter Try.func33, Try.ntmps33
    go_wp2
    go_ret
    exact ⟨ret_bool (by first | exact HT.out.symm | (rw [HT.out]; simp; omega)), rfl⟩
  · have h1 : (97 : Int) ≤ c.toNat := by omega
    have h2 : (c.toNat : Int) ≤ 122 := by omega
    have HT : Hid (dchar c = false) := by show dchar c = _; simp [dchar]; omega
    clear h hu
    go_enter Try.func33, Try.ntmps33
    go_wp2
    go_ret
    exact ⟨ret_bool (by first | exact HT.out.symm | (rw [HT.out]; simp; omega)), rfl⟩
  · have h1 : (123 : Int) ≤ c.toNat := by omega
    have h2 : (c.toNat : Int) ≤ 255 := by omega
    have HT : Hid (dchar c = false) := by show dchar c = _; simp [dchar]; omega
    clear h hu
    go_enter Try.func33, Try.ntmps33
    go_wp2
    go_ret
    exact ⟨ret_bool (by first | exact HT.out.symm | (rw [HT.out]; simp; omega)), rfl⟩
set_option maxHeartbeats 1000000 in
theorem letter_any (c : UInt8) (w : World) : Calls Try.prog 34 #[.int .u8 (c.toNat : Int)] w fun e w' => e = .returned (.bool (letB c)) ∧ w = w' := by
  have hu := u8_le c
  have h0 : (0 : Int) ≤ c.toNat := by omega
  have h255 : (c.toNat : Int) ≤ 255 := by omega
  rcases lclass c.toNat hu with h | h | h | h | h | h | h | h | h | h
  · have h1 : (0 : Int) ≤ c.toNat := by omega
    have h2 : (c.toNat : Int) ≤ 47 := by omega
    have HT : Hid (letB c = false) := by show letB c = _; simp [letB]; omega
    clear h hu
    go_enter Try.func34, Try.ntmps34
    go_wp2
    go_ret
    exact ⟨ret_bool (by first | exact HT.out.symm | (rw [HT.out]; simp; omega)), rfl⟩
  · have h1 : (48 : Int) ≤ c.toNat := by omega
    have h2 : (c.toNat : Int) ≤ 57 := by omega
    have HT : Hid (letB c = false) := by show letB c = _; simp [letB]; omega
    clear h hu
    go_enter Try.func34, Try.ntmps34
    go_wp2
    go_ret
    exact ⟨ret_bool (by first | exact HT.out.symm | (rw [HT.out]; simp; omega)), rfl⟩
  · have h1 : (58 : Int) ≤ c.toNat := by omega
    have h2 : (c.toNat : Int) ≤ 58 := by omega
    have HT : Hid (letB c = true) := by show letB c = _; simp [letB]; omega
    clear h hu
    go_enter Try.func34, Try.ntmps34
    go_wp2
    go_ret
    exact ⟨ret_bool (by first | exact HT.out.symm | (rw [HT.out]; simp; omega)), rfl⟩
  · have h1 : (59 : Int) ≤ c.toNat := by omega
    have h2 : (c.toNat : Int) ≤ 64 := by omega
    have HT : Hid (letB c = false) := by show letB c = _; simp [letB]; omega
    clear h hu
    go_enter Try.func34, Try.ntmps34
    go_wp2
    go_ret
    exact ⟨ret_bool (by first | exact HT.out.symm | (rw [HT.out]; simp; omega)), rfl⟩
  · have h1 : (65 : Int) ≤ c.toNat := by omega
    have h2 : (c.toNat : Int) ≤ 90 := by omega
    have HT : Hid (letB c = true) := by show letB c = _; simp [letB]; omega
    clear h hu
    go_enter Try.func34, Try.ntmps34
    go_wp2
    go_ret
    exact ⟨ret_bool (by first | exact HT.out.symm | (rw [HT.out]; simp; omega)), rfl⟩
  · have h1 : (91 : Int) ≤ c.toNat := by omega
    have h2 : (c.toNat : Int) ≤ 94 := by omega
    have HT : Hid (letB c = false) := by show letB c = _; simp [letB]; omega
    clear h hu
    go_enter Try.func34, Try.ntmps34
    go_wp2
    go_ret
    exact ⟨ret_bool (by first | exact HT.out.symm | (rw [HT.out]; simp; omega)), rfl⟩
  · have h1 : (95 : Int) ≤ c.toNat := by omega
    have h2 : (c.toNat : Int) ≤ 95 := by omega
    have HT : Hid (letB c = true) := by show letB c = _; simp [letB]; omega
    clear h hu
    go_enter Try.func34, Try.ntmps34
    go_wp2
    go_ret
    exact ⟨ret_bool (by first | exact HT.out.symm | (rw [HT.out]; simp; omega)), rfl⟩
  · have h1 : (96 : Int) ≤ c.toNat := by omega
    have h2 : (c.toNat : Int) ≤ 96 := by omega
    have HT : Hid (letB c = false) := by show letB c = _; simp [letB]; omega
    clear h hu
    go_enter Try.func34, Try.ntmps34
    go_wp2
    go_ret
    exact ⟨ret_bool (by first | exact HT.out.symm | (rw [HT.out]; simp; omega)), rfl⟩
  · have h1 : (97 : Int) ≤ c.toNat := by omega
    have h2 : (c.toNat : Int) ≤ 122 := by omega
    have HT : Hid (letB c = true) := by show letB c = _; simp [letB]; omega
    clear h hu
    go_enter Try.func34, Try.ntmps34
    go_wp2
    go_ret
    exact ⟨ret_bool (by first | exact HT.out.symm | (rw [HT.out]; simp; omega)), rfl⟩
  · have h1 : (123 : Int) ≤ c.toNat := by omega
    have h2 : (c.toNat : Int) ≤ 255 := by omega
    have HT : Hid (letB c = false) := by show letB c = _; simp [letB]; omega
    clear h hu
    go_enter Try.func34, Try.ntmps34
    go_wp2
    go_ret
    exact ⟨ret_bool (by first | exact HT.out.symm | (rw [HT.out]; simp; omega)), rfl⟩
theorem digN_at {s : ByteArray} {k : Nat} (h : k < s.size) (hd : dchar s[k] = true) : digN (s.data.toList.drop k) = 1 + digN (s.data.toList.drop (k + 1)) := by
  rw [drop_at h, digN, List.takeWhile_cons, if_pos hd, List.length_cons, digN, Nat.add_comm]
theorem digN_no {s : ByteArray} {k : Nat} (h : k < s.size) (hd : dchar s[k] = false) : digN (s.data.toList.drop k) = 0 := by
  rw [drop_at h, digN, List.takeWhile_cons, if_neg (by simp [hd])]; rfl
theorem digN_end {s : ByteArray} : digN (s.data.toList.drop s.size) = 0 := by rw [drop_end]; rfl
set_option maxHeartbeats 1000000 in
theorem digits_any (s : ByteArray) (w : World) (hs : s.size ≤ maxLen) : Calls Try.prog 60 #[.string s] w fun e w' => e = .returned (.int .i64 (digN s.data.toList)) ∧ w = w' := by
  have HD := fun (c : UInt8) (W : World) => Lib.hid (digit_any c W)
  unfold maxLen at hs
  go_enter Try.func60, Try.ntmps60
  go_wp2
  go_loop [3] (fun i => ∃ k : Nat, k ≤ s.size ∧ i = .int .i64 k ∧ Hid (digN s.data.toList = k + digN (s.data.toList.drop k))) (fun i => s.size - (intOf i).toNat)
  case atStart => exact ⟨0, by omega, rfl, by show _ = _; simp⟩
  case round =>
    obtain ⟨k, hk, rfl, HV⟩ := hrel
    by_cases hlt : k < s.size
    · cases hd : dchar s[k] with
      | true =>
        have HV2 := Lib.hid (HV.out.trans (by rw [digN_at hlt hd, ← Nat.add_assoc] : _ = k + 1 + digN (s.data.toList.drop (k + 1))))
        have HD1 := fun (W : World) => Lib.hid (hd ▸ digit_any s[k] W)
        clear hd HV HD
        go_wp2_with (go_at_call 33; refine ((HD1 _).out).mono ?_; rintro e w' ⟨rfl, rfl⟩)
        go_round
        case rel => exact ⟨k + 1, by omega, by go_num, HV2⟩
        case measure => simp [intOf]; omega
      | false =>
        have HV2 := Lib.hid (HV.out.trans (by rw [digN_no hlt hd] : _ = k + 0))
        have HD1 := fun (W : World) => Lib.hid (hd ▸ digit_any s[k] W)
        clear hd HV HD
        go_wp2_with (go_at_call 33; refine ((HD1 _).out).mono ?_; rintro e w' ⟨rfl, rfl⟩)
        go_ret
        exact ⟨ret_int (by rw [HV2.out]; rfl), rfl⟩
    · have hks : k = s.size := by omega
      have HV2 := Lib.hid (HV.out.trans (by rw [hks, digN_end] : _ = k + 0))
      clear hks HV
      go_wp2_with fail
      go_ret
      exact ⟨ret_int (by rw [HV2.out]; rfl), rfl⟩
def needB (l : List UInt8) : Bool := decide (1 < l.length) && (l.head? == some 48)
set_option maxHeartbeats 1000000 in
theorem needless_any (s : ByteArray) (w : World) (hs : s.size ≤ maxLen) : Calls Try.prog 61 #[.string s] w fun e w' => e = .returned (.bool (needB s.data.toList)) ∧ w = w' := by
  unfold maxLen at hs
  by_cases h : 1 < s.size
  · have hI : (1 : Int) < s.size := by omega
    have h0 : 0 < s.size := by omega
    cases h1 : ((s[0].toNat : Int) == 48) with
    | _ =>
      have HT : Hid (needB s.data.toList = ((s[0].toNat : Int) == 48)) := by
        show needB _ = _
        have : (s[0] == (48 : UInt8)) = ((s[0].toNat : Int) == 48) := by
          by_cases hc : s[0] = 48
          · rw [hc]; rfl
          · have : s[0].toNat ≠ 48 := fun h' => hc (UInt8.toNat_inj.1 h')
            rw [beq_eq_false_iff_ne.2 hc, eq_comm, beq_eq_false_iff_ne]; omega
        rw [needB, head_at h0, ← Lib.size_eq, decide_eq_true h, Bool.true_and, ← this]; rfl
      rw [h1] at HT
      go_enter Try.func61, Try.ntmps61
      go_wp2
      go_ret
      exact ⟨ret_bool HT.out.symm, rfl⟩
  · have hI : ¬ (1 : Int) < s.size := by omega
    have HT : Hid (needB s.data.toList = false) := by show needB _ = _; rw [needB, ← Lib.size_eq, decide_eq_false h]; rfl
    go_enter Try.func61, Try.ntmps61
    go_wp2
    go_ret
    exact ⟨ret_bool HT.out.symm, rfl⟩
end Go.Proofs.Ytdikmklijpcjdaa
