/- internal/strconv.readFloat of a number's text: its digits, and how many stand behind the point. -/
import Derived.Test.YtbnpleihhbpnlaaDoorWavP
namespace Go.Proofs.YtbnpleihhbpnlaaDoor
open Go.RowKit

def val1 (v : Nat) (c : UInt8) : Nat := if c.toNat = 46 then v else 10 * v + (c.toNat - 48)
/-- The number that the digits say. -/
def valN (l : List UInt8) : Nat := l.foldl val1 0
theorem valN_add {s : ByteArray} {k : Nat} (h : k < s.size) : valN (s.data.toList.take (k + 1)) = val1 (valN (s.data.toList.take k)) s[k] := by
  have e : s.data.toList[k]? = some s[k] := by rw [List.getElem?_eq_getElem (by rw [← Lib.size_eq]; exact h)]; rfl
  unfold valN
  rw [List.take_add_one, e, Option.toList_some, List.foldl_append]; rfl
/-- A number's text: n digits, and, if there is more, a point and digits. -/
structure NumT (s : ByteArray) (n : Nat) : Prop where
  pos : 0 < n
  le : n ≤ s.size
  dig : ∀ i (h : i < s.size), i ≠ n → dchar s[i] = true
  dot : ∀ h : n < s.size, s[n].toNat = 46
  cnt : (n = s.size ∧ n ≤ 15) ∨ (n + 1 < s.size ∧ s.size ≤ 16)
theorem digN_lt {s : ByteArray} {k i : Nat} (h : k + i < s.size) (hi : i < digN (s.data.toList.drop k)) : dchar s[k + i] = true := by
  induction i generalizing k with
  | zero =>
    have hk : k < s.size := by omega
    cases hd : dchar s[k] with
    | true => simp [hd]
    | false => rw [digN_no hk hd] at hi; omega
  | succ i ih =>
    have hk : k < s.size := by omega
    cases hd : dchar s[k] with
    | true =>
      rw [digN_at hk hd] at hi
      have := ih (k := k + 1) (by omega) (by omega)
      have e : k + 1 + i = k + (i + 1) := by omega
      simpa [e] using this
    | false => rw [digN_no hk hd] at hi; omega
theorem numT_of {s : ByteArray} (h : numB s.data.toList = true) : NumT s (digN s.data.toList) := by
  unfold numB at h
  have hl : s.data.toList.length = s.size := (Lib.size_eq s).symm
  have hle := digN_le' s
  have hdig : ∀ i (h : i < s.size), i < digN s.data.toList → dchar s[i] = true := by
    intro i h hi
    have := digN_lt (s := s) (k := 0) (i := i) (by omega) (by simpa using hi)
    simpa using this
  generalize hn : digN s.data.toList = n at *
  split at h
  · cases h
  · rename_i h1
    have hpos : 0 < n := by
      have : ¬ n = 0 := fun e => h1 (.inl e)
      omega
    split at h
    · rename_i h2
      rw [decide_eq_true_eq] at h
      exact ⟨hpos, hle, fun i hi hne => hdig i hi (by omega), fun h3 => by omega, .inl ⟨by omega, h⟩⟩
    · rename_i h2
      have hlt : n < s.size := by omega
      rw [Bool.and_eq_true, Bool.and_eq_true, Bool.and_eq_true, decide_eq_true_eq, decide_eq_true_eq, decide_eq_true_eq] at h
      obtain ⟨⟨⟨h3, h4⟩, h5⟩, h6⟩ := h
      have e : s.data.toList[n]? = some s[n] := by rw [List.getElem?_eq_getElem (by omega)]; rfl
      rw [e] at h3
      have h46 : s[n].toNat = 46 := by
        have : ((s[n].toNat : Int) == 46) = true := h3
        rw [beq_iff_eq] at this
        omega
      refine ⟨hpos, hle, fun i hi hne => ?_, fun _ => h46, .inr ⟨by omega, by omega⟩⟩
      by_cases hin : i < n
      · exact hdig i hi hin
      · have := digN_lt (s := s) (k := n + 1) (i := i - (n + 1)) (by omega) (by omega)
        have e2 : n + 1 + (i - (n + 1)) = i := by omega
        simpa [e2] using this
/-- What is known behind k bytes: the number so far; whether the point is passed; how many digits count; where the point stands. -/
def RFat (s : ByteArray) (n k m : Nat) (dot : Bool) (nd : Nat) (dp : Int) : Prop :=
  m = valN (s.data.toList.take k) ∧ m < 10 ^ nd ∧ dot = decide (n < k) ∧ nd + (if n < k then 1 else 0) ≤ k ∧ (n < k → dp = (nd : Int) - ((k : Int) - n - 1)) ∧ -(k : Int) ≤ dp ∧ dp ≤ 16
theorem rf_start (s : ByteArray) (n : Nat) : RFat s n 0 0 false 0 0 := ⟨rfl, by decide, (decide_eq_false (by omega)).symm, by rw [if_neg (by omega)]; omega, fun h => by omega, by omega, by omega⟩
theorem rf_dot {s : ByteArray} {n k m nd : Nat} {dot : Bool} {dp : Int} (hN : NumT s n) (h : RFat s n k m dot nd dp) (hk : k < s.size) (e : k = n) : RFat s n (k + 1) m true nd (nd : Int) := by
  obtain ⟨h1, h2, h3, h4, h5, h6, h7⟩ := h
  subst e
  have hc := hN.cnt
  rw [if_neg (by omega)] at h4
  refine ⟨?_, h2, (decide_eq_true (by omega)).symm, by rw [if_pos (by omega)]; omega, fun _ => by omega, by omega, by omega⟩
  rw [valN_add hk, ← h1]
  unfold val1
  rw [if_pos (hN.dot hk)]
theorem rf_zero {s : ByteArray} {n k m : Nat} {dot : Bool} {dp : Int} (hN : NumT s n) (h : RFat s n k m dot 0 dp) (hk : k < s.size) (e : ¬ k = n) (hc : s[k].toNat = 48) : RFat s n (k + 1) m dot 0 (dp - 1) := by
  obtain ⟨h1, h2, h3, h4, h5, h6, h7⟩ := h
  have hm : m = 0 := by rw [Nat.pow_zero] at h2; omega
  refine ⟨?_, h2, ?_, by split <;> omega, fun h => ?_, by omega, by omega⟩
  · rw [valN_add hk, ← h1, hm]
    unfold val1
    rw [if_neg (by omega), hc]
  · rw [h3]; congr 1; exact propext ⟨fun h => by omega, fun h => by omega⟩
  · have := h5 (by omega); omega
theorem rf_digit {s : ByteArray} {n k m nd : Nat} {dot : Bool} {dp : Int} (hN : NumT s n) (h : RFat s n k m dot nd dp) (hk : k < s.size) (e : ¬ k = n) : RFat s n (k + 1) (10 * m + (s[k].toNat - 48)) dot (nd + 1) dp ∧ nd < 15 ∧ m < 1000000000000000 := by
  obtain ⟨h1, h2, h3, h4, h5, h6, h7⟩ := h
  have hd := hN.dig k hk e
  have hd2 : s[k].toNat - 48 ≤ 9 ∧ ¬ s[k].toNat = 46 := by unfold dchar at hd; simp at hd; omega
  have hnd : nd < 15 := by
    rcases hN.cnt with ⟨h, _⟩ | ⟨h, _⟩
    · rw [if_neg (by omega)] at h4; omega
    · by_cases hnk : n < k
      · rw [if_pos hnk] at h4; omega
      · rw [if_neg hnk] at h4; omega
  refine ⟨⟨?_, ?_, ?_, ?_, fun h => ?_, by omega, by omega⟩, hnd, ?_⟩
  · rw [valN_add hk, ← h1]
    unfold val1
    rw [if_neg hd2.2]
  · rw [Nat.pow_succ]; omega
  · rw [h3]; congr 1; exact propext ⟨fun h => by omega, fun h => by omega⟩
  · by_cases hnk : n < k
    · rw [if_pos hnk] at h4; rw [if_pos (by omega)]; omega
    · rw [if_neg hnk] at h4; rw [if_neg (by omega)]; omega
  · have := h5 (by omega); omega
  · have : 10 ^ nd ≤ 10 ^ 14 := Nat.pow_le_pow_right (by decide) (by omega)
    have e : (10 : Nat) ^ 14 = 100000000000000 := by decide
    omega
theorem take_all {s : ByteArray} : s.data.toList.take s.size = s.data.toList := by rw [Lib.size_eq, List.take_length]
def expV (s : ByteArray) (n : Nat) : Int := if valN s.data.toList = 0 then 0 else -((s.size - n - 1 : Nat) : Int)
theorem rf_end {s : ByteArray} {n m nd : Nat} {dot : Bool} {dp : Int} (hN : NumT s n) (h : RFat s n s.size m dot nd dp) : m = valN s.data.toList ∧ (dot = false → (m ≠ 0 → expV s n = 0)) ∧ (dot = true → (m ≠ 0 → expV s n = dp - nd)) ∧ (m = 0 → expV s n = 0) ∧ nd ≤ 15 := by
  obtain ⟨h1, h2, h3, h4, h5, h6, h7⟩ := h
  rw [take_all] at h1
  refine ⟨h1, fun hd hm => ?_, fun hd hm => ?_, fun hm => ?_, ?_⟩
  · unfold expV
    rw [← h1, if_neg hm]
    rw [hd] at h3
    have := of_decide_eq_false h3.symm
    have := hN.le
    omega
  · unfold expV
    rw [← h1, if_neg hm]
    rw [hd] at h3
    have hlt := of_decide_eq_true h3.symm
    have := h5 hlt
    omega
  · unfold expV; rw [← h1, if_pos hm]
  · rcases hN.cnt with ⟨e, _⟩ | ⟨e, _⟩
    · rw [if_neg (by omega)] at h4; omega
    · rw [if_pos (by omega)] at h4; omega
theorem rf_flag {s : ByteArray} {n k m nd : Nat} {dot : Bool} {dp : Int} (h : RFat s n k m dot nd dp) (e : k = n) : dot = false := by
  rw [h.2.2.1]; exact decide_eq_false (by omega)
theorem digit_range {c : UInt8} (h : dchar c = true) : (48 : Int) ≤ c.toNat ∧ (c.toNat : Int) ≤ 57 := by unfold dchar at h; simp at h; omega
end Go.Proofs.YtbnpleihhbpnlaaDoor
