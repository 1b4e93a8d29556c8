/- Whether a text may be a label's name: plain. -/
import Derived.Test.YtnlheomfobpcmaaGreatMem
namespace Go.Proofs.YtnlheomfobpcmaaGreat
open Go.RowKit

def nchar (c : UInt8) : Bool := c.toNat == 95 || (48 ≤ c.toNat && c.toNat ≤ 57) || (65 ≤ c.toNat && c.toNat ≤ 90) || (97 ≤ c.toNat && c.toNat ≤ 122)
def dchar (c : UInt8) : Bool := 48 ≤ c.toNat && c.toNat ≤ 57
def nameB (s : ByteArray) : Bool := (decide (1 ≤ s.size ∧ s.size ≤ 64)) && !(s.data.toList.head?.any dchar) && s.data.toList.all nchar
theorem nchar_yes {c : UInt8} (h : nchar c = true) : (c.toNat : Int) = 95 ∨ (48 ≤ (c.toNat : Int) ∧ (c.toNat : Int) ≤ 57) ∨ (65 ≤ (c.toNat : Int) ∧ (c.toNat : Int) ≤ 90) ∨ (97 ≤ (c.toNat : Int) ∧ (c.toNat : Int) ≤ 122) := by
  simp [nchar] at h; omega
theorem nchar_no {c : UInt8} (h : nchar c = false) : ¬ ((c.toNat : Int) = 95 ∨ (48 ≤ (c.toNat : Int) ∧ (c.toNat : Int) ≤ 57) ∨ (65 ≤ (c.toNat : Int) ∧ (c.toNat : Int) ≤ 90) ∨ (97 ≤ (c.toNat : Int) ∧ (c.toNat : Int) ≤ 122)) := by
  simp [nchar] at h; omega
theorem nall_true {s : ByteArray} {p : UInt8 → Bool} (h : ∀ j (hj : j < s.size), j < s.size → p s[j] = true) : s.data.toList.all p = true := by
  rw [List.all_eq_true]
  intro c hc
  obtain ⟨i, hi, rfl⟩ := List.getElem_of_mem hc
  exact h i (by simpa using hi) (by simpa using hi)
theorem nall_false {s : ByteArray} {p : UInt8 → Bool} {k : Nat} (hk : k < s.size) (h : p s[k] = false) : s.data.toList.all p = false := by
  rw [List.all_eq_false]
  exact ⟨s[k], by apply List.getElem_mem (l := s.data.toList) (n := k), by simp [h]⟩
theorem nall_step {s : ByteArray} {p : UInt8 → Bool} {k : Nat} (hk : k < s.size) (h : p s[k] = true) (hall : Hid (∀ j (hj : j < s.size), j < k → p s[j] = true)) : Hid (∀ j (hj : j < s.size), j < k + 1 → p s[j] = true) := fun j hj h2 => by
  by_cases e : j = k
  · subst e; exact h
  · exact hall j hj (by omega)
theorem head_at {s : ByteArray} (h : 0 < s.size) : s.data.toList.head? = some s[0] := by
  rw [List.head?_eq_getElem?]
  have h' : 0 < s.data.toList.length := by rw [← Lib.size_eq]; exact h
  rw [List.getElem?_eq_getElem h']
  rfl
theorem name_true {s : ByteArray} (h1 : 1 ≤ s.size) (h2 : s.size ≤ 64) (h0 : dchar s[0] = false) (h : ∀ j (hj : j < s.size), j < s.size → nchar s[j] = true) : nameB s = true := by
  simp only [nameB, h1, h2, and_self, decide_true, Bool.true_and, head_at h1, Option.any_some, h0, Bool.not_false]
  exact nall_true h
theorem name_false {s : ByteArray} {k : Nat} (hk : k < s.size) (h : nchar s[k] = false) : nameB s = false := by
  simp only [nameB, Bool.and_eq_false_iff]
  exact .inr (nall_false hk h)
theorem name_digit {s : ByteArray} (h1 : 1 ≤ s.size) (h0 : dchar s[0] = true) : nameB s = false := by
  simp [nameB, head_at h1, h0]
theorem name_len {s : ByteArray} (h : ¬ (1 ≤ s.size ∧ s.size ≤ 64)) : nameB s = false := by simp [nameB, h]
theorem dchar_yes {c : UInt8} (h : dchar c = true) : 48 ≤ (c.toNat : Int) ∧ (c.toNat : Int) ≤ 57 := by simp [dchar] at h; omega
theorem dchar_no {c : UInt8} (h : dchar c = false) : ¬ (48 ≤ (c.toNat : Int) ∧ (c.toNat : Int) ≤ 57) := by simp [dchar] at h; omega

end Go.Proofs.YtnlheomfobpcmaaGreat
