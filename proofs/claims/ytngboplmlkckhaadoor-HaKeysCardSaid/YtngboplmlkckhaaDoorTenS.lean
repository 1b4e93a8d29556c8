/- Whether a text may be a tenant: plain words. -/
import Derived.Test.YtngboplmlkckhaaDoorMem
namespace Go.Proofs.YtngboplmlkckhaaDoor
open Go.RowKit

def tchar (c : UInt8) : Bool := (97 ≤ c.toNat && c.toNat ≤ 122) || (48 ≤ c.toNat && c.toNat ≤ 57) || c.toNat == 45
def tenantB (s : ByteArray) : Bool := (decide (1 ≤ s.size ∧ s.size ≤ 32)) && s.data.toList.all tchar
theorem tchar_yes {c : UInt8} (h : tchar c = true) : (97 ≤ (c.toNat : Int) ∧ (c.toNat : Int) ≤ 122) ∨ (48 ≤ (c.toNat : Int) ∧ (c.toNat : Int) ≤ 57) ∨ (c.toNat : Int) = 45 := by
  simp [tchar] at h; omega
theorem tchar_no {c : UInt8} (h : tchar c = false) : ¬ ((97 ≤ (c.toNat : Int) ∧ (c.toNat : Int) ≤ 122) ∨ (48 ≤ (c.toNat : Int) ∧ (c.toNat : Int) ≤ 57) ∨ (c.toNat : Int) = 45) := by
  simp [tchar] at h; omega
theorem all_true {s : ByteArray} {p : UInt8 → Bool} (h : ∀ j (hj : j < s.size), j < s.size → p s[j] = true) : s.data.toList.all p = true := by
  rw [List.all_eq_true]
  intro c hc
  obtain ⟨i, hi, rfl⟩ := List.getElem_of_mem hc
  exact h i (by simpa using hi) (by simpa using hi)
theorem all_false {s : ByteArray} {p : UInt8 → Bool} {k : Nat} (hk : k < s.size) (h : p s[k] = false) : s.data.toList.all p = false := by
  rw [List.all_eq_false]
  exact ⟨s[k], by apply List.getElem_mem (l := s.data.toList) (n := k), by simp [h]⟩
theorem all_step {s : ByteArray} {p : UInt8 → Bool} {k : Nat} (hk : k < s.size) (h : p s[k] = true) (hall : Hid (∀ j (hj : j < s.size), j < k → p s[j] = true)) : Hid (∀ j (hj : j < s.size), j < k + 1 → p s[j] = true) := fun j hj h2 => by
  by_cases e : j = k
  · subst e; exact h
  · exact hall j hj (by omega)
theorem tenant_true {s : ByteArray} (h1 : 1 ≤ s.size) (h2 : s.size ≤ 32) (h : ∀ j (hj : j < s.size), j < s.size → tchar s[j] = true) : tenantB s = true := by
  simp only [tenantB, h1, h2, and_self, decide_true, Bool.true_and]
  exact all_true h
theorem tenant_false {s : ByteArray} {k : Nat} (hk : k < s.size) (h : tchar s[k] = false) : tenantB s = false := by
  simp only [tenantB, Bool.and_eq_false_iff]
  exact .inr (all_false hk h)
theorem tenant_len {s : ByteArray} (h : ¬ (1 ≤ s.size ∧ s.size ≤ 32)) : tenantB s = false := by simp [tenantB, h]

end Go.Proofs.YtngboplmlkckhaaDoor
