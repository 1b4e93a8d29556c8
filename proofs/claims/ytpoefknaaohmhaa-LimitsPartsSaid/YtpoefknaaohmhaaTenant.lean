/- Whether a text may be a tenant. -/
import Derived.Test.YtpoefknaaohmhaaProg
import Derived.Test.YtpoefknaaohmhaaMem
namespace Go.Proofs.Ytpoefknaaohmhaa
open Go.RowKit

def tchar (c : UInt8) : Bool := (97 ≤ c.toNat && c.toNat ≤ 122) || (48 ≤ c.toNat && c.toNat ≤ 57) || c.toNat == 45
def tenantB (s : ByteArray) : Bool := (decide (1 ≤ s.size ∧ s.size ≤ 32)) && s.data.toList.all tchar
theorem tchar_yes {c : UInt8} (h : tchar c = true) : (97 ≤ (c.toNat : Int) ∧ (c.toNat : Int) ≤ 122) ∨ (48 ≤ (c.toNat : Int) ∧ (c.toNat : Int) ≤ 57) ∨ (c.toNat : Int) = 45 := by
  simp [tchar] at h; omega
theorem tchar_no {c : UInt8} (h : tchar c = false) : ¬ ((97 ≤ (c.toNat : Int) ∧ (c.toNat : Int) ≤ 122) ∨ (48 ≤ (c.toNat : Int) ∧ (c.toNat : Int) ≤ 57) ∨ (c.toNat : Int) = 45) := by
  simp [tchar] at h; omega
theorem all_true {s : ByteArray} {p : UInt8 → Bool} (h : ∀ j (hj : j < s.size), j < s.size → p s[j] = true) : s.data.toList.all p = true := by
  rw [List.all_eq_true]
  intro c hc
  obtain ⟨i, hi, rfl⟩ := List.getElem_of_mem hc
  exact h i (by simpa using hi) (by simpa using hi)
theorem all_false {s : ByteArray} {p : UInt8 → Bool} {k : Nat} (hk : k < s.size) (h : p s[k] = false) : s.data.toList.all p = false := by
  rw [List.all_eq_false]
  exact ⟨s[k], by apply List.getElem_mem (l := s.data.toList) (n := k), by simp [h]⟩
theorem all_step {s : ByteArray} {p : UInt8 → Bool} {k : Nat} (hk : k < s.size) (h : p s[k] = true) (hall : Hid (∀ j (hj : j < s.size), j < k → p s[j] = true)) : Hid (∀ j (hj : j < s.size), j < k + 1 → p s[j] = true) := fun j hj h2 => by
  by_cases e : j = k
  · subst e; exact h
  · exact hall j hj (by omega)
theorem tenant_true {s : ByteArray} (h1 : 1 ≤ s.size) (h2 : s.size ≤ 32) (h : ∀ j (hj : j < s.size), j < s.size → tchar s[j] = true) : tenantB s = true := by
  simp only [tenantB, h1, h2, and_self, decide_true, Bool.true_and]
  exact all_true h
theorem tenant_false {s : ByteArray} {k : Nat} (hk : k < s.size) (h : tchar s[k] = false) : tenantB s = false := by
  simp only [tenantB, Bool.and_eq_false_iff]
  exact .inr (all_false hk h)
theorem tenant_len {s : ByteArray} (h : ¬ (1 ≤ s.size ∧ s.size ≤ 32)) : tenantB s = false := by simp [tenantB, h]

set_option maxHeartbeats 400000 in
theorem tenant1_any (s : ByteArray) (w : World) (hs : s.size ≤ maxLen) :
    Calls Try.prog 10 #[.string s] w fun e w' => e = .returned (.bool (tenantB s)) ∧ w = w' := by
  unfold maxLen at hs
  by_cases h : 1 ≤ s.size ∧ s.size ≤ 32
  · obtain ⟨h1, h2⟩ := h
    have he : s.toList.isEmpty = false := isEmpty_no h1
    go_enter Try.func10, Try.ntmps10
    go_wp2
    go_loop [3] (fun i => ∃ k : Nat, k ≤ s.size ∧ i = .int .i64 k ∧ Hid (∀ j (hj : j < s.size), j < k → tchar s[j] = true)) (fun i => s.size - (intOf i).toNat)
    case atStart => exact ⟨0, by omega, rfl, fun j _ hj => by omega⟩
    case round =>
      obtain ⟨k, hk, rfl, hall⟩ := hrel
      by_cases hlt : k < s.size
      · cases hc : tchar s[k] with
        | true =>
          have hc1 := Lib.hid (tchar_yes hc)
          have hall2 := all_step hlt hc hall
          clear hc hall
          go_wp2
          all_goals first
            | (exfalso; have := hc1.out; simp at *; omega)
            | (go_round
               case rel => exact ⟨k + 1, by omega, by go_num, hall2⟩
               case measure => simp [intOf]; omega)
        | false =>
          have hc1 := Lib.hid (tchar_no hc)
          have hc2 := Lib.hid (tenant_false hlt hc)
          clear hc hall
          go_wp2
          all_goals first
            | (exfalso; have := hc1.out; simp at *; omega)
            | (go_ret; exact ⟨ret_bool hc2.out.symm, rfl⟩)
      · have hks : k = s.size := by omega
        have HT := Lib.hid (tenant_true h1 h2 (by rw [hks] at hall; exact hall))
        clear hks
        go_wp2
        go_ret
        exact ⟨ret_bool HT.out.symm, rfl⟩
  · have HT := Lib.hid (tenant_len h)
    by_cases h1 : 1 ≤ s.size
    · have he : s.toList.isEmpty = false := isEmpty_no h1
      have h2 : ¬ (s.size : Int) ≤ 32 := by omega
      have h3 : (32 : Int) < s.size := by omega
      clear h
      go_enter Try.func10, Try.ntmps10
      go_wp2
      go_ret
      exact ⟨ret_bool HT.out.symm, rfl⟩
    · have he : s.toList.isEmpty = true := isEmpty_yes h1
      have h2 : (s.size : Int) < 1 := by omega
      clear h
      go_enter Try.func10, Try.ntmps10
      go_wp2
      go_ret
      exact ⟨ret_bool HT.out.symm, rfl⟩
set_option maxHeartbeats 400000 in
theorem tenant2_any (s : ByteArray) (w : World) (hs : s.size ≤ maxLen) :
    Calls Try.prog 11 #[.string s] w fun e w' => e = .returned (.bool (tenantB s)) ∧ w = w' := by
  unfold maxLen at hs
  by_cases h : 1 ≤ s.size ∧ s.size ≤ 32
  · obtain ⟨h1, h2⟩ := h
    have he : s.toList.isEmpty = false := isEmpty_no h1
    go_enter Try.func11, Try.ntmps11
    go_wp2
    go_loop [3] (fun i => ∃ k : Nat, k ≤ s.size ∧ i = .int .i64 k ∧ Hid (∀ j (hj : j < s.size), j < k → tchar s[j] = true)) (fun i => s.size - (intOf i).toNat)
    case atStart => exact ⟨0, by omega, rfl, fun j _ hj => by omega⟩
    case round =>
      obtain ⟨k, hk, rfl, hall⟩ := hrel
      by_cases hlt : k < s.size
      · cases hc : tchar s[k] with
        | true =>
          have hc1 := Lib.hid (tchar_yes hc)
          have hall2 := all_step hlt hc hall
          clear hc hall
          go_wp2
          all_goals first
            | (exfalso; have := hc1.out; simp at *; omega)
            | (go_round
               case rel => exact ⟨k + 1, by omega, by go_num, hall2⟩
               case measure => simp [intOf]; omega)
        | false =>
          have hc1 := Lib.hid (tchar_no hc)
          have hc2 := Lib.hid (tenant_false hlt hc)
          clear hc hall
          go_wp2
          all_goals first
            | (exfalso; have := hc1.out; simp at *; omega)
            | (go_ret; exact ⟨ret_bool hc2.out.symm, rfl⟩)
      · have hks : k = s.size := by omega
        have HT := Lib.hid (tenant_true h1 h2 (by rw [hks] at hall; exact hall))
        clear hks
        go_wp2
        go_ret
        exact ⟨ret_bool HT.out.symm, rfl⟩
  · have HT := Lib.hid (tenant_len h)
    by_cases h1 : 1 ≤ s.size
    · have he : s.toList.isEmpty = false := isEmpty_no h1
      have h2 : ¬ (s.size : Int) ≤ 32 := by omega
      have h3 : (32 : Int) < s.size := by omega
      clear h
      go_enter Try.func11, Try.ntmps11
      go_wp2
      go_ret
      exact ⟨ret_bool HT.out.symm, rfl⟩
    · have he : s.toList.isEmpty = true := isEmpty_yes h1
      have h2 : (s.size : Int) < 1 := by omega
      clear h
      go_enter Try.func11, Try.ntmps11
      go_wp2
      go_ret
      exact ⟨ret_bool HT.out.symm, rfl⟩
end Go.Proofs.Ytpoefknaaohmhaa
