/- Whether a text may be a label's name. -/
import Derived.Test.YtpoefknaaohmhaaProg
import Derived.Test.YtpoefknaaohmhaaMem
namespace Go.Proofs.Ytpoefknaaohmhaa
open Go.RowKit

def nchar (c : UInt8) : Bool := c.toNat == 95 || (48 ≤ c.toNat && c.toNat ≤ 57) || (65 ≤ c.toNat && c.toNat ≤ 90) || (97 ≤ c.toNat && c.toNat ≤ 122)
def dchar (c : UInt8) : Bool := 48 ≤ c.toNat && c.toNat ≤ 57
def nameB (s : ByteArray) : Bool := (decide (1 ≤ s.size ∧ s.size ≤ 64)) && !(s.data.toList.head?.any dchar) && s.data.toList.all nchar
theorem nchar_yes {c : UInt8} (h : nchar c = true) : (c.toNat : Int) = 95 ∨ (48 ≤ (c.toNat : Int) ∧ (c.toNat : Int) ≤ 57) ∨ (65 ≤ (c.toNat : Int) ∧ (c.toNat : Int) ≤ 90) ∨ (97 ≤ (c.toNat : Int) ∧ (c.toNat : Int) ≤ 122) := by
  simp [nchar] at h; omega
theorem nchar_no {c : UInt8} (h : nchar c = false) : ¬ ((c.toNat : Int) = 95 ∨ (48 ≤ (c.toNat : Int) ∧ (c.toNat : Int) ≤ 57) ∨ (65 ≤ (c.toNat : Int) ∧ (c.toNat : Int) ≤ 90) ∨ (97 ≤ (c.toNat : Int) ∧ (c.toNat : Int) ≤ 122)) := by
  simp [nchar] at h; omega
theorem nall_true {s : ByteArray} {p : UInt8 → Bool} (h : ∀ j (hj : j < s.size), j < s.size → p s[j] = true) : s.data.toList.all p = true := by
  rw [List.all_eq_true]
  intro c hc
  obtain ⟨i, hi, rfl⟩ := List.getElem_of_mem hc
  exact h i (by simpa using hi) (by simpa using hi)
theorem nall_false {s : ByteArray} {p : UInt8 → Bool} {k : Nat} (hk : k < s.size) (h : p s[k] = false) : s.data.toList.all p = false := by
  rw [List.all_eq_false]
  exact ⟨s[k], by apply List.getElem_mem (l := s.data.toList) (n := k), by simp [h]⟩
theorem nall_step {s : ByteArray} {p : UInt8 → Bool} {k : Nat} (hk : k < s.size) (h : p s[k] = true) (hall : Hid (∀ j (hj : j < s.size), j < k → p s[j] = true)) : Hid (∀ j (hj : j < s.size), j < k + 1 → p s[j] = true) := fun j hj h2 => by
  by_cases e : j = k
  · subst e; exact h
  · exact hall j hj (by omega)
theorem head_at {s : ByteArray} (h : 0 < s.size) : s.data.toList.head? = some s[0] := by
  rw [List.head?_eq_getElem?]
  have h' : 0 < s.data.toList.length := by rw [← Lib.size_eq]; exact h
  rw [List.getElem?_eq_getElem h']
  rfl
theorem name_true {s : ByteArray} (h1 : 1 ≤ s.size) (h2 : s.size ≤ 64) (h0 : dchar s[0] = false) (h : ∀ j (hj : j < s.size), j < s.size → nchar s[j] = true) : nameB s = true := by
  simp only [nameB, h1, h2, and_self, decide_true, Bool.true_and, head_at h1, Option.any_some, h0, Bool.not_false]
  exact nall_true h
theorem name_false {s : ByteArray} {k : Nat} (hk : k < s.size) (h : nchar s[k] = false) : nameB s = false := by
  simp only [nameB, Bool.and_eq_false_iff]
  exact .inr (nall_false hk h)
theorem name_digit {s : ByteArray} (h1 : 1 ≤ s.size) (h0 : dchar s[0] = true) : nameB s = false := by
  simp [nameB, head_at h1, h0]
theorem name_len {s : ByteArray} (h : ¬ (1 ≤ s.size ∧ s.size ≤ 64)) : nameB s = false := by simp [nameB, h]
theorem dchar_yes {c : UInt8} (h : dchar c = true) : 48 ≤ (c.toNat : Int) ∧ (c.toNat : Int) ≤ 57 := by simp [dchar] at h; omega
theorem dchar_no {c : UInt8} (h : dchar c = false) : ¬ (48 ≤ (c.toNat : Int) ∧ (c.toNat : Int) ≤ 57) := by simp [dchar] at h; omega

set_option maxHeartbeats 1000000 in
theorem name1_any (s : ByteArray) (w : World) (hs : s.size ≤ maxLen) :
    Calls Try.prog 28 #[.string s] w fun e w' => e = .returned (.bool (nameB s)) ∧ w = w' := by
  unfold maxLen at hs
  by_cases h : 1 ≤ s.size ∧ s.size ≤ 64
  · obtain ⟨h1, h2⟩ := h
    have he : s.toList.isEmpty = false := isEmpty_no h1
    cases h0 : dchar s[0] with
    | true =>
      have HT := Lib.hid (name_digit h1 h0)
      obtain ⟨h3, h4⟩ := dchar_yes h0
      clear h0
      go_enter Try.func28, Try.ntmps28
      go_wp2
      go_ret
      exact ⟨ret_bool HT.out.symm, rfl⟩
    | false =>
      have h3 := dchar_no h0
      have H3 := Lib.hid h3
      have H0 := Lib.hid h0
      clear h0 h3
      by_cases hlo : 48 ≤ (s[0].toNat : Int)
      all_goals
        have hhi : Hid ((57 : Int) < s[0].toNat ∨ (s[0].toNat : Int) < 48) := by have := H3.out; show _ ∨ _; omega
        have hhi2 : 48 ≤ (s[0].toNat : Int) → ¬ (s[0].toNat : Int) ≤ 57 := by have := H3.out; omega
        go_enter Try.func28, Try.ntmps28
        first
          | (have hq : (57 : Int) < s[0].toNat := by have := hhi2 hlo; omega
             clear hhi2
             go_wp2)
          | (clear hhi2; go_wp2)
        go_loop [3] (fun i => ∃ k : Nat, k ≤ s.size ∧ i = .int .i64 k ∧ Hid (∀ j (hj : j < s.size), j < k → nchar s[j] = true)) (fun i => s.size - (intOf i).toNat)
        case atStart => exact ⟨0, by omega, rfl, fun j _ hj => by omega⟩
        case round =>
          obtain ⟨k, hk, rfl, hall⟩ := hrel
          by_cases hlt : k < s.size
          · cases hc : nchar s[k] with
            | true =>
              have hc1 := Lib.hid (nchar_yes hc)
              have hall2 := nall_step hlt hc hall
              clear hc hall
              go_wp2
              all_goals first
                | (exfalso; have := hc1.out; simp at *; omega)
                | (go_round
                   case rel => exact ⟨k + 1, by omega, by go_num, hall2⟩
                   case measure => simp [intOf]; omega)
            | false =>
              have hc1 := Lib.hid (nchar_no hc)
              have hc2 := Lib.hid (name_false hlt hc)
              clear hc hall
              go_wp2
              all_goals first
                | (exfalso; have := hc1.out; simp at *; omega)
                | (go_ret; exact ⟨ret_bool hc2.out.symm, rfl⟩)
          · have hks : k = s.size := by omega
            have HT := Lib.hid (name_true h1 h2 H0.out (by rw [hks] at hall; exact hall))
            clear hks
            go_wp2
            go_ret
            exact ⟨ret_bool HT.out.symm, rfl⟩
  · have HT := Lib.hid (name_len h)
    by_cases h1 : 1 ≤ s.size
    · have he : s.toList.isEmpty = false := isEmpty_no h1
      have h2 : ¬ (s.size : Int) ≤ 64 := by omega
      have h3 : (64 : Int) < s.size := by omega
      clear h
      go_enter Try.func28, Try.ntmps28
      go_wp2
      go_ret
      exact ⟨ret_bool HT.out.symm, rfl⟩
    · have he : s.toList.isEmpty = true := isEmpty_yes h1
      have h2 : (s.size : Int) < 1 := by omega
      clear h
      go_enter Try.func28, Try.ntmps28
      go_wp2
      go_ret
      exact ⟨ret_bool HT.out.symm, rfl⟩
set_option maxHeartbeats 1000000 in
theorem name2_any (s : ByteArray) (w : World) (hs : s.size ≤ maxLen) :
    Calls Try.prog 22 #[.string s] w fun e w' => e = .returned (.bool (nameB s)) ∧ w = w' := by
  unfold maxLen at hs
  by_cases h : 1 ≤ s.size ∧ s.size ≤ 64
  · obtain ⟨h1, h2⟩ := h
    have he : s.toList.isEmpty = false := isEmpty_no h1
    cases h0 : dchar s[0] with
    | true =>
      have HT := Lib.hid (name_digit h1 h0)
      obtain ⟨h3, h4⟩ := dchar_yes h0
      clear h0
      go_enter Try.func22, Try.ntmps22
      go_wp2
      go_ret
      exact ⟨ret_bool HT.out.symm, rfl⟩
    | false =>
      have h3 := dchar_no h0
      have H3 := Lib.hid h3
      have H0 := Lib.hid h0
      clear h0 h3
      by_cases hlo : 48 ≤ (s[0].toNat : Int)
      all_goals
        have hhi : Hid ((57 : Int) < s[0].toNat ∨ (s[0].toNat : Int) < 48) := by have := H3.out; show _ ∨ _; omega
        have hhi2 : 48 ≤ (s[0].toNat : Int) → ¬ (s[0].toNat : Int) ≤ 57 := by have := H3.out; omega
        go_enter Try.func22, Try.ntmps22
        first
          | (have hq : (57 : Int) < s[0].toNat := by have := hhi2 hlo; omega
             clear hhi2
             go_wp2)
          | (clear hhi2; go_wp2)
        go_loop [3] (fun i => ∃ k : Nat, k ≤ s.size ∧ i = .int .i64 k ∧ Hid (∀ j (hj : j < s.size), j < k → nchar s[j] = true)) (fun i => s.size - (intOf i).toNat)
        case atStart => exact ⟨0, by omega, rfl, fun j _ hj => by omega⟩
        case round =>
          obtain ⟨k, hk, rfl, hall⟩ := hrel
          by_cases hlt : k < s.size
          · cases hc : nchar s[k] with
            | true =>
              have hc1 := Lib.hid (nchar_yes hc)
              have hall2 := nall_step hlt hc hall
              clear hc hall
              go_wp2
              all_goals first
                | (exfalso; have := hc1.out; simp at *; omega)
                | (go_round
                   case rel => exact ⟨k + 1, by omega, by go_num, hall2⟩
                   case measure => simp [intOf]; omega)
            | false =>
              have hc1 := Lib.hid (nchar_no hc)
              have hc2 := Lib.hid (name_false hlt hc)
              clear hc hall
              go_wp2
              all_goals first
                | (exfalso; have := hc1.out; simp at *; omega)
                | (go_ret; exact ⟨ret_bool hc2.out.symm, rfl⟩)
          · have hks : k = s.size := by omega
            have HT := Lib.hid (name_true h1 h2 H0.out (by rw [hks] at hall; exact hall))
            clear hks
            go_wp2
            go_ret
            exact ⟨ret_bool HT.out.symm, rfl⟩
  · have HT := Lib.hid (name_len h)
    by_cases h1 : 1 ≤ s.size
    · have he : s.toList.isEmpty = false := isEmpty_no h1
      have h2 : ¬ (s.size : Int) ≤ 64 := by omega
      have h3 : (64 : Int) < s.size := by omega
      clear h
      go_enter Try.func22, Try.ntmps22
      go_wp2
      go_ret
      exact ⟨ret_bool HT.out.symm, rfl⟩
    · have he : s.toList.isEmpty = true := isEmpty_yes h1
      have h2 : (s.size : Int) < 1 := by omega
      clear h
      go_enter Try.func22, Try.ntmps22
      go_wp2
      go_ret
      exact ⟨ret_bool HT.out.symm, rfl⟩
end Go.Proofs.Ytpoefknaaohmhaa
