/- The nine classes of a name's bytes. Plain lemmas. -/
import Derived.Test.YtakfnojiaakfpaaGreatDoorLexSpec
namespace Go.Proofs.YtakfnojiaakfpaaGreatDoor
open Go.RowKit
theorem cls0 {n : Int} (h : 0 ≤ n ∧ n ≤ 47) : n < 48 ∧ ¬ 48 ≤ n ∧ n < 65 ∧ ¬ 65 ≤ n ∧ n < 97 ∧ ¬ 97 ≤ n ∧ n ≤ 57 ∧ ¬ 57 < n ∧ n ≤ 90 ∧ ¬ 90 < n ∧ n ≤ 122 ∧ ¬ 122 < n ∧ (n == 95) = false ∧ (n != 95) = true := by
  refine ⟨?_, ?_, ?_, ?_, ?_, ?_, ?_, ?_, ?_, ?_, ?_, ?_, ?_, ?_⟩
  all_goals first | omega | (rw [beq_eq_false_iff_ne]; omega) | (rw [bne_iff_ne]; omega) | (rw [beq_iff_eq]; omega) | (rw [bne_eq_false_iff_eq]; omega)
theorem cls1 {n : Int} (h : 48 ≤ n ∧ n ≤ 57) : 48 ≤ n ∧ ¬ n < 48 ∧ n < 65 ∧ ¬ 65 ≤ n ∧ n < 97 ∧ ¬ 97 ≤ n ∧ n ≤ 57 ∧ ¬ 57 < n ∧ n ≤ 90 ∧ ¬ 90 < n ∧ n ≤ 122 ∧ ¬ 122 < n ∧ (n == 95) = false ∧ (n != 95) = true := by
  refine ⟨?_, ?_, ?_, ?_, ?_, ?_, ?_, ?_, ?_, ?_, ?_, ?_, ?_, ?_⟩
  all_goals first | omega | (rw [beq_eq_false_iff_ne]; omega) | (rw [bne_iff_ne]; omega) | (rw [beq_iff_eq]; omega) | (rw [bne_eq_false_iff_eq]; omega)
theorem cls2 {n : Int} (h : 58 ≤ n ∧ n ≤ 64) : 48 ≤ n ∧ ¬ n < 48 ∧ n < 65 ∧ ¬ 65 ≤ n ∧ n < 97 ∧ ¬ 97 ≤ n ∧ 57 < n ∧ ¬ n ≤ 57 ∧ n ≤ 90 ∧ ¬ 90 < n ∧ n ≤ 122 ∧ ¬ 122 < n ∧ (n == 95) = false ∧ (n != 95) = true := by
  refine ⟨?_, ?_, ?_, ?_, ?_, ?_, ?_, ?_, ?_, ?_, ?_, ?_, ?_, ?_⟩
  all_goals first | omega | (rw [beq_eq_false_iff_ne]; omega) | (rw [bne_iff_ne]; omega) | (rw [beq_iff_eq]; omega) | (rw [bne_eq_false_iff_eq]; omega)
theorem cls3 {n : Int} (h : 65 ≤ n ∧ n ≤ 90) : 48 ≤ n ∧ ¬ n < 48 ∧ 65 ≤ n ∧ ¬ n < 65 ∧ n < 97 ∧ ¬ 97 ≤ n ∧ 57 < n ∧ ¬ n ≤ 57 ∧ n ≤ 90 ∧ ¬ 90 < n ∧ n ≤ 122 ∧ ¬ 122 < n ∧ (n == 95) = false ∧ (n != 95) = true := by
  refine ⟨?_, ?_, ?_, ?_, ?_, ?_, ?_, ?_, ?_, ?_, ?_, ?_, ?_, ?_⟩
  all_goals first | omega | (rw [beq_eq_false_iff_ne]; omega) | (rw [bne_iff_ne]; omega) | (rw [beq_iff_eq]; omega) | (rw [bne_eq_false_iff_eq]; omega)
theorem cls4 {n : Int} (h : 91 ≤ n ∧ n ≤ 94) : 48 ≤ n ∧ ¬ n < 48 ∧ 65 ≤ n ∧ ¬ n < 65 ∧ n < 97 ∧ ¬ 97 ≤ n ∧ 57 < n ∧ ¬ n ≤ 57 ∧ 90 < n ∧ ¬ n ≤ 90 ∧ n ≤ 122 ∧ ¬ 122 < n ∧ (n == 95) = false ∧ (n != 95) = true := by
  refine ⟨?_, ?_, ?_, ?_, ?_, ?_, ?_, ?_, ?_, ?_, ?_, ?_, ?_, ?_⟩
  all_goals first | omega | (rw [beq_eq_false_iff_ne]; omega) | (rw [bne_iff_ne]; omega) | (rw [beq_iff_eq]; omega) | (rw [bne_eq_false_iff_eq]; omega)
theorem cls5 {n : Int} (h : 95 ≤ n ∧ n ≤ 95) : 48 ≤ n ∧ ¬ n < 48 ∧ 65 ≤ n ∧ ¬ n < 65 ∧ n < 97 ∧ ¬ 97 ≤ n ∧ 57 < n ∧ ¬ n ≤ 57 ∧ 90 < n ∧ ¬ n ≤ 90 ∧ n ≤ 122 ∧ ¬ 122 < n ∧ (n == 95) = true ∧ (n != 95) = false := by
  refine ⟨?_, ?_, ?_, ?_, ?_, ?_, ?_, ?_, ?_, ?_, ?_, ?_, ?_, ?_⟩
  all_goals first | omega | (rw [beq_eq_false_iff_ne]; omega) | (rw [bne_iff_ne]; omega) | (rw [beq_iff_eq]; omega) | (rw [bne_eq_false_iff_eq]; omega)
theorem cls6 {n : Int} (h : 96 ≤ n ∧ n ≤ 96) : 48 ≤ n ∧ ¬ n < 48 ∧ 65 ≤ n ∧ ¬ n < 65 ∧ n < 97 ∧ ¬ 97 ≤ n ∧ 57 < n ∧ ¬ n ≤ 57 ∧ 90 < n ∧ ¬ n ≤ 90 ∧ n ≤ 122 ∧ ¬ 122 < n ∧ (n == 95) = false ∧ (n != 95) = true := by
  refine ⟨?_, ?_, ?_, ?_, ?_, ?_, ?_, ?_, ?_, ?_, ?_, ?_, ?_, ?_⟩
  all_goals first | omega | (rw [beq_eq_false_iff_ne]; omega) | (rw [bne_iff_ne]; omega) | (rw [beq_iff_eq]; omega) | (rw [bne_eq_false_iff_eq]; omega)
theorem cls7 {n : Int} (h : 97 ≤ n ∧ n ≤ 122) : 48 ≤ n ∧ ¬ n < 48 ∧ 65 ≤ n ∧ ¬ n < 65 ∧ 97 ≤ n ∧ ¬ n < 97 ∧ 57 < n ∧ ¬ n ≤ 57 ∧ 90 < n ∧ ¬ n ≤ 90 ∧ n ≤ 122 ∧ ¬ 122 < n ∧ (n == 95) = false ∧ (n != 95) = true := by
  refine ⟨?_, ?_, ?_, ?_, ?_, ?_, ?_, ?_, ?_, ?_, ?_, ?_, ?_, ?_⟩
  all_goals first | omega | (rw [beq_eq_false_iff_ne]; omega) | (rw [bne_iff_ne]; omega) | (rw [beq_iff_eq]; omega) | (rw [bne_eq_false_iff_eq]; omega)
theorem cls8 {n : Int} (h : 123 ≤ n ∧ n ≤ 255) : 48 ≤ n ∧ ¬ n < 48 ∧ 65 ≤ n ∧ ¬ n < 65 ∧ 97 ≤ n ∧ ¬ n < 97 ∧ 57 < n ∧ ¬ n ≤ 57 ∧ 90 < n ∧ ¬ n ≤ 90 ∧ 122 < n ∧ ¬ n ≤ 122 ∧ (n == 95) = false ∧ (n != 95) = true := by
  refine ⟨?_, ?_, ?_, ?_, ?_, ?_, ?_, ?_, ?_, ?_, ?_, ?_, ?_, ?_⟩
  all_goals first | omega | (rw [beq_eq_false_iff_ne]; omega) | (rw [bne_iff_ne]; omega) | (rw [beq_iff_eq]; omega) | (rw [bne_eq_false_iff_eq]; omega)

theorem yes_cls {c : UInt8} (h : nchar c = true) : (48 ≤ (c.toNat : Int) ∧ (c.toNat : Int) ≤ 57) ∨ (65 ≤ (c.toNat : Int) ∧ (c.toNat : Int) ≤ 90) ∨ (95 ≤ (c.toNat : Int) ∧ (c.toNat : Int) ≤ 95) ∨ (97 ≤ (c.toNat : Int) ∧ (c.toNat : Int) ≤ 122) := by
  have := nchar_yes h; omega
theorem no_cls {c : UInt8} (h : nchar c = false) : (0 ≤ (c.toNat : Int) ∧ (c.toNat : Int) ≤ 47) ∨ (58 ≤ (c.toNat : Int) ∧ (c.toNat : Int) ≤ 64) ∨ (91 ≤ (c.toNat : Int) ∧ (c.toNat : Int) ≤ 94) ∨ (96 ≤ (c.toNat : Int) ∧ (c.toNat : Int) ≤ 96) ∨ (123 ≤ (c.toNat : Int) ∧ (c.toNat : Int) ≤ 255) := by
  have h1 := nchar_no h; have h2 := c.toNat_lt; omega
theorem first_cls {c : UInt8} (h : dchar c = false) : (0 ≤ (c.toNat : Int) ∧ (c.toNat : Int) ≤ 47) ∨ (58 ≤ (c.toNat : Int) ∧ (c.toNat : Int) ≤ 255) := by
  have h1 := dchar_no h; have h2 := c.toNat_lt; omega
end Go.Proofs.YtakfnojiaakfpaaGreatDoor
