/- ParseRows, plain: three selects with two operations between, each way. -/
import Derived.Test.YtdikmklijpcjdaaParS
namespace Go.Proofs.Ytdikmklijpcjdaa
open Go.RowKit

/-- An operation's row: the tighter, the higher. -/
def rowK (op : Int) : Int := if op = 12 then 0 else if op = 11 ∨ op = 13 then 1 else if 5 ≤ op then 2 else if op = 1 ∨ op = 2 then 3 else 4
def threeB (i k : Nat) : ByteArray := (⟨#[97, 32]⟩ : ByteArray) ++ (opsL.getD (i + 1) ByteArray.empty) ++ ⟨#[32, 98, 32]⟩ ++ (opsL.getD (k + 1) ByteArray.empty) ++ ⟨#[32, 99]⟩
def three_ok (i k : Nat) : Bool :=
  let r := parseR (threeB i k)
  decide (r.2.2 = 0) && decide (r.1.length = 5) &&
    (if rowK (k + 1) > rowK (i + 1) then
      decide ((r.1.getD 3 negN).op = k + 1) && decide ((r.1.getD 4 negN).op = i + 1) && decide ((r.1.getD 2 negN).kind = 2)
    else decide ((r.1.getD 2 negN).op = i + 1) && decide ((r.1.getD 4 negN).op = k + 1) && decide ((r.1.getD 3 negN).kind = 2))
theorem three_all : ((List.range 13).all fun i => (List.range 13).all fun k => three_ok i k) = true := by kernel_rfl
theorem three_told {i k : Nat} (hi : i < 13) (hk : k < 13) : ∃ a b x y z, parseR (threeB i k) = ([a, b, x, y, z], (parseR (threeB i k)).2.1, 0) ∧
    ((rowK (k + 1) > rowK (i + 1) ∧ y.op = k + 1 ∧ z.op = i + 1 ∧ x.kind = 2) ∨ (¬ rowK (k + 1) > rowK (i + 1) ∧ x.op = i + 1 ∧ z.op = k + 1 ∧ y.kind = 2)) := by
  have h := List.all_eq_true.1 (List.all_eq_true.1 three_all i (List.mem_range.2 hi)) k (List.mem_range.2 hk)
  unfold three_ok at h
  generalize parseR (threeB i k) = r at h ⊢
  obtain ⟨ns, at_, why⟩ := r
  simp only [Bool.and_eq_true, decide_eq_true_eq] at h
  obtain ⟨⟨h1, h2⟩, h3⟩ := h
  match ns, h2 with
  | [a, b, x, y, z], _ =>
    refine ⟨a, b, x, y, z, by rw [h1], ?_⟩
    split at h3
    · rename_i hr
      simp only [Bool.and_eq_true, decide_eq_true_eq] at h3
      exact .inl ⟨hr, h3.1.1, h3.1.2, h3.2⟩
    · rename_i hr
      simp only [Bool.and_eq_true, decide_eq_true_eq] at h3
      exact .inr ⟨hr, h3.1.1, h3.1.2, h3.2⟩
end Go.Proofs.Ytdikmklijpcjdaa
