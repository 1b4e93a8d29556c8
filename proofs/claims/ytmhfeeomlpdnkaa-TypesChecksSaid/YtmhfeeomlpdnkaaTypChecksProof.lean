/- TypesChecks: for every row of a tree's pieces the law hands back true, and nothing that was there has turned. No condition. -/
import Derived.Test.YtmhfeeomlpdnkaaRows
import Derived.Test.YtmhfeeomlpdnkaaTypesChecks
import Derived.Test.YtmhfeeomlpdnkaaOpenNods
import Derived.Lib.SmallJoins
namespace Go.Proofs.Ytmhfeeomlpdnkaa
open Go.ChangeShapes Go.WideShapes Go.ChangeAt Go.RowKit
open Go.ChangeMaps (open_string)
open Go.Joins (open_agg4)

theorem typesChecks_contract {H : Type} {enc : TypeId × Value → H} (W : World) (args : Array Value) (h : GotAll enc Try.prog W [22] args.toList) :
    Calls Try.prog 3 args W fun e W' => e = .returned (.bool true) ∧ Below W.heap.size W W' := by
  obtain ⟨v1, rfl, ⟨d1, g1, f1, b1, w1⟩⟩ := gotAll_one h
  obtain ⟨a, n, c, rfl⟩ := okWide_slice Try.underlying22 w1
  obtain ⟨A, c', ss, hv, q1, q2, q3, q4, q5⟩ := got_nods g1 f1
  rw [hv]
  have hr : reachBytes ≤ 140737488355328 := by decide +kernel
  exact typesChecks_any ss A ss.length c' W.heap.size W q4 rfl (Nat.le_refl _) (by omega) (fun x hx => (q5 x hx).1) (fun x hx => ⟨by have := (q5 x hx).2.1; omega, by have := (q5 x hx).2.2; omega⟩)

set_option maxRecDepth 100000 in
theorem typesChecks_lifted (os : Os) (started : os.Started) (H : Type) (enc : TypeId × Value → H) :
    ReturnsInHanded {} Try.checked os 3 .any (Rows.typesChecksSpec.pre6 enc Try.prog Try.f3 Rows.typesChecksRow.domain false) (Rows.typesChecksSpec.post enc Try.prog Try.f3 false true false false) :=
  law_lifted (C := Try.checked) Try.own started (by kernel_rfl) Try.func3
    (ChangeSpec.witness6 (enc := enc) (C := Try.checked) false ⟨#[], #[.slice none 0 0], []⟩ 8 (by kernel_rfl) (by kernel_rfl) (by kernel_rfl) (by kernel_rfl))
    Try.laidOut (by rw [Try.params3]; intro t ht; simp at ht; subst ht; exact ⟨by kernel_rfl, of_decide_eq_true (by kernel_rfl)⟩) rfl (by kernel_rfl) Try.underlying4
    (by rw [Try.params3]; intro ds hd; match ds, hd with | [_], _ => rfl)
    (fun W args h => typesChecks_contract (enc := enc) W args (by rw [Try.params3] at h; exact h))

theorem typesChecks_holds : Rows.TypesChecksSaid :=
  OpenClaim.holds_of_wide 3 Try.f3 rfl rfl rfl rfl rfl rfl rfl ⟨rfl, rfl, rfl, rfl, rfl⟩ rfl rfl rfl rfl rfl (by kernel_rfl) Try.func3 (by kernel_rfl)
    (of_decide_eq_true (by kernel_rfl)) (by unfold Func.isWrapper; first | (rw [if_pos (by decide +kernel)]; kernel_rfl) | (rw [if_neg (by decide +kernel)]; exact ⟨rfl, rfl⟩))
    (fun os started H enc _ => typesChecks_lifted os started H enc)
end Go.Proofs.Ytmhfeeomlpdnkaa
