/- TypesJoins: whatever the arguments the law hands back true, and nothing that was there has turned. No condition. -/
import Derived.Test.YtmhfeeomlpdnkaaRows
import Derived.Test.YtmhfeeomlpdnkaaTypesJoins
import Derived.Test.YtmhfeeomlpdnkaaOpenNods
import Derived.Lib.SmallJoins
namespace Go.Proofs.Ytmhfeeomlpdnkaa
open Go.ChangeShapes Go.WideShapes Go.ChangeAt Go.RowKit
open Go.ChangeMaps (open_string)
open Go.Joins (open_agg4)

theorem typesJoins_contract {H : Type} {enc : TypeId × Value → H} (W : World) (args : Array Value) (h : GotAll enc Try.prog W [22, 22, 3] args.toList) :
    Calls Try.prog 5 args W fun e W' => e = .returned (.bool true) ∧ Below W.heap.size W W' := by
  obtain ⟨v1, v2, v3, rfl, ⟨d1, g1, f1, b1, w1⟩, ⟨d2, g2, f2, b2, w2⟩, ⟨d3, g3, f3, b3, w3⟩⟩ := gotAll_three h
  obtain ⟨a1, n1, c1, rfl⟩ := okWide_slice Try.underlying22 w1
  obtain ⟨A1, c1', ss1, hv1, _, _, q13, q14, q15⟩ := got_nods g1 f1
  rw [hv1]
  obtain ⟨a2, n2, c2, rfl⟩ := okWide_slice Try.underlying22 w2
  obtain ⟨A2, c2', ss2, hv2, _, _, q23, q24, q25⟩ := got_nods g2 f2
  rw [hv2]
  obtain ⟨u3, rfl⟩ := okWide_int Try.underlying3 w3
  have hr : reachBytes ≤ 140737488355328 := by decide +kernel
  exact typesJoins_any ss1 ss2 u3 A1 A2 ss1.length c1' ss2.length c2' W.heap.size W q14 q24 rfl rfl (Nat.le_refl _) (by omega) (by omega) (fun x hx => (q15 x hx).1) (fun x hx => (q25 x hx).1)
    (fun x hx => ⟨by have := (q15 x hx).2.1; omega, by have := (q15 x hx).2.2; omega⟩) (fun x hx => ⟨by have := (q25 x hx).2.1; omega, by have := (q25 x hx).2.2; omega⟩)

set_option maxRecDepth 100000 in
theorem typesJoins_lifted (os : Os) (started : os.Started) (H : Type) (enc : TypeId × Value → H) :
    ReturnsInHanded {} Try.checked os 5 .any (Rows.typesJoinsSpec.pre6 enc Try.prog Try.f5 Rows.typesJoinsRow.domain false) (Rows.typesJoinsSpec.post enc Try.prog Try.f5 false true false false) :=
  law_lifted (C := Try.checked) Try.own started (by kernel_rfl) Try.func5
    (ChangeSpec.witness6 (enc := enc) (C := Try.checked) false ⟨#[], #[.slice none 0 0, .slice none 0 0, .int .i64 0], []⟩ 8 (by kernel_rfl) (by kernel_rfl) (by kernel_rfl) (by kernel_rfl))
    Try.laidOut (by rw [Try.params5]; intro t ht; simp at ht; rcases ht with rfl | rfl <;> exact ⟨by kernel_rfl, of_decide_eq_true (by kernel_rfl)⟩) rfl (by kernel_rfl) Try.underlying4
    (by rw [Try.params5]; intro ds hd; match ds, hd with | [_, _, _], _ => rfl)
    (fun W args h => typesJoins_contract (enc := enc) W args (by rw [Try.params5] at h; exact h))

theorem typesJoins_holds : Rows.TypesJoinsSaid :=
  OpenClaim.holds_of_wide 5 Try.f5 rfl rfl rfl rfl rfl rfl rfl ⟨rfl, rfl, rfl, rfl, rfl⟩ rfl rfl rfl rfl rfl (by kernel_rfl) Try.func5 (by kernel_rfl)
    (of_decide_eq_true (by kernel_rfl)) (by unfold Func.isWrapper; first | (rw [if_pos (by decide +kernel)]; kernel_rfl) | (rw [if_neg (by decide +kernel)]; exact ⟨rfl, rfl⟩))
    (fun os started H enc _ => typesJoins_lifted os started H enc)
end Go.Proofs.Ytmhfeeomlpdnkaa
