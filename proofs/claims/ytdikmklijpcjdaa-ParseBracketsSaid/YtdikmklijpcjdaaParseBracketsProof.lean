/- ParseBrackets: whatever the arguments, the law hands back true, and nothing that was there has turned. No condition. -/
import Derived.Test.YtdikmklijpcjdaaParseBrackets
import Derived.Test.YtdikmklijpcjdaaOpen2
import Derived.Lib.SmallJoins
namespace Go.Proofs.Ytdikmklijpcjdaa
open Go.ChangeShapes Go.WideShapes Go.ChangeAt Go.RowKit

set_option maxRecDepth 100000 in
theorem parseBrackets_contract {H : Type} {enc : TypeId × Value → H} (W : World) (args : Array Value) (h : GotAll enc Try.prog W [9, 3] args.toList) :
    Calls Try.prog 5 args W fun e W' => e = .returned (.bool true) ∧ Below W.heap.size W W' := by
  obtain ⟨v0, v1, rfl, ⟨d0, g0, f0, b0, w0⟩, ⟨d1, g1, f1, b1, w1⟩⟩ := gotAll_two h
  obtain ⟨s0, rfl⟩ := okWide_string Try.underlying9 w0
  obtain ⟨_, hs0, hm0⟩ := got_stringF Try.underlying9 g0 f0
  injection hs0 with hs0
  subst hs0
  obtain ⟨u1, rfl⟩ := okWide_int Try.underlying3 w1
  obtain ⟨u1', hu1, hw1⟩ := got_int Try.underlying3 g1
  injection hu1 with _ hu1
  subst hu1
  exact parseBrackets_any s0 u1 W (le_reach hm0)

set_option maxRecDepth 100000 in
theorem parseBrackets_lifted (os : Os) (started : os.Started) (H : Type) (enc : TypeId × Value → H) :
    ReturnsInHanded {} Try.checked os 5 .any (Rows.parseBracketsSpec.pre6 enc Try.prog Try.f5 Rows.parseBracketsRow.domain false) (Rows.parseBracketsSpec.post enc Try.prog Try.f5 false true false false) :=
  law_lifted (C := Try.checked) Try.own started (by kernel_rfl) Try.func5
    (ChangeSpec.witness6 (enc := enc) (C := Try.checked) false ⟨#[], #[.string ByteArray.empty, .int .i64 0], []⟩ 8 (by kernel_rfl) (by kernel_rfl) (by kernel_rfl) (by kernel_rfl))
    Try.laidOut (by
                have hall : (Try.f5.params.toList.all fun u => Try.prog.readableRec u && decide (u < Try.prog.types.size)) = true := by kernel_rfl
                intro t ht
                have h2 := List.all_eq_true.1 hall t ht
                rw [Bool.and_eq_true] at h2
                exact ⟨h2.1, of_decide_eq_true h2.2⟩) rfl (by kernel_rfl) Try.underlying4
    (by rw [Try.params5]; intro ds hd; match ds, hd with | [_, _], _ => rfl)
    (fun W args h => parseBrackets_contract (enc := enc) W args (by rw [Try.params5] at h; exact h))

theorem parseBrackets_holds : Rows.ParseBracketsSaid :=
  OpenClaim.holds_of_wide 5 Try.f5 rfl rfl rfl rfl rfl rfl rfl ⟨rfl, rfl, rfl, rfl, rfl⟩ rfl rfl rfl rfl rfl (by kernel_rfl) Try.func5 (by kernel_rfl)
    (of_decide_eq_true (by kernel_rfl)) (by unfold Func.isWrapper; first | (rw [if_pos (by decide +kernel)]; kernel_rfl) | (rw [if_neg (by decide +kernel)]; exact ⟨rfl, rfl⟩))
    (fun os started H enc _ => parseBrackets_lifted os started H enc)
end Go.Proofs.Ytdikmklijpcjdaa
