/- ParseTrees: whatever the arguments, the law hands back true, and nothing that was there has turned. No condition. -/
import Derived.Test.YtdikmklijpcjdaaParseTrees
import Derived.Test.YtdikmklijpcjdaaOpen2
import Derived.Lib.SmallJoins
namespace Go.Proofs.Ytdikmklijpcjdaa
open Go.ChangeShapes Go.WideShapes Go.ChangeAt Go.RowKit

set_option maxRecDepth 100000 in
theorem parseTrees_contract {H : Type} {enc : TypeId × Value → H} (W : World) (args : Array Value) (h : GotAll enc Try.prog W [9] args.toList) :
    Calls Try.prog 3 args W fun e W' => e = .returned (.bool true) ∧ Below W.heap.size W W' := by
  obtain ⟨v0, rfl, ⟨d0, g0, f0, b0, w0⟩⟩ := gotAll_one h
  obtain ⟨s0, rfl⟩ := okWide_string Try.underlying9 w0
  obtain ⟨_, hs0, hm0⟩ := got_stringF Try.underlying9 g0 f0
  injection hs0 with hs0
  subst hs0
  exact parseTrees_any s0 W (le_reach hm0)

set_option maxRecDepth 100000 in
theorem parseTrees_lifted (os : Os) (started : os.Started) (H : Type) (enc : TypeId × Value → H) :
    ReturnsInHanded {} Try.checked os 3 .any (Rows.parseTreesSpec.pre6 enc Try.prog Try.f3 Rows.parseTreesRow.domain false) (Rows.parseTreesSpec.post enc Try.prog Try.f3 false true false false) :=
  law_lifted (C := Try.checked) Try.own started (by kernel_rfl) Try.func3
    (ChangeSpec.witness6 (enc := enc) (C := Try.checked) false ⟨#[], #[.string ByteArray.empty], []⟩ 8 (by kernel_rfl) (by kernel_rfl) (by kernel_rfl) (by kernel_rfl))
    Try.laidOut (by
                have hall : (Try.f3.params.toList.all fun u => Try.prog.readableRec u && decide (u < Try.prog.types.size)) = true := by kernel_rfl
                intro t ht
                have h2 := List.all_eq_true.1 hall t ht
                rw [Bool.and_eq_true] at h2
                exact ⟨h2.1, of_decide_eq_true h2.2⟩) rfl (by kernel_rfl) Try.underlying4
    (by rw [Try.params3]; intro ds hd; match ds, hd with | [_], _ => rfl)
    (fun W args h => parseTrees_contract (enc := enc) W args (by rw [Try.params3] at h; exact h))

theorem parseTrees_holds : Rows.ParseTreesSaid :=
  OpenClaim.holds_of_wide 3 Try.f3 rfl rfl rfl rfl rfl rfl rfl ⟨rfl, rfl, rfl, rfl, rfl⟩ rfl rfl rfl rfl rfl (by kernel_rfl) Try.func3 (by kernel_rfl)
    (of_decide_eq_true (by kernel_rfl)) (by unfold Func.isWrapper; first | (rw [if_pos (by decide +kernel)]; kernel_rfl) | (rw [if_neg (by decide +kernel)]; exact ⟨rfl, rfl⟩))
    (fun os started H enc _ => parseTrees_lifted os started H enc)
end Go.Proofs.Ytdikmklijpcjdaa
