/- TypesSources: whatever the arguments, the law hands back true, and nothing that was there has turned. No condition. -/
import Derived.Test.YtmhfeeomlpdnkaaTypesSources
import Derived.Test.YtmhfeeomlpdnkaaOpen2
import Derived.Lib.SmallJoins
namespace Go.Proofs.Ytmhfeeomlpdnkaa
open Go.ChangeShapes Go.WideShapes Go.ChangeAt Go.RowKit

set_option maxRecDepth 100000 in
theorem typesSources_contract {H : Type} {enc : TypeId × Value → H} (W : World) (args : Array Value) (h : GotAll enc Try.prog W [9] args.toList) :
    Calls Try.prog 6 args W fun e W' => e = .returned (.bool true) ∧ Below W.heap.size W W' := by
  obtain ⟨v0, rfl, ⟨d0, g0, f0, b0, w0⟩⟩ := gotAll_one h
  obtain ⟨s0, rfl⟩ := okWide_string Try.underlying9 w0
  obtain ⟨_, hs0, hm0⟩ := got_stringF Try.underlying9 g0 f0
  injection hs0 with hs0
  subst hs0
  exact typesSources_any s0 W (le_reach hm0)

set_option maxRecDepth 100000 in
theorem typesSources_lifted (os : Os) (started : os.Started) (H : Type) (enc : TypeId × Value → H) :
    ReturnsInHanded {} Try.checked os 6 .any (Rows.typesSourcesSpec.pre6 enc Try.prog Try.f6 Rows.typesSourcesRow.domain false) (Rows.typesSourcesSpec.post enc Try.prog Try.f6 false true false false) :=
  law_lifted (C := Try.checked) Try.own started (by kernel_rfl) Try.func6
    (ChangeSpec.witness6 (enc := enc) (C := Try.checked) false ⟨#[], #[.string ByteArray.empty], []⟩ 8 (by kernel_rfl) (by kernel_rfl) (by kernel_rfl) (by kernel_rfl))
    Try.laidOut (by
                have hall : (Try.f6.params.toList.all fun u => Try.prog.readableRec u && decide (u < Try.prog.types.size)) = true := by kernel_rfl
                intro t ht
                have h2 := List.all_eq_true.1 hall t ht
                rw [Bool.and_eq_true] at h2
                exact ⟨h2.1, of_decide_eq_true h2.2⟩) rfl (by kernel_rfl) Try.underlying4
    (by rw [Try.params6]; intro ds hd; match ds, hd with | [_], _ => rfl)
    (fun W args h => typesSources_contract (enc := enc) W args (by rw [Try.params6] at h; exact h))

theorem typesSources_holds : Rows.TypesSourcesSaid :=
  OpenClaim.holds_of_wide 6 Try.f6 rfl rfl rfl rfl rfl rfl rfl ⟨rfl, rfl, rfl, rfl, rfl⟩ rfl rfl rfl rfl rfl (by kernel_rfl) Try.func6 (by kernel_rfl)
    (of_decide_eq_true (by kernel_rfl)) (by unfold Func.isWrapper; first | (rw [if_pos (by decide +kernel)]; kernel_rfl) | (rw [if_neg (by decide +kernel)]; exact ⟨rfl, rfl⟩))
    (fun os started H enc _ => typesSources_lifted os started H enc)
end Go.Proofs.Ytmhfeeomlpdnkaa
