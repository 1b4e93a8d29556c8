/- ParseRows: whatever the arguments, the law hands back true, and nothing that was there has turned. No condition. -/
import Derived.Test.YtdikmklijpcjdaaParseRows
import Derived.Test.YtdikmklijpcjdaaOpen2
import Derived.Lib.SmallJoins
namespace Go.Proofs.Ytdikmklijpcjdaa
open Go.ChangeShapes Go.WideShapes Go.ChangeAt Go.RowKit

set_option maxRecDepth 100000 in
theorem parseRows_contract {H : Type} {enc : TypeId × Value → H} (W : World) (args : Array Value) (h : GotAll enc Try.prog W [3, 3] args.toList) :
    Calls Try.prog 7 args W fun e W' => e = .returned (.bool true) ∧ Below W.heap.size W W' := by
  obtain ⟨v0, v1, rfl, ⟨d0, g0, f0, b0, w0⟩, ⟨d1, g1, f1, b1, w1⟩⟩ := gotAll_two h
  obtain ⟨u0, rfl⟩ := okWide_int Try.underlying3 w0
  obtain ⟨u0', hu0, hw0⟩ := got_int Try.underlying3 g0
  injection hu0 with _ hu0
  subst hu0
  obtain ⟨u1, rfl⟩ := okWide_int Try.underlying3 w1
  obtain ⟨u1', hu1, hw1⟩ := got_int Try.underlying3 g1
  injection hu1 with _ hu1
  subst hu1
  exact parseRows_any u0 u1 W

set_option maxRecDepth 100000 in
theorem parseRows_lifted (os : Os) (started : os.Started) (H : Type) (enc : TypeId × Value → H) :
    ReturnsInHanded {} Try.checked os 7 .any (Rows.parseRowsSpec.pre6 enc Try.prog Try.f7 Rows.parseRowsRow.domain false) (Rows.parseRowsSpec.post enc Try.prog Try.f7 false true false false) :=
  law_lifted (C := Try.checked) Try.own started (by kernel_rfl) Try.func7
    (ChangeSpec.witness6 (enc := enc) (C := Try.checked) false ⟨#[], #[.int .i64 0, .int .i64 0], []⟩ 8 (by kernel_rfl) (by kernel_rfl) (by kernel_rfl) (by kernel_rfl))
    Try.laidOut (by
                have hall : (Try.f7.params.toList.all fun u => Try.prog.readableRec u && decide (u < Try.prog.types.size)) = true := by kernel_rfl
                intro t ht
                have h2 := List.all_eq_true.1 hall t ht
                rw [Bool.and_eq_true] at h2
                exact ⟨h2.1, of_decide_eq_true h2.2⟩) rfl (by kernel_rfl) Try.underlying4
    (by rw [Try.params7]; intro ds hd; match ds, hd with | [_, _], _ => rfl)
    (fun W args h => parseRows_contract (enc := enc) W args (by rw [Try.params7] at h; exact h))

theorem parseRows_holds : Rows.ParseRowsSaid :=
  OpenClaim.holds_of_wide 7 Try.f7 rfl rfl rfl rfl rfl rfl rfl ⟨rfl, rfl, rfl, rfl, rfl⟩ rfl rfl rfl rfl rfl (by kernel_rfl) Try.func7 (by kernel_rfl)
    (of_decide_eq_true (by kernel_rfl)) (by unfold Func.isWrapper; first | (rw [if_pos (by decide +kernel)]; kernel_rfl) | (rw [if_neg (by decide +kernel)]; exact ⟨rfl, rfl⟩))
    (fun os started H enc _ => parseRows_lifted os started H enc)
end Go.Proofs.Ytdikmklijpcjdaa
