/- ParseSelects: whatever the arguments, the law hands back true, and nothing that was there has turned. No condition. -/
import Derived.Test.YtdikmklijpcjdaaParseSelects
import Derived.Test.YtdikmklijpcjdaaOpen2
import Derived.Lib.SmallJoins
namespace Go.Proofs.Ytdikmklijpcjdaa
open Go.ChangeShapes Go.WideShapes Go.ChangeAt Go.RowKit

set_option maxRecDepth 100000 in
theorem parseSelects_contract {H : Type} {enc : TypeId × Value → H} (W : World) (args : Array Value) (h : GotAll enc Try.prog W [9, 9, 3, 3, 3] args.toList) :
    Calls Try.prog 8 args W fun e W' => e = .returned (.bool true) ∧ Below W.heap.size W W' := by
  obtain ⟨args⟩ := args
  obtain ⟨v0, v1, v2, v3, v4, rfl, ⟨d0, g0, f0, b0, w0⟩, ⟨d1, g1, f1, b1, w1⟩, ⟨d2, g2, f2, b2, w2⟩, ⟨d3, g3, f3, b3, w3⟩, ⟨d4, g4, f4, b4, w4⟩⟩ : ∃ v0 v1 v2 v3 v4, args = [v0, v1, v2, v3, v4] ∧ (∃ d, Got enc Try.prog W 9 v0.cells.toList d ∧ Fits Try.prog 9 d ∧ ∃ base, Value.okWide Try.prog W .any base 9 v0) ∧ (∃ d, Got enc Try.prog W 9 v1.cells.toList d ∧ Fits Try.prog 9 d ∧ ∃ base, Value.okWide Try.prog W .any base 9 v1) ∧ (∃ d, Got enc Try.prog W 3 v2.cells.toList d ∧ Fits Try.prog 3 d ∧ ∃ base, Value.okWide Try.prog W .any base 3 v2) ∧ (∃ d, Got enc Try.prog W 3 v3.cells.toList d ∧ Fits Try.prog 3 d ∧ ∃ base, Value.okWide Try.prog W .any base 3 v3) ∧ (∃ d, Got enc Try.prog W 3 v4.cells.toList d ∧ Fits Try.prog 3 d ∧ ∃ base, Value.okWide Try.prog W .any base 3 v4) := by
    match args, h with
    | [v0, v1, v2, v3, v4], ⟨h0, h1, h2, h3, h4, _⟩ => exact ⟨v0, v1, v2, v3, v4, rfl, h0, h1, h2, h3, h4⟩
  obtain ⟨s0, rfl⟩ := okWide_string Try.underlying9 w0
  obtain ⟨_, hs0, hm0⟩ := got_stringF Try.underlying9 g0 f0
  injection hs0 with hs0
  subst hs0
  obtain ⟨s1, rfl⟩ := okWide_string Try.underlying9 w1
  obtain ⟨_, hs1, hm1⟩ := got_stringF Try.underlying9 g1 f1
  injection hs1 with hs1
  subst hs1
  obtain ⟨u2, rfl⟩ := okWide_int Try.underlying3 w2
  obtain ⟨u2', hu2, hw2⟩ := got_int Try.underlying3 g2
  injection hu2 with _ hu2
  subst hu2
  obtain ⟨u3, rfl⟩ := okWide_int Try.underlying3 w3
  obtain ⟨u3', hu3, hw3⟩ := got_int Try.underlying3 g3
  injection hu3 with _ hu3
  subst hu3
  obtain ⟨u4, rfl⟩ := okWide_int Try.underlying3 w4
  obtain ⟨u4', hu4, hw4⟩ := got_int Try.underlying3 g4
  injection hu4 with _ hu4
  subst hu4
  exact parseSelects_any s0 s1 u2 u3 u4 W (le_reach hm0) (le_reach hm1)

set_option maxRecDepth 100000 in
theorem parseSelects_lifted (os : Os) (started : os.Started) (H : Type) (enc : TypeId × Value → H) :
    ReturnsInHanded {} Try.checked os 8 .any (Rows.parseSelectsSpec.pre6 enc Try.prog Try.f8 Rows.parseSelectsRow.domain false) (Rows.parseSelectsSpec.post enc Try.prog Try.f8 false true false false) :=
  law_lifted (C := Try.checked) Try.own started (by kernel_rfl) Try.func8
    (ChangeSpec.witness6 (enc := enc) (C := Try.checked) false ⟨#[], #[.string ByteArray.empty, .string ByteArray.empty, .int .i64 0, .int .i64 0, .int .i64 0], []⟩ 8 (by kernel_rfl) (by kernel_rfl) (by kernel_rfl) (by kernel_rfl))
    Try.laidOut (by
                have hall : (Try.f8.params.toList.all fun u => Try.prog.readableRec u && decide (u < Try.prog.types.size)) = true := by kernel_rfl
                intro t ht
                have h2 := List.all_eq_true.1 hall t ht
                rw [Bool.and_eq_true] at h2
                exact ⟨h2.1, of_decide_eq_true h2.2⟩) rfl (by kernel_rfl) Try.underlying4
    (by rw [Try.params8]; intro ds hd; match ds, hd with | [_, _, _, _, _], _ => rfl)
    (fun W args h => parseSelects_contract (enc := enc) W args (by rw [Try.params8] at h; exact h))

theorem parseSelects_holds : Rows.ParseSelectsSaid :=
  OpenClaim.holds_of_wide 8 Try.f8 rfl rfl rfl rfl rfl rfl rfl ⟨rfl, rfl, rfl, rfl, rfl⟩ rfl rfl rfl rfl rfl (by kernel_rfl) Try.func8 (by kernel_rfl)
    (of_decide_eq_true (by kernel_rfl)) (by unfold Func.isWrapper; first | (rw [if_pos (by decide +kernel)]; kernel_rfl) | (rw [if_neg (by decide +kernel)]; exact ⟨rfl, rfl⟩))
    (fun os started H enc _ => parseSelects_lifted os started H enc)
end Go.Proofs.Ytdikmklijpcjdaa
