/- ParseBins: whatever the arguments, the law hands back true, and nothing that was there has turned. No condition. -/
import Derived.Test.YtdikmklijpcjdaaParseBins
import Derived.Test.YtdikmklijpcjdaaOpen2
import Derived.Lib.SmallJoins
namespace Go.Proofs.Ytdikmklijpcjdaa
open Go.ChangeShapes Go.WideShapes Go.ChangeAt Go.RowKit

set_option maxRecDepth 100000 in
theorem parseBins_contract {H : Type} {enc : TypeId × Value → H} (W : World) (args : Array Value) (h : GotAll enc Try.prog W [9, 9, 3, 4] args.toList) :
    Calls Try.prog 6 args W fun e W' => e = .returned (.bool true) ∧ Below W.heap.size W W' := by
  obtain ⟨v0, v1, v2, v3, rfl, ⟨d0, g0, f0, b0, w0⟩, ⟨d1, g1, f1, b1, w1⟩, ⟨d2, g2, f2, b2, w2⟩, ⟨d3, g3, f3, b3, w3⟩⟩ := gotAll_four h
  obtain ⟨s0, rfl⟩ := okWide_string Try.underlying9 w0
  obtain ⟨_, hs0, hm0⟩ := got_stringF Try.underlying9 g0 f0
  injection hs0 with hs0
  subst hs0
  obtain ⟨s1, rfl⟩ := okWide_string Try.underlying9 w1
  obtain ⟨_, hs1, hm1⟩ := got_stringF Try.underlying9 g1 f1
  injection hs1 with hs1
  subst hs1
  obtain ⟨u2, rfl⟩ := okWide_int Try.underlying3 w2
  obtain ⟨u2', hu2, hw2⟩ := got_int Try.underlying3 g2
  injection hu2 with _ hu2
  subst hu2
  obtain ⟨s3, rfl⟩ := okWide_bool Try.underlying4 w3
  exact parseBins_any s0 s1 u2 s3 W (le_reach hm0) (le_reach hm1)

set_option maxRecDepth 100000 in
theorem parseBins_lifted (os : Os) (started : os.Started) (H : Type) (enc : TypeId × Value → H) :
    ReturnsInHanded {} Try.checked os 6 .any (Rows.parseBinsSpec.pre6 enc Try.prog Try.f6 Rows.parseBinsRow.domain false) (Rows.parseBinsSpec.post enc Try.prog Try.f6 false true false false) :=
  law_lifted (C := Try.checked) Try.own started (by kernel_rfl) Try.func6
    (ChangeSpec.witness6 (enc := enc) (C := Try.checked) false ⟨#[], #[.string ByteArray.empty, .string ByteArray.empty, .int .i64 0, .bool false], []⟩ 8 (by kernel_rfl) (by kernel_rfl) (by kernel_rfl) (by kernel_rfl))
    Try.laidOut (by
                have hall : (Try.f6.params.toList.all fun u => Try.prog.readableRec u && decide (u < Try.prog.types.size)) = true := by kernel_rfl
                intro t ht
                have h2 := List.all_eq_true.1 hall t ht
                rw [Bool.and_eq_true] at h2
                exact ⟨h2.1, of_decide_eq_true h2.2⟩) rfl (by kernel_rfl) Try.underlying4
    (by rw [Try.params6]; intro ds hd; match ds, hd with | [_, _, _, _], _ => rfl)
    (fun W args h => parseBins_contract (enc := enc) W args (by rw [Try.params6] at h; exact h))

theorem parseBins_holds : Rows.ParseBinsSaid :=
  OpenClaim.holds_of_wide 6 Try.f6 rfl rfl rfl rfl rfl rfl rfl ⟨rfl, rfl, rfl, rfl, rfl⟩ rfl rfl rfl rfl rfl (by kernel_rfl) Try.func6 (by kernel_rfl)
    (of_decide_eq_true (by kernel_rfl)) (by unfold Func.isWrapper; first | (rw [if_pos (by decide +kernel)]; kernel_rfl) | (rw [if_neg (by decide +kernel)]; exact ⟨rfl, rfl⟩))
    (fun os started H enc _ => parseBins_lifted os started H enc)
end Go.Proofs.Ytdikmklijpcjdaa
