/- LimitsParts: for all samples, limits, every sample and number the law hands back true, and nothing that was there has turned. No condition. -/
import Derived.Test.YtpoefknaaohmhaaRows
import Derived.Test.YtpoefknaaohmhaaLimParts
import Derived.Test.YtpoefknaaohmhaaOpenLim
import Derived.Lib.SmallJoins
namespace Go.Proofs.Ytpoefknaaohmhaa
open Go.ChangeShapes Go.WideShapes Go.ChangeAt Go.RowKit
open Go.ChangeMaps (open_string)
open Go.Joins (open_agg4)

theorem limitsParts_contract {H : Type} {enc : TypeId × Value → H} (W : World) (args : Array Value) (h : GotAll enc Try.prog W [22, 24, 37, 3] args.toList) :
    Calls Try.prog 4 args W fun e W' => e = .returned (.bool true) ∧ Below W.heap.size W W' := by
  obtain ⟨v0, v1, v2, v3, rfl, ⟨d0, g0, f0, b0, w0⟩, ⟨d1, g1, f1, b1, w1⟩, ⟨d2, g2, f2, b2, w2⟩, ⟨d3, g3, f3, b3, w3⟩⟩ := gotAll_four h
  obtain ⟨a, n, c, rfl⟩ := okWide_slice Try.underlying22 w0
  obtain ⟨A, c', ss, hv, q1, q2, q3, q4, q5⟩ := got_samps g0 f0
  rw [hv]
  obtain ⟨se, L, P, ha, rfl⟩ := got_limits w1 g1 f1
  obtain ⟨s, Ab, cb, rfl, r1, r2, r3, r4⟩ := got_sampV w2 g2 f2
  obtain ⟨u, rfl⟩ := okWide_int Try.underlying3 w3
  have hr : reachBytes ≤ 140737488355328 := by decide +kernel
  exact limitsParts_any ss s A Ab ss.length c' cb W.heap.size se L P ha u W q4 rfl q1 (Nat.le_refl _) (fun x hx => (q5 x hx).1) r1 r2 r3 r4.1 (by omega) (fun x hx => by have := (q5 x hx).2.1; omega)

set_option maxRecDepth 100000 in
theorem limitsParts_lifted (os : Os) (started : os.Started) (H : Type) (enc : TypeId × Value → H) :
    ReturnsInHanded {} Try.checked os 4 .any (Rows.limitsPartsSpec.pre6 enc Try.prog Try.f4 Rows.limitsPartsRow.domain false) (Rows.limitsPartsSpec.post enc Try.prog Try.f4 false true false false) :=
  law_lifted (C := Try.checked) Try.own started (by kernel_rfl) Try.func4
    (ChangeSpec.witness6 (enc := enc) (C := Try.checked) false ⟨#[], #[.slice none 0 0, .agg #[.int .i64 0, .int .i64 0, .int .i64 0, .bool false], .agg #[.slice none 0 0, .int .i64 0, .int .u64 0], .int .i64 0], []⟩ 8 (by kernel_rfl) (by kernel_rfl) (by kernel_rfl) (by kernel_rfl))
    Try.laidOut (by rw [Try.params4]; intro t ht; simp at ht; rcases ht with rfl | rfl | rfl | rfl <;> exact ⟨by kernel_rfl, of_decide_eq_true (by kernel_rfl)⟩) rfl (by kernel_rfl) Try.underlying4
    (by rw [Try.params4]; intro ds hd; match ds, hd with | [_, _, _, _], _ => rfl)
    (fun W args h => limitsParts_contract (enc := enc) W args (by rw [Try.params4] at h; exact h))

theorem limitsParts_holds : Rows.LimitsPartsSaid :=
  OpenClaim.holds_of_wide 4 Try.f4 rfl rfl rfl rfl rfl rfl rfl ⟨rfl, rfl, rfl, rfl, rfl⟩ rfl rfl rfl rfl rfl (by kernel_rfl) Try.func4 (by kernel_rfl)
    (of_decide_eq_true (by kernel_rfl)) (by unfold Func.isWrapper; first | (rw [if_pos (by decide +kernel)]; kernel_rfl) | (rw [if_neg (by decide +kernel)]; exact ⟨rfl, rfl⟩))
    (fun os started H enc _ => limitsParts_lifted os started H enc)
end Go.Proofs.Ytpoefknaaohmhaa
