/- LimitsChecks: for every tenant, every list of samples, every limits and every number the law hands back true, and nothing that was there has turned. No condition. -/
import Derived.Test.YtpoefknaaohmhaaRows
import Derived.Test.YtpoefknaaohmhaaLimLaws
import Derived.Test.YtpoefknaaohmhaaOpenSamps
import Derived.Lib.SmallJoins
namespace Go.Proofs.Ytpoefknaaohmhaa
open Go.ChangeShapes Go.WideShapes Go.ChangeAt Go.RowKit
open Go.ChangeMaps (open_string)
open Go.Joins (open_agg4)

theorem Try.own : ownKnob Try.prog.godebug = none := by kernel_rfl
theorem Try.laidOut : laidOutB Try.prog = true := by kernel_rfl

theorem got_limits {H : Type} {enc : TypeId × Value → H} {w : World} {base : Nat} {v : Value} {d : DataW H} (hv : Value.okWide Try.prog w .any base 24 v) (h : Got enc Try.prog w 24 v.cells.toList d) (hf : Fits Try.prog 24 d) :
    ∃ (se L P : Int) (ha : Bool), v = .agg #[.int .i64 se, .int .i64 L, .int .i64 P, .bool ha] := by
  obtain ⟨cs, rfl, _⟩ := okWide_struct Try.underlying24 hv
  obtain ⟨hl, hat⟩ := got_fields Try.underlying24 (by kernel_rfl) (by kernel_rfl) h hf
  obtain ⟨v0, d0, h0, g0, _⟩ := hat 0 _ rfl
  obtain ⟨v1, d1, h1, g1, _⟩ := hat 1 _ rfl
  obtain ⟨v2, d2, h2, g2, _⟩ := hat 2 _ rfl
  obtain ⟨v3, d3, h3, g3, _⟩ := hat 3 _ rfl
  obtain ⟨se, rfl, _⟩ := got_int Try.underlying3 g0
  obtain ⟨L, rfl, _⟩ := got_int Try.underlying3 g1
  obtain ⟨P, rfl, _⟩ := got_int Try.underlying3 g2
  obtain ⟨ha, rfl⟩ := got_bool Try.underlying4 g3
  refine ⟨se, L, P, ha, ?_⟩
  obtain ⟨l⟩ := cs
  match l, hl with
  | [a, b, c, e], _ =>
    simp [Value.cells] at h0 h1 h2 h3
    subst h0 h1 h2 h3
    rfl
theorem limitsChecks_contract {H : Type} {enc : TypeId × Value → H} (W : World) (args : Array Value) (h : GotAll enc Try.prog W [9, 22, 24, 25] args.toList) :
    Calls Try.prog 3 args W fun e W' => e = .returned (.bool true) ∧ Below W.heap.size W W' := by
  obtain ⟨v0, v1, v2, v3, rfl, ⟨d0, g0, f0, b0, w0⟩, ⟨d1, g1, f1, b1, w1⟩, ⟨d2, g2, f2, b2, w2⟩, ⟨d3, g3, f3, b3, w3⟩⟩ := gotAll_four h
  obtain ⟨s, rfl⟩ := okWide_string Try.underlying9 w0
  obtain ⟨_, hs, hm⟩ := got_string Try.underlying9 g0
  injection hs with hs
  subst hs
  obtain ⟨a, n, c, rfl⟩ := okWide_slice Try.underlying22 w1
  obtain ⟨A, c', ss, hv, q1, q2, q3, q4, q5⟩ := got_samps g1 f1
  rw [hv]
  obtain ⟨se, L, P, ha, rfl⟩ := got_limits w2 g2 f2
  obtain ⟨u, rfl⟩ := okWide_int Try.underlying25 w3
  obtain ⟨u', hu, hw⟩ := got_int Try.underlying25 g3
  injection hu with _ hu
  subst hu
  have hb := u64_wf hw
  have hr : reachBytes ≤ 140737488355328 := by decide +kernel
  exact limitsChecks_any s ss A ss.length c' W.heap.size se L P ha u W hm q4 rfl (Nat.le_refl _) (fun x hx => (q5 x hx).1) (by omega) (fun x hx => by have := (q5 x hx).2.1; omega) hb.1 hb.2

set_option maxRecDepth 100000 in
theorem limitsChecks_lifted (os : Os) (started : os.Started) (H : Type) (enc : TypeId × Value → H) :
    ReturnsInHanded {} Try.checked os 3 .any (Rows.limitsChecksSpec.pre6 enc Try.prog Try.f3 Rows.limitsChecksRow.domain false) (Rows.limitsChecksSpec.post enc Try.prog Try.f3 false true false false) :=
  law_lifted (C := Try.checked) Try.own started (by kernel_rfl) Try.func3
    (ChangeSpec.witness6 (enc := enc) (C := Try.checked) false ⟨#[], #[.string ByteArray.empty, .slice none 0 0, .agg #[.int .i64 0, .int .i64 0, .int .i64 0, .bool false], .int .u64 0], []⟩ 8 (by kernel_rfl) (by kernel_rfl) (by kernel_rfl) (by kernel_rfl))
    Try.laidOut (by rw [Try.params3]; intro t ht; simp at ht; rcases ht with rfl | rfl | rfl | rfl <;> exact ⟨by kernel_rfl, of_decide_eq_true (by kernel_rfl)⟩) rfl (by kernel_rfl) Try.underlying4
    (by rw [Try.params3]; intro ds hd; match ds, hd with | [_, _, _, _], _ => rfl)
    (fun W args h => limitsChecks_contract (enc := enc) W args (by rw [Try.params3] at h; exact h))

theorem limitsChecks_holds : Rows.LimitsChecksSaid :=
  OpenClaim.holds_of_wide 3 Try.f3 rfl rfl rfl rfl rfl rfl rfl ⟨rfl, rfl, rfl, rfl, rfl⟩ rfl rfl rfl rfl rfl (by kernel_rfl) Try.func3 (by kernel_rfl)
    (of_decide_eq_true (by kernel_rfl)) (by unfold Func.isWrapper; first | (rw [if_pos (by decide +kernel)]; kernel_rfl) | (rw [if_neg (by decide +kernel)]; exact ⟨rfl, rfl⟩))
    (fun os started H enc _ => limitsChecks_lifted os started H enc)
end Go.Proofs.Ytpoefknaaohmhaa
