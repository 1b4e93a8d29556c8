/- Limits and samples by value, opened. -/
import Derived.Test.YtpoefknaaohmhaaOpenSamps
import Derived.Test.YtpoefknaaohmhaaRows
import Derived.Lib.SmallJoins
namespace Go.Proofs.Ytpoefknaaohmhaa
open Go.ChangeShapes Go.WideShapes Go.ChangeAt Go.RowKit
open Go.Joins (open_agg4)

theorem Try.own : ownKnob Try.prog.godebug = none := by kernel_rfl
theorem Try.laidOut : laidOutB Try.prog = true := by kernel_rfl

theorem got_limits {H : Type} {enc : TypeId × Value → H} {w : World} {base : Nat} {v : Value} {d : DataW H} (hv : Value.okWide Try.prog w .any base 24 v) (h : Got enc Try.prog w 24 v.cells.toList d) (hf : Fits Try.prog 24 d) :
    ∃ (se L P : Int) (ha : Bool), v = .agg #[.int .i64 se, .int .i64 L, .int .i64 P, .bool ha] := by
  obtain ⟨cs, rfl, _⟩ := okWide_struct Try.underlying24 hv
  obtain ⟨hl, hat⟩ := got_fields Try.underlying24 (by kernel_rfl) (by kernel_rfl) h hf
  obtain ⟨v0, d0, h0, g0, _⟩ := hat 0 _ rfl
  obtain ⟨v1, d1, h1, g1, _⟩ := hat 1 _ rfl
  obtain ⟨v2, d2, h2, g2, _⟩ := hat 2 _ rfl
  obtain ⟨v3, d3, h3, g3, _⟩ := hat 3 _ rfl
  obtain ⟨se, rfl, _⟩ := got_int Try.underlying3 g0
  obtain ⟨L, rfl, _⟩ := got_int Try.underlying3 g1
  obtain ⟨P, rfl, _⟩ := got_int Try.underlying3 g2
  obtain ⟨ha, rfl⟩ := got_bool Try.underlying4 g3
  refine ⟨se, L, P, ha, ?_⟩
  obtain ⟨l⟩ := cs
  match l, hl with
  | [a, b, c, e], _ =>
    simp [Value.cells] at h0 h1 h2 h3
    subst h0 h1 h2 h3
    rfl
theorem got_sampV {H : Type} {enc : TypeId × Value → H} {w : World} {base : Nat} {v : Value} {d : DataW H} (hv : Value.okWide Try.prog w .any base 37 v) (h : Got enc Try.prog w 37 v.cells.toList d) (hf : Fits Try.prog 37 d) :
    ∃ (s : Samp) (A : Option Addr) (c : Nat), v = .agg #[.slice A s.ls.length c, .int .i64 s.t, .int .u64 s.v] ∧ Rd w w.heap.size 2 A (labsC s.ls) ∧ s.ls.length ≤ c ∧ c ≤ maxLen ∧ okSamp s := by
  obtain ⟨cs, rfl, _⟩ := okWide_struct Try.underlying37 hv
  obtain ⟨s, ⟨A, c, hx, hr, h1, h2⟩, ok⟩ := got_samp h hf
  refine ⟨s, A, c, ?_, hr, h1, h2, ok⟩
  obtain ⟨l⟩ := cs
  simp [Value.cells] at hx
  rw [hx]
end Go.Proofs.Ytpoefknaaohmhaa
