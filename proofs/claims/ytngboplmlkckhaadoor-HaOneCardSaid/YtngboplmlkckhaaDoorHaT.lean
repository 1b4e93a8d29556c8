/- ha: what the row's list of variables gives: the table of the powers of ten. -/
import Derived.Test.YtngboplmlkckhaaDoorFmtU
import Derived.Test.YtngboplmlkckhaaDoorFrameC
namespace Go.Proofs.YtngboplmlkckhaaDoor
open Go.ChangeShapes Go.WideShapes Go.ChangeAt Go.RowKit

theorem tab10_of {W : World} (h : laidMetH Tryd.prog Rows.haKeysRow.laid W) : Tab10 W := by
  have h1 : laidMet Tryd.prog [("internal/strconv.uint64pow10", Rows.laid_internal_strconv_uint64pow10)] W := laidMet.tail (laidMet.tail h)
  exact Lib.tabIs_of_head (rest := []) (g := 0) (by kernel_rfl) (by kernel_rfl : _ = some 78) Tryd.underlying78 Tryd.underlying50 (by kernel_rfl) (by kernel_rfl) h1
theorem got_ldr {H : Type} {enc : TypeId × Value → H} {w : World} {base : Nat} {v : Value} {d : DataW H} (hv : Value.okWide Tryd.prog w .any base 23 v) (h : Got enc Tryd.prog w 23 v.cells.toList d) (hf : Fits Tryd.prog 23 d) :
    ∃ (r : ByteArray) (t : Int), v = .agg #[.string r, .int .i64 t] ∧ r.size ≤ reachBytes ∧ (Lit.int .i64 t).wf = true := by
  obtain ⟨cs, rfl, _⟩ := okWide_struct Tryd.underlying23 hv
  obtain ⟨hl, hat⟩ := got_fields Tryd.underlying23 (by kernel_rfl) (by kernel_rfl) h hf
  obtain ⟨v0, d0, h0, g0, f0⟩ := hat 0 _ rfl
  obtain ⟨v1, d1, h1, g1, _⟩ := hat 1 _ rfl
  obtain ⟨r, rfl, hr⟩ := got_stringF Tryd.underlying9 g0 f0
  obtain ⟨t, rfl, ht⟩ := got_int Tryd.underlying2 g1
  refine ⟨r, t, ?_, hr, ht⟩
  obtain ⟨l⟩ := cs
  match l, hl with
  | [a, b], _ =>
    simp [Value.cells] at h0 h1
    subst h0 h1
    rfl
end Go.Proofs.YtngboplmlkckhaaDoor
