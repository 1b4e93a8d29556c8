/- A list of integers among the arguments, opened. -/
import Derived.Test.YtbnpleihhbpnlaaDoorOpen2
import Derived.Test.YtbnpleihhbpnlaaDoorSmallW
namespace Go.Proofs.YtbnpleihhbpnlaaDoor
open Go.ChangeShapes Go.WideShapes Go.ChangeAt Go.RowKit
section
variable {H : Type} {enc : TypeId × Value → H} {w : World}
theorem got_ints {v : Value} {d : DataW H} (h : Got enc Tryd.prog w 22 [v] d) (hf : Fits Tryd.prog 22 d) :
    ∃ A c, ∃ l : List Int, v = .slice A l.length c ∧ l.length ≤ c ∧ c ≤ maxLen ∧ l.length * 8 ≤ reachBytes ∧ Rd w w.heap.size 1 A (intC l) := by
  obtain ⟨A, n, c, es, hv, h1, h2, h3, h4, h5, h6⟩ := got_slice Tryd.underlying22 (by kernel_rfl : _ = 1) (by kernel_rfl : _ = 8) (by omega) h hf
  obtain ⟨l, rfl, _⟩ := list_choose (f := fun z : Int => [Value.int .i64 z]) (p := fun _ => True) (fun x hx => by
    obtain ⟨d', g, f⟩ := h6 x hx
    have hl := h5.1 x hx
    match x, hl, g with
    | [u], _, g =>
      obtain ⟨q, rfl, hw⟩ := got_int Tryd.underlying3 g
      exact ⟨q, rfl, trivial⟩)
  obtain rfl : l.length = n := by simpa using h4
  exact ⟨A, c, l, by simpa using hv, h1, h2, h3, h5⟩
end
end Go.Proofs.YtbnpleihhbpnlaaDoor
