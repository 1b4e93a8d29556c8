/- A list of words among the arguments, opened. -/
import Derived.Test.YtbnpleihhbpnlaaGreatDoorOpen2
import Derived.Test.YtbnpleihhbpnlaaGreatDoorWavF
namespace Go.Proofs.YtbnpleihhbpnlaaGreatDoor
open Go.ChangeShapes Go.WideShapes Go.ChangeAt Go.RowKit
section
variable {H : Type} {enc : TypeId × Value → H} {w : World}
theorem got_words {v : Value} {d : DataW H} (h : Got enc Tryz.prog w 35 [v] d) (hf : Fits Tryz.prog 35 d) :
    ∃ A c, ∃ l : List Nat, v = .slice A l.length c ∧ l.length ≤ c ∧ c ≤ maxLen ∧ l.length * 8 ≤ reachBytes ∧ Rd w w.heap.size 1 A (wrdC l) := by
  obtain ⟨A, n, c, es, hv, h1, h2, h3, h4, h5, h6⟩ := got_slice Tryz.underlying35 (by kernel_rfl : _ = 1) (by kernel_rfl : _ = 8) (by omega) h hf
  obtain ⟨l, rfl, _⟩ := list_choose (f := fun z : Nat => [Value.int .u64 (z : Int)]) (p := fun _ => True) (fun x hx => by
    obtain ⟨d', g, f⟩ := h6 x hx
    have hl := h5.1 x hx
    match x, hl, g with
    | [u], _, g =>
      obtain ⟨q, rfl, hw⟩ := got_int Tryz.underlying22 g
      have := u64_wf hw
      refine ⟨q.toNat, ?_, trivial⟩
      congr 2; omega)
  obtain rfl : l.length = n := by simpa using h4
  exact ⟨A, c, l, by simpa using hv, h1, h2, h3, h5⟩
end
end Go.Proofs.YtbnpleihhbpnlaaGreatDoor
