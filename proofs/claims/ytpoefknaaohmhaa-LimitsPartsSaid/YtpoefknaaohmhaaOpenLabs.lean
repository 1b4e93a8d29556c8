/- Label sets opened. -/
import Derived.Test.YtpoefknaaohmhaaOpen
import Derived.Test.YtpoefknaaohmhaaCheck
namespace Go.Proofs.Ytpoefknaaohmhaa
open Go.ChangeShapes Go.WideShapes Go.RowKit Go.Deep

section
variable {H : Type} {enc : TypeId × Value → H} {w : World}
theorem got_lab {cs : List Value} {d : DataW H} (h : Got enc Try.prog w 52 cs d) (hf : Fits Try.prog 52 d) : ∃ l : Lab, cs = labC l ∧ (l.1.size ≤ maxLen ∧ l.2.size ≤ maxLen) := by
  obtain ⟨hl, hat⟩ := got_fields Try.underlying52 (by kernel_rfl) (by kernel_rfl) h hf
  obtain ⟨v0, d0, h0, g0, _⟩ := hat 0 _ rfl
  obtain ⟨v1, d1, h1, g1, _⟩ := hat 1 _ rfl
  obtain ⟨s0, rfl, m0⟩ := got_string Try.underlying9 g0
  obtain ⟨s1, rfl, m1⟩ := got_string Try.underlying9 g1
  refine ⟨(s0, s1), ?_, m0, m1⟩
  match cs, hl with
  | [a, b], _ =>
    simp at h0 h1
    subst h0 h1
    rfl
theorem got_labs {v : Value} {d : DataW H} (h : Got enc Try.prog w 35 [v] d) (hf : Fits Try.prog 35 d) :
    ∃ A c, ∃ ls : List Lab, v = .slice A ls.length c ∧ ls.length ≤ c ∧ c ≤ maxLen ∧ ls.length * 32 ≤ reachBytes ∧ Rd w w.heap.size 2 A (labsC ls) ∧ okLabs ls := by
  obtain ⟨A, n, c, es, hv, h1, h2, h3, h4, h5, h6⟩ := got_slice Try.underlying35 (by kernel_rfl : _ = 2) (by kernel_rfl : _ = 32) (by omega) h hf
  obtain ⟨ls, rfl, hls⟩ := list_choose (f := labC) (p := fun l => l.1.size ≤ maxLen ∧ l.2.size ≤ maxLen) (fun x hx => by
    obtain ⟨d', g, f⟩ := h6 x hx
    exact got_lab g f)
  obtain rfl : ls.length = n := by simpa using h4
  exact ⟨A, c, ls, by simpa using hv, h1, h2, h3, h5, hls⟩
end
end Go.Proofs.Ytpoefknaaohmhaa
