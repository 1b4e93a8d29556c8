/- What an argument reads as: label sets, lists of texts. -/
import Derived.Test.YtnlheomfobpcmaaGreatOpen2
import Derived.Test.YtnlheomfobpcmaaGreatCheckE
namespace Go.Proofs.YtnlheomfobpcmaaGreat
open Go.ChangeShapes Go.WideShapes Go.RowKit Go.Deep

section
variable {H : Type} {enc : TypeId × Value → H} {w : World}
theorem got_lab {cs : List Value} {d : DataW H} (h : Got enc Tryz.prog w 51 cs d) (hf : Fits Tryz.prog 51 d) : ∃ l : Lab, cs = labC l ∧ (l.1.size ≤ maxLen ∧ l.2.size ≤ maxLen) := by
  obtain ⟨hl, hat⟩ := got_fields Tryz.underlying51 (by kernel_rfl) (by kernel_rfl) h hf
  obtain ⟨v0, d0, h0, g0, _⟩ := hat 0 _ rfl
  obtain ⟨v1, d1, h1, g1, _⟩ := hat 1 _ rfl
  obtain ⟨s0, rfl, m0⟩ := got_string Tryz.underlying9 g0
  obtain ⟨s1, rfl, m1⟩ := got_string Tryz.underlying9 g1
  refine ⟨(s0, s1), ?_, m0, m1⟩
  match cs, hl with
  | [a, b], _ =>
    simp at h0 h1
    subst h0 h1
    rfl
theorem got_labs {v : Value} {d : DataW H} (h : Got enc Tryz.prog w 22 [v] d) (hf : Fits Tryz.prog 22 d) :
    ∃ A c, ∃ ls : List Lab, v = .slice A ls.length c ∧ ls.length ≤ c ∧ c ≤ maxLen ∧ ls.length * 32 ≤ reachBytes ∧ Rd w w.heap.size 2 A (labsC ls) ∧ okLabs ls := by
  obtain ⟨A, n, c, es, hv, h1, h2, h3, h4, h5, h6⟩ := got_slice Tryz.underlying22 (by kernel_rfl : _ = 2) (by kernel_rfl : _ = 32) (by omega) h hf
  obtain ⟨ls, rfl, hls⟩ := list_choose (f := labC) (p := fun l => l.1.size ≤ maxLen ∧ l.2.size ≤ maxLen) (fun x hx => by
    obtain ⟨d', g, f⟩ := h6 x hx
    exact got_lab g f)
  obtain rfl : ls.length = n := by simpa using h4
  exact ⟨A, c, ls, by simpa using hv, h1, h2, h3, h5, hls⟩
theorem got_names {v : Value} {d : DataW H} (h : Got enc Tryz.prog w 35 [v] d) (hf : Fits Tryz.prog 35 d) :
    ∃ A c, ∃ ls : List ByteArray, v = .slice A ls.length c ∧ ls.length ≤ c ∧ c ≤ maxLen ∧ ls.length * 16 ≤ reachBytes ∧ Rd w w.heap.size 1 A (namesC ls) ∧ ∀ x ∈ ls, x.size ≤ maxLen := by
  obtain ⟨A, n, c, es, hv, h1, h2, h3, h4, h5, h6⟩ := got_slice Tryz.underlying35 (by kernel_rfl : _ = 1) (by kernel_rfl : _ = 16) (by omega) h hf
  obtain ⟨ls, rfl, hls⟩ := list_choose (f := fun x : ByteArray => [Value.string x]) (p := fun x => x.size ≤ maxLen) (fun x hx => by
    obtain ⟨d', g, f⟩ := h6 x hx
    have hl := h5.1 x hx
    match x, hl, g with
    | [u], _, g =>
      obtain ⟨s, rfl, hm⟩ := got_string Tryz.underlying9 g
      exact ⟨s, rfl, hm⟩)
  obtain rfl : ls.length = n := by simpa using h4
  exact ⟨A, c, ls, by simpa using hv, h1, h2, h3, h5, hls⟩
end
end Go.Proofs.YtnlheomfobpcmaaGreat
