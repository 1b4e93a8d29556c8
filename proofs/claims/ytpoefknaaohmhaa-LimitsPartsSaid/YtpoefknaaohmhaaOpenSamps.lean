/- Samples opened. -/
import Derived.Test.YtpoefknaaohmhaaOpenLabs
import Derived.Test.YtpoefknaaohmhaaLimits
namespace Go.Proofs.Ytpoefknaaohmhaa
open Go.ChangeShapes Go.WideShapes Go.RowKit Go.Deep

section
variable {H : Type} {enc : TypeId × Value → H} {w : World}
/-- What is known of a sample that came in. -/
def okSamp (s : Samp) : Prop := okLabs s.ls ∧ s.ls.length * 32 ≤ reachBytes ∧ (-9223372036854775808 ≤ s.t ∧ s.t < 9223372036854775808) ∧ 0 ≤ s.v ∧ s.v < 18446744073709551616
theorem got_samp {cs : List Value} {d : DataW H} (h : Got enc Try.prog w 37 cs d) (hf : Fits Try.prog 37 d) : ∃ s : Samp, SampAt w w.heap.size cs s ∧ okSamp s := by
  obtain ⟨hl, hat⟩ := got_fields Try.underlying37 (by kernel_rfl) (by kernel_rfl) h hf
  obtain ⟨v0, d0, h0, g0, f0⟩ := hat 0 _ rfl
  obtain ⟨v1, d1, h1, g1, _⟩ := hat 1 _ rfl
  obtain ⟨v2, d2, h2, g2, _⟩ := hat 2 _ rfl
  obtain ⟨A, c, ls, rfl, q1, q2, q3, q4, q5⟩ := got_labs g0 f0
  obtain ⟨t, rfl, m1⟩ := got_int Try.underlying2 g1
  obtain ⟨u, rfl, m2⟩ := got_int Try.underlying25 g2
  refine ⟨⟨ls, t, u⟩, ⟨A, c, ?_, q4, q1, q2⟩, q5, q3, i64_wf m1, u64_wf m2⟩
  match cs, hl with
  | [x, y, z], _ =>
    simp at h0 h1 h2
    subst h0 h1 h2
    rfl
theorem samps_choose {es : List (List Value)} : (∀ x ∈ es, ∃ s : Samp, SampAt w w.heap.size x s ∧ okSamp s) → ∃ ss : List Samp, es.length = ss.length ∧ (∀ (k : Nat) (s : Samp), ss[k]? = some s → ∃ x, es[k]? = some x ∧ SampAt w w.heap.size x s) ∧ ∀ s ∈ ss, okSamp s := by
  induction es with
  | nil => intro _; exact ⟨[], rfl, by simp, by simp⟩
  | cons x r ih =>
    intro h
    obtain ⟨s, hs, ok⟩ := h x (by simp)
    obtain ⟨ss, h1, h2, h3⟩ := ih (fun y hy => h y (by simp [hy]))
    refine ⟨s :: ss, by simp [h1], fun k q hq => ?_, fun q hq => ?_⟩
    · cases k with
      | zero => simp at hq; subst hq; exact ⟨x, rfl, hs⟩
      | succ k => simpa using h2 k q (by simpa using hq)
    · rcases List.mem_cons.1 hq with rfl | hq
      · exact ok
      · exact h3 q hq
theorem got_samps {v : Value} {d : DataW H} (h : Got enc Try.prog w 22 [v] d) (hf : Fits Try.prog 22 d) :
    ∃ A c, ∃ ss : List Samp, v = .slice A ss.length c ∧ ss.length ≤ c ∧ c ≤ maxLen ∧ ss.length * 40 ≤ reachBytes ∧ RdSamps w w.heap.size A ss ∧ ∀ s ∈ ss, okSamp s := by
  obtain ⟨A, n, c, es, hv, h1, h2, h3, h4, h5, h6⟩ := got_slice Try.underlying22 (by kernel_rfl : _ = 3) (by kernel_rfl : _ = 40) (by omega) h hf
  obtain ⟨ss, g1, g2, g3⟩ := samps_choose (w := w) (fun x hx => by
    obtain ⟨d', g, f⟩ := h6 x hx
    exact got_samp g f)
  obtain rfl : ss.length = n := by omega
  exact ⟨A, c, ss, by simpa using hv, h1, h2, h3, ⟨es, h5, g1, g2⟩, g3⟩
end
end Go.Proofs.Ytpoefknaaohmhaa
