/- Nodes opened. -/
import Derived.Test.YtmhfeeomlpdnkaaOpen2
import Derived.Test.YtmhfeeomlpdnkaaNodS
import Derived.Test.YtmhfeeomlpdnkaaTypF
namespace Go.Proofs.Ytmhfeeomlpdnkaa
open Go.ChangeShapes Go.WideShapes Go.RowKit Go.Deep

section
variable {H : Type} {enc : TypeId × Value → H} {w : World}
theorem got_mat {cs : List Value} {d : DataW H} (h : Got enc Try.prog w 56 cs d) (hf : Fits Try.prog 56 d) : ∃ m : Mat, cs = matC m ∧ m.name.size ≤ maxLen := by
  obtain ⟨hl, hat⟩ := got_fields Try.underlying56 (by kernel_rfl) (by kernel_rfl) h hf
  obtain ⟨v0, d0, h0, g0, _⟩ := hat 0 _ rfl
  obtain ⟨v1, d1, h1, g1, _⟩ := hat 1 _ rfl
  obtain ⟨v2, d2, h2, g2, _⟩ := hat 2 _ rfl
  obtain ⟨k, rfl, _⟩ := got_int Try.underlying3 g0
  obtain ⟨s1, rfl, m1⟩ := got_string Try.underlying9 g1
  obtain ⟨s2, rfl, _⟩ := got_string Try.underlying9 g2
  refine ⟨⟨k, s1, s2⟩, ?_, m1⟩
  match cs, hl with
  | [a, b, c], _ =>
    simp at h0 h1 h2
    subst h0 h1 h2
    rfl
theorem got_mats {v : Value} {d : DataW H} (h : Got enc Try.prog w 31 [v] d) (hf : Fits Try.prog 31 d) :
    ∃ A c, ∃ ms : List Mat, v = .slice A ms.length c ∧ ms.length ≤ c ∧ c ≤ maxLen ∧ ms.length * 40 ≤ reachBytes ∧ Rd w w.heap.size 3 A (matsC ms) ∧ ∀ m ∈ ms, m.name.size ≤ maxLen := by
  obtain ⟨A, n, c, es, hv, h1, h2, h3, h4, h5, h6⟩ := got_slice Try.underlying31 (by kernel_rfl : _ = 3) (by kernel_rfl : _ = 40) (by omega) h hf
  obtain ⟨ms, rfl, hms⟩ := list_choose (f := matC) (p := fun m => m.name.size ≤ maxLen) (fun x hx => by
    obtain ⟨d', g, f⟩ := h6 x hx
    exact got_mat g f)
  obtain rfl : ms.length = n := by simpa using h4
  exact ⟨A, c, ms, by simpa using hv, h1, h2, h3, h5, hms⟩
theorem got_texts {v : Value} {d : DataW H} (h : Got enc Try.prog w 32 [v] d) (hf : Fits Try.prog 32 d) :
    ∃ A c, ∃ ms : List ByteArray, v = .slice A ms.length c ∧ ms.length ≤ c ∧ c ≤ maxLen ∧ ms.length * 16 ≤ reachBytes ∧ Rd w w.heap.size 1 A (textsC ms) ∧ ∀ s ∈ ms, s.size ≤ maxLen := by
  obtain ⟨A, n, c, es, hv, h1, h2, h3, h4, h5, h6⟩ := got_slice Try.underlying32 (by kernel_rfl : _ = 1) (by kernel_rfl : _ = 16) (by omega) h hf
  obtain ⟨ms, rfl, hms⟩ := list_choose (f := fun s : ByteArray => [Value.string s]) (p := fun s => s.size ≤ maxLen) (fun x hx => by
    obtain ⟨d', g, f⟩ := h6 x hx
    have hl := h5.1 x hx
    match x, hl, g with
    | [u], _, g =>
      obtain ⟨s, rfl, m⟩ := got_string Try.underlying9 g
      exact ⟨s, rfl, m⟩)
  obtain rfl : ms.length = n := by simpa using h4
  exact ⟨A, c, ms, by simpa using hv, h1, h2, h3, h5, hms⟩
/-- What is known of a node that came in. -/
def okIn (x : Nod) : Prop := okNodT x ∧ x.mat.length * 40 ≤ reachBytes ∧ x.names.length * 16 ≤ reachBytes
theorem got_nod {cs : List Value} {d : DataW H} (h : Got enc Try.prog w 34 cs d) (hf : Fits Try.prog 34 d) : ∃ x : Nod, NodAt w w.heap.size cs x ∧ okIn x := by
  obtain ⟨hl, hat⟩ := got_fields Try.underlying34 (by kernel_rfl) (by kernel_rfl) h hf
  obtain ⟨v0, d0, h0, g0, f0⟩ := hat 0 _ rfl
  obtain ⟨v1, d1, h1, g1, f1⟩ := hat 1 _ rfl
  obtain ⟨v2, d2, h2, g2, f2⟩ := hat 2 _ rfl
  obtain ⟨v3, d3, h3, g3, f3⟩ := hat 3 _ rfl
  obtain ⟨v4, d4, h4, g4, f4⟩ := hat 4 _ rfl
  obtain ⟨v5, d5, h5, g5, f5⟩ := hat 5 _ rfl
  obtain ⟨v6, d6, h6, g6, f6⟩ := hat 6 _ rfl
  obtain ⟨v7, d7, h7, g7, f7⟩ := hat 7 _ rfl
  obtain ⟨v8, d8, h8, g8, f8⟩ := hat 8 _ rfl
  obtain ⟨v9, d9, h9, g9, f9⟩ := hat 9 _ rfl
  obtain ⟨k0, rfl, _⟩ := got_int Try.underlying3 g0
  obtain ⟨k1, rfl, _⟩ := got_int Try.underlying3 g1
  obtain ⟨s, rfl, ms⟩ := got_stringF Try.underlying9 g2 f2
  obtain ⟨Am, cm, mm, rfl, a1, a2, a3, a4, a5⟩ := got_mats g3 f3
  obtain ⟨k4, rfl, _⟩ := got_int Try.underlying2 g4
  obtain ⟨k5, rfl, _⟩ := got_int Try.underlying2 g5
  obtain ⟨k6, rfl, _⟩ := got_int Try.underlying3 g6
  obtain ⟨An, cn, nn, rfl, b1, b2, b3, b4, b5⟩ := got_texts g7 f7
  obtain ⟨bb, rfl⟩ := got_bool Try.underlying4 g8
  obtain ⟨k9, rfl, _⟩ := got_int Try.underlying3 g9
  have hr := le_reach ms
  refine ⟨⟨k0, k1, s, mm, k4, k5, k6, nn, bb, k9⟩, ⟨Am, cm, An, cn, ?_, a4, b4, a1, a2, b1, b2⟩, ⟨b5, Nat.le_trans b1 b2, Nat.le_trans a1 a2, a5, (show s.size ≤ 140737488355328 by omega)⟩, a3, b3⟩
  match cs, hl with
  | [x0, x1, x2, x3, x4, x5, x6, x7, x8, x9], _ =>
    simp at h0 h1 h2 h3 h4 h5 h6 h7 h8 h9
    subst h0 h1 h2 h3 h4 h5 h6 h7 h8 h9
    rfl
theorem nods_choose {es : List (List Value)} : (∀ x ∈ es, ∃ s : Nod, NodAt w w.heap.size x s ∧ okIn s) → ∃ ss : List Nod, es.length = ss.length ∧ (∀ (k : Nat) (s : Nod), ss[k]? = some s → ∃ x, es[k]? = some x ∧ NodAt w w.heap.size x s) ∧ ∀ s ∈ ss, okIn s := by
  induction es with
  | nil => intro _; exact ⟨[], rfl, by simp, by simp⟩
  | cons x r ih =>
    intro h
    obtain ⟨s, hs, ok⟩ := h x (by simp)
    obtain ⟨ss, h1, h2, h3⟩ := ih (fun y hy => h y (by simp [hy]))
    refine ⟨s :: ss, by simp [h1], fun k q hq => ?_, fun q hq => ?_⟩
    · cases k with
      | zero => simp at hq; subst hq; exact ⟨x, rfl, hs⟩
      | succ k => simpa using h2 k q (by simpa using hq)
    · rcases List.mem_cons.1 hq with rfl | hq
      · exact ok
      · exact h3 q hq
theorem got_nods {v : Value} {d : DataW H} (h : Got enc Try.prog w 22 [v] d) (hf : Fits Try.prog 22 d) :
    ∃ A c, ∃ ss : List Nod, v = .slice A ss.length c ∧ ss.length ≤ c ∧ c ≤ maxLen ∧ ss.length * 120 ≤ reachBytes ∧ RdNods w w.heap.size A ss ∧ ∀ s ∈ ss, okIn s := by
  obtain ⟨A, n, c, es, hv, h1, h2, h3, h4, h5, h6⟩ := got_slice Try.underlying22 (by kernel_rfl : _ = 10) (by kernel_rfl : _ = 120) (by omega) h hf
  obtain ⟨ss, g1, g2, g3⟩ := nods_choose (w := w) (fun x hx => by
    obtain ⟨d', g, f⟩ := h6 x hx
    exact got_nod g f)
  obtain rfl : ss.length = n := by omega
  exact ⟨A, c, ss, by simpa using hv, h1, h2, h3, ⟨es, h5, g1, g2⟩, g3⟩
end
end Go.Proofs.Ytmhfeeomlpdnkaa
