/- How a query is read: brackets. -/
import Derived.Test.YtakfnojiaakfpaaGreatDoorParP
import Derived.Deep.DeepCutAuto
namespace Go.Proofs.YtakfnojiaakfpaaGreatDoor
section
open Go.RowKit
attribute [local go_sem ↓] Go.wp_at_zero Go.wp_at_succ tok_f0 tok_f2 tok_f3
/-- A node that is being made, with matchers. -/
def MatN (w : World) (base N : Nat) (x : Nod) : Prop := ∃ Am cm, Blk w N 41 (nodC x Am cm none 0) ∧ Own w base 37 3 Am x.mat.length cm (matsC x.mat)
theorem MatN.fr {w w' : World} {P N base : Nat} {R : Option Addr × Nat} {s : PS} {x : Nod} (h : MatN w base N x) (hP : PAt w P R s) (hf : Fr P none w w') (hne : N ≠ P) : MatN w' base N x := by
  obtain ⟨Am, cm, h1, h2⟩ := h
  exact ⟨Am, cm, h1.fr hf hne, h2.fr hP hf (by decide)⟩
theorem MatN.belowAll {w w' : World} {N base : Nat} {x : Nod} (h : MatN w base N x) (hb : Below w.heap.size w w') : MatN w' base N x := by
  obtain ⟨Am, cm, h1, h2⟩ := h
  exact ⟨Am, cm, h1.below hb h1.lt, h2.belowAll hb⟩
theorem MatN.lt {w : World} {N base : Nat} {x : Nod} (h : MatN w base N x) : N < w.heap.size := by
  obtain ⟨Am, cm, h1, h2⟩ := h
  exact h1.lt
end
section
open Go.RowKit
attribute [local go_sem ↓] Go.wp_at_zero Go.wp_at_succ tok_f0 tok_f2 tok_f3
end
section
open Go.RowKit
attribute [local go_sem ↓] Go.wp_at_zero Go.wp_at_succ tok_f0 tok_f2 tok_f3
end
section
open Go.RowKit
attribute [local go_sem ↓] Go.wp_at_zero Go.wp_at_succ tok_f0 tok_f2 tok_f3
end
section
open Go.RowKit
attribute [local go_sem ↓] Go.wp_at_zero Go.wp_at_succ tok_f0 tok_f2 tok_f3
end
end Go.Proofs.YtakfnojiaakfpaaGreatDoor
