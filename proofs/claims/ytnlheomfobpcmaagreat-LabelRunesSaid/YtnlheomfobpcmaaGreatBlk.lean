/- A block whose cells are all told. -/
import Derived.Test.YtnlheomfobpcmaaGreatMem2
namespace Go.Proofs.YtnlheomfobpcmaaGreat
open Go.RowKit

def Blk (w : World) (T : Nat) (e : TypeId) (cs : List Value) : Prop := w.heap[T]? = some (.cells cs.toArray e (0, 0))
section
variable {w w' : World} {T B : Nat} {e : TypeId} {cs : List Value}
theorem Blk.lt (h : Blk w T e cs) : T < w.heap.size := (Array.getElem?_eq_some_iff.1 h).1
theorem Blk.cell (h : Blk w T e cs) {j : Nat} {v : Value} (hv : cs[j]? = some v) : w.cell? ⟨T, j, none⟩ = some v := by
  rw [cell_of_row w T j _ e (0, 0) h]; simpa using hv
theorem Blk.frozen (h : Blk w T e cs) (j : Nat) : w.frozen? ⟨T, j, none⟩ = false := frozen_of_row w T j _ _ h
theorem Blk.set (h : Blk w T e cs) (j : Nat) (u : Value) : Blk (w.setCell ⟨T, j, none⟩ u) T e (cs.set j u) := by
  have := heap_setCell_same w T j _ _ u h
  simpa [Blk] using this
theorem Blk.keep (h : Blk w T e cs) (hk : w'.heap[T]? = w.heap[T]?) : Blk w' T e cs := hk.trans h
theorem Blk.below (h : Blk w T e cs) (hb : Below B w w') (hT : T < B) : Blk w' T e cs := h.keep (hb.block T hT)
theorem Blk.alloc (h : Blk w T e cs) (o : Obj) : Blk (w.alloc o) T e cs := h.keep (Below.heap_alloc w o T h.lt)
theorem Blk.new (w : World) (e : TypeId) (cs : List Value) : Blk (w.alloc (.cells cs.toArray e)) w.heap.size e cs := heap_alloc_new w _
theorem Blk.grown {row : Option Nat} (h : Blk w T e cs) (hg : w.grownBy w' row) (hr : some T ≠ row) : Blk w' T e cs := h.keep (hg.block T h.lt hr)
theorem Blk.other (h : Blk w T e cs) {a : Addr} (ha : T ≠ a.block) (u : Value) : Blk (w.setCell a u) T e cs := h.keep (Below.heap_setCell w a u T ha)
theorem Blk.drewN (h : Blk w T e cs) (n : Nat) : Blk (w.drewN n) T e cs := h
end
theorem own_ne_blk {w : World} {base sz n c P : Nat} {e e2 : TypeId} {A : Option Addr} {xs : List (List Value)} {cs : List Value} (h : Own w base e sz A n c xs) (hb : Blk w P e2 cs) (hne : e ≠ e2) : some P ≠ A.map Addr.block := by
  rcases h.2.2.2.2 with ⟨hv, h0⟩ | ⟨g, cap, cur, hv, hbg, hg, _⟩
  · injection hv with e1; subst e1; simp
  · injection hv with e1
    subst e1
    intro e
    simp at e
    subst e
    rw [hb] at hg
    injection hg with hg
    injection hg with _ ht
    exact hne ht.symm
theorem Own.setOther {w : World} {base sz n c P : Nat} {e : TypeId} {A : Option Addr} {xs : List (List Value)} (h : Own w base e sz A n c xs) (hne : some P ≠ A.map Addr.block) (j : Nat) (u : Value) : Own (w.setCell ⟨P, j, none⟩ u) base e sz A n c xs := by
  refine ⟨h.1, h.2.1, h.2.2.1, h.2.2.2.1, ?_⟩
  rcases h.2.2.2.2 with hn | ⟨g, cap, cur, hv, hbg, hg, rest⟩
  · exact .inl hn
  · refine .inr ⟨g, cap, cur, hv, hbg, ?_, rest⟩
    injection hv with e1
    subst e1
    rw [Below.heap_setCell w ⟨P, j, none⟩ u g (by rintro rfl; exact hne rfl)]
    exact hg
end Go.Proofs.YtnlheomfobpcmaaGreat
