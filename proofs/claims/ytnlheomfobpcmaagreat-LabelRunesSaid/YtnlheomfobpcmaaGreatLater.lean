/- A region that draws its order, whose operations only read and whose callees only make new memory: one walk in the order of the text. -/
import Derived.Test.YtnlheomfobpcmaaGreatBlk
import Derived.BigQuiet
namespace Go.Proofs.YtnlheomfobpcmaaGreat
open Go.RowKit

/-- The worlds behind w: all that was there reads as before. -/
def Later (w : World) := {w' : World // Below w.heap.size w w'}
instance laterInh (w : World) : Nonempty (Later w) := ⟨⟨w, Below.refl _ _⟩⟩
def later (w : World) (x : Later w) : World := x.1
theorem wp_region_later {P : Program} {id : Nat} {Q : Exit → Act → World → Prop} {a : Act} {w : World} {l : List Oper} (hm : P.follows .mixedOrders = true) (hB : Region.lexB .any l.toArray = true)
    (h : wpQuiet P l.toArray (fun w' => ∃ x, w' = later w x) (fun a' => ∀ w', (∃ x, w' = later w x) → Q .normal a' w') l a) : (Code.region id l.toArray true).wp P Q a w :=
  wp_region_quiet (C := fun w' => ∃ x, w' = later w x) hm hB ⟨⟨_, (Below.refl w.heap.size w).drew⟩, rfl⟩ (by simpa using h)
section
variable {w : World}
theorem later_below (x : Later w) : Below w.heap.size w (later w x) := x.2
theorem later_blk {T : Nat} {e : TypeId} {cs : List Value} (h : Blk w T e cs) (x : Later w) : Blk (later w x) T e cs := h.below x.2 h.lt
theorem later_cell {T : Nat} {e : TypeId} {cs : List Value} (h : Blk w T e cs) {j : Nat} {v : Value} (hv : cs[j]? = some v) (x : Later w) : (later w x).cell? ⟨T, j, none⟩ = some v := (later_blk h x).cell hv
theorem later_at {b o : Nat} {v : Value} (hb : b < w.heap.size) (h : w.cell? ⟨b, o, none⟩ = some v) (x : Later w) : (later w x).cell? ⟨b, o, none⟩ = some v := (x.2.cell (p := ⟨b, o, none⟩) hb).trans h
theorem later_rd {B sz : Nat} {A : Option Addr} {xs : List (List Value)} (h : Rd w B sz A xs) (hB : B ≤ w.heap.size) (x : Later w) : Rd (later w x) B sz A xs := h.below (x.2.mono hB)
theorem later_size (x : Later w) : w.heap.size ≤ (later w x).heap.size := x.2.size
/-- A call that only makes memory. -/
theorem later_call {P : Program} {f : FuncId} {args : Array Value} {v : Value} {x : Later w}
    (h : Calls P f args (later w x) fun e w' => e = .returned v ∧ Below (later w x).heap.size (later w x) w') :
    Calls P f args (later w x) fun e w'' => e = .returned v ∧ ∃ y, w'' = later w y :=
  h.mono fun _ w' ⟨he, hb⟩ => ⟨he, ⟨w', x.2.trans (hb.mono x.2.size)⟩, rfl⟩
/-- .. that only reads. -/
theorem later_same {P : Program} {f : FuncId} {args : Array Value} {v : Value} {x : Later w}
    (h : Calls P f args (later w x) fun e w' => e = .returned v ∧ later w x = w') :
    Calls P f args (later w x) fun e w'' => e = .returned v ∧ ∃ y, w'' = later w y :=
  h.mono fun _ _ ⟨he, hb⟩ => ⟨he, x, hb.symm⟩
theorem later_draws {P : Program} {f : FuncId} {args : Array Value} {v : Value} {x : Later w}
    (h : Calls P f args (later w x) fun e w' => e = .returned v ∧ ∃ n, w' = (later w x).drewN n) :
    Calls P f args (later w x) fun e w'' => e = .returned v ∧ ∃ y, w'' = later w y :=
  h.mono fun _ w' ⟨he, n, hb⟩ => ⟨he, ⟨w', hb ▸ below_drewN x.2 n⟩, rfl⟩
end
end Go.Proofs.YtnlheomfobpcmaaGreat
