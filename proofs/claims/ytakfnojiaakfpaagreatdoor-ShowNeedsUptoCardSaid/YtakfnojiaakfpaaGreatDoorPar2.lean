/- How a query is read: Parse. -/
import Derived.Test.YtakfnojiaakfpaaGreatDoorLexSpec
import Derived.ScopeJumps
import Derived.WalkMore
import Derived.Test.YtakfnojiaakfpaaGreatDoorNodS
import Derived.Test.YtakfnojiaakfpaaGreatDoorPQuery
import Derived.Test.YtakfnojiaakfpaaGreatDoorPar1
namespace Go.Proofs.YtakfnojiaakfpaaGreatDoor
section
/-! ## Scope -/
open Go.RowKit

/-- As Q; by a goto to label l: J l. -/
def jumps (J : Nat → Act → World → Prop) (Q : Exit → Act → World → Prop) : Exit → Act → World → Prop
  | .goto l, a, w => J l a w
  | e, a, w => Q e a w

section
variable {P : Program} {a : Act} {w : World} {Q : Exit → Act → World → Prop}
theorem wp_scope_all {c : Code} (J : Nat → Act → World → Prop) (μ : Nat → Act → World → Nat) (rest : Nat → Code) (hf : ∀ l a w, J l a w → findLabel c l = some (rest l))
    (first : c.wp P (jumps J Q) a w)
    (pass : ∀ l a w, J l a w → (rest l).wp P (jumps (fun l' a' w' => J l' a' w' ∧ μ l' a' w' < μ l a w) Q) a w) : (Code.scope c).wp P Q a w := by
  intro b k cs
  have key : ∀ n l a w, μ l a w = n → J l a w → ∃ e a' w', Q e a' w' ∧ Arrives P (lone (b.at a (.code (rest l) :: .inScope c :: k)) cs w) b k cs e a' w' := by
    intro n
    induction n using Nat.strongRecOn with
    | _ n ih =>
      intro l a w hn hJ
      obtain ⟨e, a₁, w₁, hq, harr⟩ := pass l a w hJ b (.inScope c :: k) cs
      cases e with
      | normal => exact ⟨.normal, a₁, w₁, hq, Steps.trans harr (.one step_inScope)⟩
      | exit id => exact ⟨.exit id, a₁, w₁, hq, fun k' hk => harr k' (by simp [exitTo, hk])⟩
      | goto l' =>
        obtain ⟨hJ', hlt⟩ := hq
        have hg : gotoIn l' (.inScope c :: k) = some (.code (rest l') :: .inScope c :: k) := by simp [gotoIn, hf l' _ _ hJ']
        obtain ⟨e₂, a₂, w₂, hq₂, harr₂⟩ := ih _ (by omega) l' a₁ w₁ rfl hJ'
        exact ⟨e₂, a₂, w₂, hq₂, .of_steps (harr _ hg) harr₂⟩
      | ret => exact ⟨_, a₁, w₁, hq, harr⟩
      | panic ch => exact ⟨_, a₁, w₁, hq, harr⟩
      | outgrown => exact ⟨_, a₁, w₁, hq, harr⟩
  obtain ⟨e, a₁, w₁, hq, harr⟩ := first b (.inScope c :: k) cs
  cases e with
  | normal => exact ⟨.normal, a₁, w₁, hq, .head step_scope (Steps.trans harr (.one step_inScope))⟩
  | exit id => exact ⟨.exit id, a₁, w₁, hq, fun k' hk => .head step_scope (harr k' (by simp [exitTo, hk]))⟩
  | goto l' =>
    have hJ' : J l' a₁ w₁ := hq
    have hg : gotoIn l' (.inScope c :: k) = some (.code (rest l') :: .inScope c :: k) := by simp [gotoIn, hf l' _ _ hJ']
    obtain ⟨e₂, a₂, w₂, hq₂, harr₂⟩ := key _ l' a₁ w₁ rfl hJ'
    exact ⟨e₂, a₂, w₂, hq₂, .of_steps (.head step_scope (harr _ hg)) harr₂⟩
  | ret => exact ⟨_, a₁, w₁, hq, .of_steps (.one step_scope) harr⟩
  | panic ch => exact ⟨_, a₁, w₁, hq, .of_steps (.one step_scope) harr⟩
  | outgrown => exact ⟨_, a₁, w₁, hq, .of_steps (.one step_scope) harr⟩
/-- As above; a label that is come to from ahead counts as a jump. -/
theorem wp_scope_fall {c : Code} (J : Nat → Act → World → Prop) (μ : Nat → Act → World → Nat) (body : Nat → Code) (hf : ∀ l a w, J l a w → findLabel c l = some (.seq .skip (body l)))
    (first : (∀ l a w, J l a w → (body l).wp P (jumps J Q) a w) → c.wp P (jumps J Q) a w)
    (pass : ∀ l a w, J l a w → (∀ l' a' w', J l' a' w' → μ l' a' w' < μ l a w → (body l').wp P (jumps (fun l'' a'' w'' => J l'' a'' w'' ∧ μ l'' a'' w'' < μ l a w) Q) a' w') →
      (body l).wp P (jumps (fun l' a' w' => J l' a' w' ∧ μ l' a' w' < μ l a w) Q) a w) : (Code.scope c).wp P Q a w := by
  have key : ∀ n l a w, μ l a w = n → J l a w → (body l).wp P (jumps (fun l' a' w' => J l' a' w' ∧ μ l' a' w' < μ l a w) Q) a w := by
    intro n
    induction n using Nat.strongRecOn with
    | _ n ih =>
      intro l a w hn hJ
      refine pass l a w hJ fun l' a' w' hJ' hlt => ?_
      refine wp_mono (ih _ (by omega) l' a' w' rfl hJ') fun e a'' w'' he => ?_
      cases e with
      | goto l'' => exact ⟨he.1, by have := he.2; omega⟩
      | _ => exact he
  exact wp_scope_all J μ (fun l => .seq .skip (body l)) hf
    (first fun l a w hJ => wp_mono (key _ l a w rfl hJ) fun e a' w' he => by
      cases e with
      | goto l'' => exact he.1
      | _ => exact he)
    fun l a w hJ => wp_seq (wp_skip (key _ l a w rfl hJ))
theorem wp_scope2 {c r0 r1 : Code} (J : Nat → Act → World → Prop) (μ : Nat → Act → World → Nat) (only : ∀ l a w, J l a w → l < 2)
    (hf0 : findLabel c 0 = some (.seq .skip r0)) (hf1 : findLabel c 1 = some (.seq .skip r1))
    (first : (∀ a' w', J 0 a' w' → r0.wp P (jumps J Q) a' w') → (∀ a' w', J 1 a' w' → r1.wp P (jumps J Q) a' w') → c.wp P (jumps J Q) a w)
    (pass0 : ∀ a w, J 0 a w → (∀ a' w', J 0 a' w' → μ 0 a' w' < μ 0 a w → r0.wp P (jumps (fun l'' a'' w'' => J l'' a'' w'' ∧ μ l'' a'' w'' < μ 0 a w) Q) a' w') → (∀ a' w', J 1 a' w' → μ 1 a' w' < μ 0 a w → r1.wp P (jumps (fun l'' a'' w'' => J l'' a'' w'' ∧ μ l'' a'' w'' < μ 0 a w) Q) a' w') → r0.wp P (jumps (fun l' a' w' => J l' a' w' ∧ μ l' a' w' < μ 0 a w) Q) a w)
    (pass1 : ∀ a w, J 1 a w → (∀ a' w', J 0 a' w' → μ 0 a' w' < μ 1 a w → r0.wp P (jumps (fun l'' a'' w'' => J l'' a'' w'' ∧ μ l'' a'' w'' < μ 1 a w) Q) a' w') → (∀ a' w', J 1 a' w' → μ 1 a' w' < μ 1 a w → r1.wp P (jumps (fun l'' a'' w'' => J l'' a'' w'' ∧ μ l'' a'' w'' < μ 1 a w) Q) a' w') → r1.wp P (jumps (fun l' a' w' => J l' a' w' ∧ μ l' a' w' < μ 1 a w) Q) a w) : (Code.scope c).wp P Q a w := by
  refine wp_scope_fall J μ (fun l => match l with | 0 => r0 | _ => r1) ?_ (fun ih => first (ih 0) (ih 1)) ?_
  · intro l a w h
    have hl := only l a w h
    match l, hl with
    | 0, _ => exact hf0
    | 1, _ => exact hf1
  · intro l a w h ih
    have hl := only l a w h
    match l, hl with
    | 0, _ => exact pass0 a w h (ih 0) (ih 1)
    | 1, _ => exact pass1 a w h (ih 0) (ih 1)

theorem wp_scope5 {c r0 r1 r2 r3 r4 : Code} (J : Nat → Act → World → Prop) (μ : Nat → Act → World → Nat) (only : ∀ l a w, J l a w → l < 5)
    (hf0 : findLabel c 0 = some (.seq .skip r0)) (hf1 : findLabel c 1 = some (.seq .skip r1)) (hf2 : findLabel c 2 = some (.seq .skip r2)) (hf3 : findLabel c 3 = some (.seq .skip r3)) (hf4 : findLabel c 4 = some (.seq .skip r4))
    (first : (∀ a' w', J 0 a' w' → r0.wp P (jumps J Q) a' w') → (∀ a' w', J 1 a' w' → r1.wp P (jumps J Q) a' w') → (∀ a' w', J 2 a' w' → r2.wp P (jumps J Q) a' w') → (∀ a' w', J 3 a' w' → r3.wp P (jumps J Q) a' w') → (∀ a' w', J 4 a' w' → r4.wp P (jumps J Q) a' w') → c.wp P (jumps J Q) a w)
    (pass0 : ∀ a w, J 0 a w → (∀ a' w', J 0 a' w' → μ 0 a' w' < μ 0 a w → r0.wp P (jumps (fun l'' a'' w'' => J l'' a'' w'' ∧ μ l'' a'' w'' < μ 0 a w) Q) a' w') → (∀ a' w', J 1 a' w' → μ 1 a' w' < μ 0 a w → r1.wp P (jumps (fun l'' a'' w'' => J l'' a'' w'' ∧ μ l'' a'' w'' < μ 0 a w) Q) a' w') → (∀ a' w', J 2 a' w' → μ 2 a' w' < μ 0 a w → r2.wp P (jumps (fun l'' a'' w'' => J l'' a'' w'' ∧ μ l'' a'' w'' < μ 0 a w) Q) a' w') → (∀ a' w', J 3 a' w' → μ 3 a' w' < μ 0 a w → r3.wp P (jumps (fun l'' a'' w'' => J l'' a'' w'' ∧ μ l'' a'' w'' < μ 0 a w) Q) a' w') → (∀ a' w', J 4 a' w' → μ 4 a' w' < μ 0 a w → r4.wp P (jumps (fun l'' a'' w'' => J l'' a'' w'' ∧ μ l'' a'' w'' < μ 0 a w) Q) a' w') → r0.wp P (jumps (fun l' a' w' => J l' a' w' ∧ μ l' a' w' < μ 0 a w) Q) a w)
    (pass1 : ∀ a w, J 1 a w → (∀ a' w', J 0 a' w' → μ 0 a' w' < μ 1 a w → r0.wp P (jumps (fun l'' a'' w'' => J l'' a'' w'' ∧ μ l'' a'' w'' < μ 1 a w) Q) a' w') → (∀ a' w', J 1 a' w' → μ 1 a' w' < μ 1 a w → r1.wp P (jumps (fun l'' a'' w'' => J l'' a'' w'' ∧ μ l'' a'' w'' < μ 1 a w) Q) a' w') → (∀ a' w', J 2 a' w' → μ 2 a' w' < μ 1 a w → r2.wp P (jumps (fun l'' a'' w'' => J l'' a'' w'' ∧ μ l'' a'' w'' < μ 1 a w) Q) a' w') → (∀ a' w', J 3 a' w' → μ 3 a' w' < μ 1 a w → r3.wp P (jumps (fun l'' a'' w'' => J l'' a'' w'' ∧ μ l'' a'' w'' < μ 1 a w) Q) a' w') → (∀ a' w', J 4 a' w' → μ 4 a' w' < μ 1 a w → r4.wp P (jumps (fun l'' a'' w'' => J l'' a'' w'' ∧ μ l'' a'' w'' < μ 1 a w) Q) a' w') → r1.wp P (jumps (fun l' a' w' => J l' a' w' ∧ μ l' a' w' < μ 1 a w) Q) a w)
    (pass2 : ∀ a w, J 2 a w → (∀ a' w', J 0 a' w' → μ 0 a' w' < μ 2 a w → r0.wp P (jumps (fun l'' a'' w'' => J l'' a'' w'' ∧ μ l'' a'' w'' < μ 2 a w) Q) a' w') → (∀ a' w', J 1 a' w' → μ 1 a' w' < μ 2 a w → r1.wp P (jumps (fun l'' a'' w'' => J l'' a'' w'' ∧ μ l'' a'' w'' < μ 2 a w) Q) a' w') → (∀ a' w', J 2 a' w' → μ 2 a' w' < μ 2 a w → r2.wp P (jumps (fun l'' a'' w'' => J l'' a'' w'' ∧ μ l'' a'' w'' < μ 2 a w) Q) a' w') → (∀ a' w', J 3 a' w' → μ 3 a' w' < μ 2 a w → r3.wp P (jumps (fun l'' a'' w'' => J l'' a'' w'' ∧ μ l'' a'' w'' < μ 2 a w) Q) a' w') → (∀ a' w', J 4 a' w' → μ 4 a' w' < μ 2 a w → r4.wp P (jumps (fun l'' a'' w'' => J l'' a'' w'' ∧ μ l'' a'' w'' < μ 2 a w) Q) a' w') → r2.wp P (jumps (fun l' a' w' => J l' a' w' ∧ μ l' a' w' < μ 2 a w) Q) a w)
    (pass3 : ∀ a w, J 3 a w → (∀ a' w', J 0 a' w' → μ 0 a' w' < μ 3 a w → r0.wp P (jumps (fun l'' a'' w'' => J l'' a'' w'' ∧ μ l'' a'' w'' < μ 3 a w) Q) a' w') → (∀ a' w', J 1 a' w' → μ 1 a' w' < μ 3 a w → r1.wp P (jumps (fun l'' a'' w'' => J l'' a'' w'' ∧ μ l'' a'' w'' < μ 3 a w) Q) a' w') → (∀ a' w', J 2 a' w' → μ 2 a' w' < μ 3 a w → r2.wp P (jumps (fun l'' a'' w'' => J l'' a'' w'' ∧ μ l'' a'' w'' < μ 3 a w) Q) a' w') → (∀ a' w', J 3 a' w' → μ 3 a' w' < μ 3 a w → r3.wp P (jumps (fun l'' a'' w'' => J l'' a'' w'' ∧ μ l'' a'' w'' < μ 3 a w) Q) a' w') → (∀ a' w', J 4 a' w' → μ 4 a' w' < μ 3 a w → r4.wp P (jumps (fun l'' a'' w'' => J l'' a'' w'' ∧ μ l'' a'' w'' < μ 3 a w) Q) a' w') → r3.wp P (jumps (fun l' a' w' => J l' a' w' ∧ μ l' a' w' < μ 3 a w) Q) a w)
    (pass4 : ∀ a w, J 4 a w → (∀ a' w', J 0 a' w' → μ 0 a' w' < μ 4 a w → r0.wp P (jumps (fun l'' a'' w'' => J l'' a'' w'' ∧ μ l'' a'' w'' < μ 4 a w) Q) a' w') → (∀ a' w', J 1 a' w' → μ 1 a' w' < μ 4 a w → r1.wp P (jumps (fun l'' a'' w'' => J l'' a'' w'' ∧ μ l'' a'' w'' < μ 4 a w) Q) a' w') → (∀ a' w', J 2 a' w' → μ 2 a' w' < μ 4 a w → r2.wp P (jumps (fun l'' a'' w'' => J l'' a'' w'' ∧ μ l'' a'' w'' < μ 4 a w) Q) a' w') → (∀ a' w', J 3 a' w' → μ 3 a' w' < μ 4 a w → r3.wp P (jumps (fun l'' a'' w'' => J l'' a'' w'' ∧ μ l'' a'' w'' < μ 4 a w) Q) a' w') → (∀ a' w', J 4 a' w' → μ 4 a' w' < μ 4 a w → r4.wp P (jumps (fun l'' a'' w'' => J l'' a'' w'' ∧ μ l'' a'' w'' < μ 4 a w) Q) a' w') → r4.wp P (jumps (fun l' a' w' => J l' a' w' ∧ μ l' a' w' < μ 4 a w) Q) a w) : (Code.scope c).wp P Q a w := by
  refine wp_scope_fall J μ (fun l => match l with | 0 => r0 | 1 => r1 | 2 => r2 | 3 => r3 | _ => r4) ?_ (fun ih => first (ih 0) (ih 1) (ih 2) (ih 3) (ih 4)) ?_
  · intro l a w h
    have hl := only l a w h
    match l, hl with
    | 0, _ => exact hf0
    | 1, _ => exact hf1
    | 2, _ => exact hf2
    | 3, _ => exact hf3
    | 4, _ => exact hf4
  · intro l a w h ih
    have hl := only l a w h
    match l, hl with
    | 0, _ => exact pass0 a w h (ih 0) (ih 1) (ih 2) (ih 3) (ih 4)
    | 1, _ => exact pass1 a w h (ih 0) (ih 1) (ih 2) (ih 3) (ih 4)
    | 2, _ => exact pass2 a w h (ih 0) (ih 1) (ih 2) (ih 3) (ih 4)
    | 3, _ => exact pass3 a w h (ih 0) (ih 1) (ih 2) (ih 3) (ih 4)
    | 4, _ => exact pass4 a w h (ih 0) (ih 1) (ih 2) (ih 3) (ih 4)

end
end
section
/-! ## LexJ -/
open Go.RowKit

theorem eiTok : EI Tryz.prog 57 67 4 40 := EI.mk' Tryz.underlying57 (z := .agg #[.int .i64 0, .int .i64 0, .string ByteArray.empty, .int .i64 0]) (by kernel_rfl) rfl (by omega)
theorem eiByte : EI Tryz.prog 91 5 1 1 := EI.mk' Tryz.underlying91 (z := .int .u8 0) (by kernel_rfl) rfl (by omega)
theorem one_toks (ts : List Tok) : ∀ y ∈ toksC ts, ∀ u ∈ y, u.oneCell' = true := by
  intro y hy u hu
  obtain ⟨l, _, rfl⟩ := List.mem_map.1 hy
  simp [tokC] at hu
  rcases hu with rfl | rfl | rfl | rfl <;> rfl
/-- The token's block. -/
def TVar (w : World) (T : Nat) : Prop := ∃ v0 v1 v2 v3, w.heap[T]? = some (.cells #[v0, v1, v2, v3] 67 (0, 0))
theorem TVar.grown {w w' : World} {T : Nat} {row : Option Nat} (h : TVar w T) (hg : w.grownBy w' row) (hT : T < w.heap.size) (hr : row ≠ some T) : TVar w' T := by
  obtain ⟨v0, v1, v2, v3, h⟩ := h
  exact ⟨v0, v1, v2, v3, (hg.block T hT (fun e => hr e.symm)).trans h⟩
theorem TVar.alloc {w : World} {T : Nat} (h : TVar w T) (hT : T < w.heap.size) (o : Obj) : TVar (w.alloc o) T := by
  obtain ⟨v0, v1, v2, v3, h⟩ := h
  exact ⟨v0, v1, v2, v3, (Below.heap_alloc w o T hT).trans h⟩
theorem TVar.set {w : World} {T j : Nat} (h : TVar w T) (u : Value) : TVar (w.setCell ⟨T, j, none⟩ u) T := by
  obtain ⟨v0, v1, v2, v3, h⟩ := h
  have := heap_setCell_same w T j _ _ u h
  match j with
  | 0 => exact ⟨_, _, _, _, this⟩
  | 1 => exact ⟨_, _, _, _, this⟩
  | 2 => exact ⟨_, _, _, _, this⟩
  | 3 => exact ⟨_, _, _, _, this⟩
  | j + 4 => exact ⟨v0, v1, v2, v3, by simpa using this⟩
theorem TVar.cells {w : World} {T : Nat} (h : TVar w T) : ∃ v0 v1 v2 v3, w.cell? ⟨T, 0, none⟩ = some v0 ∧ w.cell? ⟨T, 1, none⟩ = some v1 ∧ w.cell? ⟨T, 2, none⟩ = some v2 ∧ w.cell? ⟨T, 3, none⟩ = some v3 ∧ ∀ j, w.frozen? ⟨T, j, none⟩ = false := by
  obtain ⟨v0, v1, v2, v3, h⟩ := h
  exact ⟨v0, v1, v2, v3, cell_of_row w T 0 _ _ (0, 0) h, cell_of_row w T 1 _ _ (0, 0) h, cell_of_row w T 2 _ _ (0, 0) h, cell_of_row w T 3 _ _ (0, 0) h, fun j => frozen_of_row w T j _ _ h⟩

/-- What is known at every label. -/
structure LexAt (s : ByteArray) (w : World) (k : Nat) (vO : Value) (done : List Tok) (w' : World) : Prop where
  le : k ≤ s.size
  small : s.size ≤ 4096
  few : done.length ≤ k
  bel : Below w.heap.size w w'
  tv : TVar w' w.heap.size
  siz : w.heap.size < w'.heap.size
  out : ∃ A c, vO = .slice A done.length c ∧ Own w' (w.heap.size + 1) 67 4 A done.length c (toksC done)
theorem LexAt.on {s : ByteArray} {w w' : World} {k k2 : Nat} {vO : Value} {done : List Tok} (h : LexAt s w k vO done w') (hk : k ≤ k2) (hk2 : k2 ≤ s.size) : LexAt s w k2 vO done w' :=
  { h with le := hk2, few := by have := h.few; omega }
theorem TVar.below {w w' : World} {T B : Nat} (h : TVar w T) (hb : Below B w w') (hT : T < B) : TVar w' T := by
  obtain ⟨v0, v1, v2, v3, h⟩ := h
  exact ⟨v0, v1, v2, v3, (hb.block T hT).trans h⟩
theorem LexAt.snoc {s : ByteArray} {w w' w2 : World} {k k2 c' : Nat} {vO : Value} {A' : Option Addr} {done : List Tok} {t : Tok} {o : Obj} (h : LexAt s w k vO done w')
    (ho : Own w2 (w.heap.size + 1) 67 4 A' (done.length + 1) c' (toksC done ++ toksC [t])) (hb : Below (w.heap.size + 1) (w'.alloc o) w2) (hk : k < k2) (hk2 : k2 ≤ s.size) : LexAt s w k2 (.slice A' (done.length + 1) c') (done ++ [t]) w2 := by
  have hs := h.siz
  have hb2 := (h.bel.alloc (by omega) o).trans (hb.mono (by omega))
  refine { le := hk2, small := h.small, few := ?_, bel := hb2, tv := (h.tv.alloc hs o).below hb (by omega), siz := ?_, out := ⟨A', c', ?_, ?_⟩ }
  · have := h.few; simp; omega
  · have := hb.size; simp at this; omega
  · simp
  · simpa [toksC] using ho
theorem lex_step {s : ByteArray} {k n : Nat} {ts : List Tok} (hk : k < s.size) (h : oneL k (s.data.toList.drop k) = .ok ts n) : lexL k (s.data.toList.drop k) = (lexL (k + n) (s.data.toList.drop (k + n))).pre ts := by
  have hd := drop_at hk
  rw [hd] at h
  rw [hd, lexL_cons, h, ← hd]
  simp only [List.drop_drop]
theorem lex_err {s : ByteArray} {k p : Nat} {e : Int} (hk : k < s.size) (h : oneL k (s.data.toList.drop k) = .err p e) : lexL k (s.data.toList.drop k) = .err p e := by
  have hd := drop_at hk
  rw [hd] at h
  rw [hd, lexL_cons, h]
theorem one_blank {s : ByteArray} {k : Nat} (hk : k < s.size) (h : blankB s[k] = true) : oneL k (s.data.toList.drop k) = .ok [] 1 := by
  rw [drop_at hk, oneL, if_pos h]
theorem one_quote {s : ByteArray} {k : Nat} (hk : k < s.size) (h1 : blankB s[k] = false) (h2 : dchar s[k] = false) (h3 : letB s[k] = false) (h : s[k].toNat = 34) : oneL k (s.data.toList.drop k) = textTok k 1 [] (textS false (s.data.toList.drop (k + 1))) := by
  rw [drop_at hk, oneL, if_neg (by simp [h1]), if_neg (by simp [h2]), if_neg (by simp [h3]), if_pos h]
theorem one_sign {s : ByteArray} {k : Nat} (hk : k < s.size) (h1 : blankB s[k] = false) (h2 : dchar s[k] = false) (h3 : letB s[k] = false) (h4 : s[k].toNat ≠ 34) : oneL k (s.data.toList.drop k) = if 0 < signN (s.data.toList.drop k) then .ok [⟨5, k, mkB ((s.data.toList.drop k).take (signN (s.data.toList.drop k))), 0⟩] (signN (s.data.toList.drop k)) else .err k 171 := by
  rw [drop_at hk, oneL, if_neg (by simp [h1]), if_neg (by simp [h2]), if_neg (by simp [h3]), if_neg h4]
theorem blank_no {c : UInt8} (h : blankB c = false) : ((c.toNat : Int) == 32) = false ∧ ((c.toNat : Int) == 9) = false ∧ ((c.toNat : Int) == 13) = false ∧ ((c.toNat : Int) == 10) = false := by
  simp [blankB] at h
  refine ⟨?_, ?_, ?_, ?_⟩ <;> (rw [beq_eq_false_iff_ne]; omega)
def lexK0 (s : ByteArray) (w : World) (k : Nat) (vO : Value) (w' : World) : Prop := ∃ done, LexAt s w k vO done w' ∧ lexL 0 s.data.toList = (lexL k (s.data.toList.drop k)).pre done
def lexK1 (s : ByteArray) (w : World) (k : Nat) (vO vF : Value) (w' : World) : Prop := ∃ done, LexAt s w k vO done w' ∧ lexL 0 s.data.toList = (lexL k (s.data.toList.drop k)).pre done ∧ vF = .int .i64 k ∧ ∃ h : k < s.size, blankB s[k] = false ∧ dchar s[k] = true
def lexK2 (s : ByteArray) (w : World) (k : Nat) (vO vF : Value) (w' : World) : Prop := ∃ done, LexAt s w k vO done w' ∧ lexL 0 s.data.toList = (lexL k (s.data.toList.drop k)).pre done ∧ vF = .int .i64 k ∧ ∃ h : k < s.size, blankB s[k] = false ∧ dchar s[k] = false ∧ letB s[k] = true
def lexT (b : Bool) (d : Nat) (s : ByteArray) (w : World) (k : Nat) (vO vS vF : Value) (w' : World) : Prop := ∃ done f acc A c, LexAt s w k vO done w' ∧ lexL 0 s.data.toList = (lexL f (s.data.toList.drop f)).pre done ∧ vF = .int .i64 (f : Nat) ∧ f < k ∧ done.length ≤ f ∧
  vS = .slice A acc.length c ∧ Own w' (w.heap.size + 1) 5 1 A acc.length c (bytesC acc) ∧ acc.length ≤ k ∧ oneL f (s.data.toList.drop f) = textTok f (k + d - f) acc (textS b (s.data.toList.drop (k + d)))
def lexK4 (s : ByteArray) (w : World) (k : Nat) (vO vS vF : Value) (w' : World) : Prop := lexT true 1 s w k vO vS vF w' ∧ k < s.size
theorem frame_map (tmps : Array Value) : tmps = ((List.range tmps.size).map fun i => tmps.getD i undef).toArray := by
  apply Array.ext
  · simp
  · intro i h1 h2
    simp [Array.getD, h1]
set_option maxRecDepth 100000 in
theorem frame_any (tmps : Array Value) (h : tmps.size = 215) : ∃ u : Nat → Value, tmps = #[u 0, u 1, u 2, u 3, u 4, u 5, u 6, u 7, u 8, u 9, u 10, u 11, u 12, u 13, u 14, u 15, u 16, u 17, u 18, u 19, u 20, u 21, u 22, u 23, u 24, u 25, u 26, u 27, u 28, u 29, u 30, u 31, u 32, u 33, u 34, u 35, u 36, u 37, u 38, u 39, u 40, u 41, u 42, u 43, u 44, u 45, u 46, u 47, u 48, u 49, u 50, u 51, u 52, u 53, u 54, u 55, u 56, u 57, u 58, u 59, u 60, u 61, u 62, u 63, u 64, u 65, u 66, u 67, u 68, u 69, u 70, u 71, u 72, u 73, u 74, u 75, u 76, u 77, u 78, u 79, u 80, u 81, u 82, u 83, u 84, u 85, u 86, u 87, u 88, u 89, u 90, u 91, u 92, u 93, u 94, u 95, u 96, u 97, u 98, u 99, u 100, u 101, u 102, u 103, u 104, u 105, u 106, u 107, u 108, u 109, u 110, u 111, u 112, u 113, u 114, u 115, u 116, u 117, u 118, u 119, u 120, u 121, u 122, u 123, u 124, u 125, u 126, u 127, u 128, u 129, u 130, u 131, u 132, u 133, u 134, u 135, u 136, u 137, u 138, u 139, u 140, u 141, u 142, u 143, u 144, u 145, u 146, u 147, u 148, u 149, u 150, u 151, u 152, u 153, u 154, u 155, u 156, u 157, u 158, u 159, u 160, u 161, u 162, u 163, u 164, u 165, u 166, u 167, u 168, u 169, u 170, u 171, u 172, u 173, u 174, u 175, u 176, u 177, u 178, u 179, u 180, u 181, u 182, u 183, u 184, u 185, u 186, u 187, u 188, u 189, u 190, u 191, u 192, u 193, u 194, u 195, u 196, u 197, u 198, u 199, u 200, u 201, u 202, u 203, u 204, u 205, u 206, u 207, u 208, u 209, u 210, u 211, u 212, u 213, u 214] ∧ ∀ i, tmps.getD i undef = u i := by
  refine ⟨fun i => tmps.getD i undef, ?_, fun i => rfl⟩
  have := frame_map tmps
  rw [h] at this
  exact this
def lexFr (s : ByteArray) (w : World) (k : Nat) (vO vS vF : Value) (a : Act) : Prop :=
  a.tmps.size = 215 ∧ a.defers = [] ∧ a.tmps.getD 0 undef = .string s ∧ a.tmps.getD 2 undef = .slice none 0 0 ∧ a.tmps.getD 3 undef = .int .i64 0 ∧ a.tmps.getD 4 undef = .int .i64 0 ∧ a.tmps.getD 5 undef = vO ∧ a.tmps.getD 6 undef = vS ∧ a.tmps.getD 7 undef = .pointer (some ⟨w.heap.size, 0, none⟩) ∧ a.tmps.getD 8 undef = .int .i64 (k : Nat) ∧ a.tmps.getD 9 undef = vF
def lexJ (s : ByteArray) (w : World) (l : Nat) (a : Act) (w' : World) : Prop :=
  ∃ (k : Nat) (vO vS vF : Value), lexFr s w k vO vS vF a ∧
    ((l = 0 ∧ lexK0 s w k vO w') ∨ (l = 1 ∧ lexK1 s w k vO vF w') ∨ (l = 2 ∧ lexK2 s w k vO vF w') ∨ (l = 3 ∧ lexT false 0 s w k vO vS vF w') ∨ (l = 4 ∧ lexK4 s w k vO vS vF w'))
def lexM (s : ByteArray) (l : Nat) (a : Act) (_ : World) : Nat := 2 * (s.size - (intOf (a.tmps.getD 8 undef)).toNat) + (if l = 0 ∨ l = 3 then 1 else 0)
def LexOk (base : Nat) (r : LexR) (e : Ending) (w' : World) : Prop := match r with
  | .ok ts => ∃ A c, e = .returned (.tuple #[.slice A ts.length c, .int .i64 0, .int .i64 0]) ∧ Own w' base 67 4 A ts.length c (toksC ts)
  | .err p x => e = .returned (.tuple #[.slice none 0 0, .int .i64 p, .int .i64 x])

theorem one_num {s : ByteArray} {k : Nat} (hk : k < s.size) (h1 : blankB s[k] = false) (h2 : dchar s[k] = true) : oneL k (s.data.toList.drop k) = numTok k ((s.data.toList.drop k).takeWhile numC) := by
  rw [drop_at hk, oneL, if_neg (by simp [h1]), if_pos h2]
theorem one_word {s : ByteArray} {k : Nat} (hk : k < s.size) (h1 : blankB s[k] = false) (h2 : dchar s[k] = false) (h3 : letB s[k] = true) : oneL k (s.data.toList.drop k) = .ok [⟨3, k, mkB ((s.data.toList.drop k).takeWhile wordC), 0⟩] (runN wordC (s.data.toList.drop k)) := by
  rw [drop_at hk, oneL, if_neg (by simp [h1]), if_neg (by simp [h2]), if_pos h3]
theorem run_step {s : ByteArray} {q : UInt8 → Bool} {k j : Nat} (hkj : k ≤ j) (h : j < s.size) (hq : q s[j] = true) (HJ : (s.data.toList.drop k).takeWhile q = (s.data.toList.drop k).take (j - k) ++ (s.data.toList.drop j).takeWhile q) :
    (s.data.toList.drop k).takeWhile q = (s.data.toList.drop k).take (j + 1 - k) ++ (s.data.toList.drop (j + 1)).takeWhile q := by
  have h' : j < s.data.toList.length := by rw [← Lib.size_eq]; exact h
  have e : (s.data.toList.drop k).take (j + 1 - k) = (s.data.toList.drop k).take (j - k) ++ [s[j]] := by
    rw [show j + 1 - k = (j - k) + 1 from by omega, List.take_add_one, List.getElem?_drop, show k + (j - k) = j from by omega, List.getElem?_eq_getElem h']
    rfl
  rw [HJ, e, drop_at h, List.takeWhile_cons, if_pos hq, List.append_assoc]; rfl
theorem run_stop {s : ByteArray} {q : UInt8 → Bool} {k j : Nat} (hjs : j ≤ s.size) (h : ∀ hj : j < s.size, q s[j] = false) (HJ : (s.data.toList.drop k).takeWhile q = (s.data.toList.drop k).take (j - k) ++ (s.data.toList.drop j).takeWhile q) :
    (s.data.toList.drop k).takeWhile q = (s.extract k j).data.toList := by
  rw [HJ, extract_toL]
  by_cases hj : j < s.size
  · rw [drop_at hj, List.takeWhile_cons, if_neg (by simp [h hj]), List.append_nil]
  · rw [show j = s.size from by omega, drop_end, List.takeWhile_nil, List.append_nil]
theorem ext_size {s : ByteArray} {k j : Nat} (hkj : k ≤ j) (hj : j ≤ s.size) : (s.extract k j).size = j - k := by rw [ByteArray.size_extract]; omega
theorem mkB_ext {s : ByteArray} {k j : Nat} : mkB (s.extract k j).data.toList = s.extract k j := by
  apply ByteArray.ext; apply Array.toList_inj.1; rfl
theorem Own.setBelow {w : World} {base sz n c : Nat} {e : TypeId} {A : Option Addr} {xs : List (List Value)} (h : Own w base e sz A n c xs) {a : Addr} (ha : a.block < base) (u : Value) : Own (w.setCell a u) base e sz A n c xs :=
  ⟨h.1, h.2.1, h.2.2.1, ownsRow_setCell_below h.2.2.2 ha u⟩
theorem LexAt.snoc2 {s : ByteArray} {w w' w1 w2 : World} {k k2 c' : Nat} {vO : Value} {A' : Option Addr} {done : List Tok} {t : Tok} {o : Obj} (h : LexAt s w k vO done w') (hb1 : Below w.heap.size w w1) (ht1 : TVar w1 w.heap.size) (hs : w.heap.size < w1.heap.size)
    (ho : Own w2 (w.heap.size + 1) 67 4 A' (done.length + 1) c' (toksC done ++ toksC [t])) (hb : Below (w.heap.size + 1) (w1.alloc o) w2) (hk : k < k2) (hk2 : k2 ≤ s.size) : LexAt s w k2 (.slice A' (done.length + 1) c') (done ++ [t]) w2 := by
  have hb2 := (hb1.alloc (by omega) o).trans (hb.mono (by omega))
  refine { le := hk2, small := h.small, few := ?_, bel := hb2, tv := (ht1.alloc hs o).below hb (by omega), siz := ?_, out := ⟨A', c', ?_, ?_⟩ }
  · have := h.few; simp; omega
  · have := hb.size; simp at this; omega
  · simp
  · simpa [toksC] using ho
theorem Rd.tok {w : World} {e : TypeId} {b : Nat} (t : Tok) (hb : b = w.heap.size) : Rd (w.alloc (.cells #[.int .i64 t.kind, .int .i64 t.at_, .string t.text, .int .i64 t.span] e)) (b + 1) 4 (some ⟨b, 0, none⟩) (toksC [t]) := by
  subst hb
  exact Rd.new w (toksC_sz _) _ rfl
/-- The token's block, its cells told. -/
def TB (w : World) (T : Nat) (x0 x1 x2 x3 : Value) : Prop := w.heap[T]? = some (.cells #[x0, x1, x2, x3] 67 (0, 0))
theorem TB.set0 {w : World} {T : Nat} {x0 x1 x2 x3 : Value} (h : TB w T x0 x1 x2 x3) (u : Value) : TB (w.setCell ⟨T, 0, none⟩ u) T u x1 x2 x3 := heap_setCell_same w T 0 _ _ u h
theorem TB.set1 {w : World} {T : Nat} {x0 x1 x2 x3 : Value} (h : TB w T x0 x1 x2 x3) (u : Value) : TB (w.setCell ⟨T, 1, none⟩ u) T x0 u x2 x3 := heap_setCell_same w T 1 _ _ u h
theorem TB.set2 {w : World} {T : Nat} {x0 x1 x2 x3 : Value} (h : TB w T x0 x1 x2 x3) (u : Value) : TB (w.setCell ⟨T, 2, none⟩ u) T x0 x1 u x3 := heap_setCell_same w T 2 _ _ u h
theorem TB.set3 {w : World} {T : Nat} {x0 x1 x2 x3 : Value} (h : TB w T x0 x1 x2 x3) (u : Value) : TB (w.setCell ⟨T, 3, none⟩ u) T x0 x1 x2 u := heap_setCell_same w T 3 _ _ u h
theorem TB.cells {w : World} {T : Nat} {x0 x1 x2 x3 : Value} (h : TB w T x0 x1 x2 x3) : w.cell? ⟨T, 0, none⟩ = some x0 ∧ w.cell? ⟨T, 1, none⟩ = some x1 ∧ w.cell? ⟨T, 2, none⟩ = some x2 ∧ w.cell? ⟨T, 3, none⟩ = some x3 ∧ ∀ j, w.frozen? ⟨T, j, none⟩ = false :=
  ⟨cell_of_row w T 0 _ _ (0, 0) h, cell_of_row w T 1 _ _ (0, 0) h, cell_of_row w T 2 _ _ (0, 0) h, cell_of_row w T 3 _ _ (0, 0) h, fun j => frozen_of_row w T j _ _ h⟩
theorem TB.tv {w : World} {T : Nat} {x0 x1 x2 x3 : Value} (h : TB w T x0 x1 x2 x3) : TVar w T := ⟨_, _, _, _, h⟩
theorem strOf_map (l : List UInt8) : strOfNums (l.map fun b => (b.toNat : Int)) = mkB l := by
  simp only [strOfNums, mkB, List.map_map]
  congr 2
  conv => rhs; rw [← List.map_id l]
  apply List.map_congr_left
  intro b _
  show UInt8.ofNat (Int.toNat (b.toNat : Int)) = b
  rw [Int.toNat_natCast]
  exact UInt8.toNat_inj.1 (by rw [UInt8.toNat_ofNat']; have := b.toNat_lt; omega)
theorem run_conv_rd {P : Program} {w : World} {B : Nat} {A : Option Addr} {acc : List UInt8} (hr : Rd w B 1 A (bytesC acc)) (src e dst : TypeId) (hs : P.underlying src = some (.slice e)) (he : P.underlying e = some (.int .u8)) (hd : P.underlying dst = some .string) (n c : Nat) (hn : acc.length = n) (hA : acc = [] → A = none ∨ ∃ b o, A = some ⟨b, o, none⟩) :
    (convert src dst (.slice A n c)).run P w = .ok (.string (mkB acc)) w := by
  have key : ∀ b o, A = some ⟨b, o, none⟩ → (convert src dst (.slice A n c)).run P w = .ok (.string (mkB acc)) w := by
    rintro b o rfl
    rw [← strOf_map]
    refine run_convert_bytes_arg (P := P) w src e hs he b o n c _ (by simpa using hn) (fun i hi => ?_) dst hd
    have hi' : i < acc.length := by omega
    obtain ⟨b', o', e', _, hc⟩ := hr.at1 (k := i) (v0 := .int .u8 ((acc[i]'hi').toNat : Int)) (by simp [bytesC, hi'])
    injection e' with e'; injection e' with e1 e2; subst e1 e2
    rw [hc]; simp [hi']
  cases hacc : acc with
  | nil =>
    rcases hA hacc with rfl | ⟨b, o, h⟩
    · have := run_convert_bytes_nil (P := P) w src e hs he n c dst hd
      exact this
    · rw [← hacc]; exact key b o h
  | cons x r =>
    obtain ⟨b, o, h, _, _⟩ := hr.2 (by rw [hacc]; simp [bytesC])
    rw [← hacc]; exact key b o h
theorem text_go (f m : Nat) (acc : List UInt8) (c : UInt8) (o : Option (List UInt8 × Nat)) : textTok f m acc (o.map fun x => (c :: x.1, x.2 + 1)) = textTok f (m + 1) (acc ++ [c]) o := by
  cases o with
  | none => rfl
  | some x => simp only [Option.map_some, textTok, List.append_assoc, List.singleton_append]; congr 1; omega
theorem text_esc (f m : Nat) (acc : List UInt8) (o : Option (List UInt8 × Nat)) : textTok f m acc (o.map fun x => (x.1, x.2 + 1)) = textTok f (m + 1) acc o := by
  cases o with
  | none => rfl
  | some x => simp only [Option.map_some, textTok]; congr 1; omega
theorem LexAt.grown {s : ByteArray} {w w' w2 : World} {k k2 n c : Nat} {vO : Value} {done : List Tok} {A : Option Addr} {xs : List (List Value)} {o : Obj} (h : LexAt s w k vO done w') (hs : Own w' (w.heap.size + 1) 5 1 A n c xs)
    (hg : (w'.alloc o).grownBy w2 (A.map Addr.block)) (hb : Below (w.heap.size + 1) (w'.alloc o) w2) (hk : k ≤ k2) (hk2 : k2 ≤ s.size) : LexAt s w k2 vO done w2 := by
  obtain ⟨A', c', e, ho⟩ := h.out
  have hz := h.siz
  refine { le := hk2, small := h.small, few := by have := h.few; omega, bel := (h.bel.alloc (by omega) o).trans (hb.mono (by omega)), tv := (h.tv.alloc hz o).below hb (by omega), siz := by have := hb.size; simp at this; omega, out := ⟨A', c', e, ?_⟩ }
  exact (ho.alloc o).grown hg ((ho.alloc o).ne_ (hs.alloc o) (by decide))
theorem Rd.byte {w : World} {e : TypeId} {b : Nat} (x : UInt8) (hb : b = w.heap.size) : Rd (w.alloc (.cells #[.int .u8 (x.toNat : Int)] e)) (b + 1) 1 (some ⟨b, 0, none⟩) (bytesC [x]) := by
  subst hb
  exact Rd.new w (by simp [bytesC]) _ rfl
theorem one_bytes (l : List UInt8) : ∀ y ∈ bytesC l, ∀ u ∈ y, u.oneCell' = true := by
  intro y hy u hu
  obtain ⟨l, _, rfl⟩ := List.mem_map.1 hy
  simp at hu
  subst hu; rfl
theorem Own.shape {w : World} {base sz n c : Nat} {e : TypeId} {A : Option Addr} {xs : List (List Value)} (h : Own w base e sz A n c xs) : A = none ∨ ∃ b o, A = some ⟨b, o, none⟩ := by
  rcases h.form with ⟨h, _⟩ | ⟨g, h, _⟩
  · exact .inl h
  · exact .inr ⟨g, 0, h⟩
end
section
/-! ## Lex -/
open Go.RowKit

set_option maxRecDepth 100000 in
set_option maxHeartbeats 20000000 in
theorem lex_any (s : ByteArray) (w : World) (hs : s.size ≤ maxLen) :
    Calls Tryz.prog 26 #[.string s] w fun e w' => LexOk w.heap.size (lexR s) e w' ∧ Below w.heap.size w w' := by
  unfold maxLen at hs
  go_enter Tryz.func26, Tryz.ntmps26
  go_wp2_with fail
  refine wp_scope5 (lexJ s w) (lexM s) ?_ rfl rfl rfl rfl rfl ?_ ?_ ?_ ?_ ?_ ?_
  · rintro l a w' ⟨_, _, _, _, _, ⟨rfl, _⟩ | ⟨rfl, _⟩ | ⟨rfl, _⟩ | ⟨rfl, _⟩ | ⟨rfl, _⟩⟩ <;> omega
  · intro ih0 ih1 ih2 ih3 ih4
    have IH0 := Lib.hid ih0
    clear ih0 ih1 ih2 ih3 ih4
    by_cases hbig : 4096 < s.size
    · have HT : Hid (lexR s = .err 0 170) := if_pos hbig
      have hI : (4096 : Int) < s.size := by omega
      clear hbig IH0
      go_wp2_with fail
      simp only [jumps]
      go_ret3
      exact ⟨by rw [HT.out]; rfl, (Below.refl _ _).alloc (Nat.le_refl _) _⟩
    · have HT : Hid (lexR s = lexL 0 s.data.toList) := if_neg hbig
      have hI : ¬ (4096 : Int) < s.size := by omega
      go_wp2_with fail
      go_step3
      refine (‹∀ (a : Act) (w : World), _ → _› : ∀ (a : Act) (w : World), _ → _) _ _ ?_
      refine IH0.out _ _ ⟨0, _, _, _, ⟨rfl, rfl, rfl, rfl, rfl, rfl, rfl, rfl, rfl, rfl, rfl⟩, .inl ⟨rfl, [], ?_, (pre_nil _).symm⟩⟩
      exact { le := by omega, small := by omega, few := Nat.le_refl _, bel := (Below.refl _ _).alloc (Nat.le_refl _) _, tv := ⟨_, _, _, _, heap_alloc_new w _⟩, siz := by simp, out := ⟨none, 0, rfl, Own.nil_ (by omega)⟩ }
  · rintro ⟨tmps, defers⟩ w' ⟨k, vO, vS, vF, ⟨hz, hd, f0, f2, f3, f4, f5, f6, f7, f8, f9⟩, hJ⟩ ih0 ih1 ih2 ih3 ih4
    obtain ⟨u, hu, hv⟩ := frame_any tmps hz
    rw [hv] at f0 f2 f3 f4 f5 f6 f7 f8 f9
    clear hv hz
    simp only at hd
    rw [f0, f2, f3, f4, f5, f6, f7, f8, f9] at hu
    dsimp only at hu
    subst hu hd
    clear f0 f2 f3 f4 f5 f6 f7 f8 f9 ih0 ih1 ih2 ih3 ih4
    rcases hJ with ⟨_, done, hK, HR⟩ | ⟨h, _⟩ | ⟨h, _⟩ | ⟨h, _⟩ | ⟨h, _⟩
    case inr.inl | inr.inr.inl | inr.inr.inr.inl | inr.inr.inr.inr => omega
    obtain ⟨A, c, rfl, hO⟩ := hK.out
    by_cases hlt : k < s.size
    · have hltI : (k : Int) < s.size := by omega
      have hk0 : (0 : Int) ≤ k := by omega
      have hkI : ((k : Int) == s.size) = false := by rw [beq_eq_false_iff_ne]; omega
      have hsm := hK.small
      have hfew : done.length ≤ 4096 := by have := hK.few; have := hK.le; omega
      have hsz := hK.siz
      have hbel := hK.bel
      cases hb : blankB s[k] with
      | true =>
        have HR2 : Hid (lexL 0 s.data.toList = (lexL (k + 1) (s.data.toList.drop (k + 1))).pre done) := by
          show _ = _
          rw [HR, lex_step hlt (one_blank hlt hb), pre_nil]
        have hq : s[k].toNat = 32 ∨ s[k].toNat = 9 ∨ s[k].toNat = 13 ∨ s[k].toNat = 10 := by simp [blankB] at hb; omega
        clear HR hb
        rcases hq with hq | hq | hq | hq
        · have hqI : (s[k].toNat : Int) = 32 := by omega
          clear hq
          go_wp2_with fail
          go_step3
          exact ⟨⟨k + 1, _, _, _, ⟨rfl, rfl, rfl, rfl, rfl, rfl, rfl, rfl, rfl, rfl, rfl⟩, .inl ⟨rfl, done, hK.on (by omega) hlt, HR2⟩⟩, by have := hlt; simp [lexM, intOf]; omega⟩
        · have hqI : (s[k].toNat : Int) = 9 := by omega
          clear hq
          go_wp2_with fail
          go_step3
          exact ⟨⟨k + 1, _, _, _, ⟨rfl, rfl, rfl, rfl, rfl, rfl, rfl, rfl, rfl, rfl, rfl⟩, .inl ⟨rfl, done, hK.on (by omega) hlt, HR2⟩⟩, by have := hlt; simp [lexM, intOf]; omega⟩
        · have hqI : (s[k].toNat : Int) = 13 := by omega
          clear hq
          go_wp2_with fail
          go_step3
          exact ⟨⟨k + 1, _, _, _, ⟨rfl, rfl, rfl, rfl, rfl, rfl, rfl, rfl, rfl, rfl, rfl⟩, .inl ⟨rfl, done, hK.on (by omega) hlt, HR2⟩⟩, by have := hlt; simp [lexM, intOf]; omega⟩
        · have hqI : (s[k].toNat : Int) = 10 := by omega
          clear hq
          go_wp2_with fail
          go_step3
          exact ⟨⟨k + 1, _, _, _, ⟨rfl, rfl, rfl, rfl, rfl, rfl, rfl, rfl, rfl, rfl, rfl⟩, .inl ⟨rfl, done, hK.on (by omega) hlt, HR2⟩⟩, by have := hlt; simp [lexM, intOf]; omega⟩
      | false =>
        obtain ⟨n1, n2, n3, n4⟩ := blank_no hb
        cases hd : dchar s[k] with
        | true =>
          have HD1 := fun (W : World) => Lib.hid (hd ▸ digit_any s[k] W)
          have HB : Hid (∃ h : k < s.size, blankB s[k] = false ∧ dchar s[k] = true) := ⟨hlt, hb, hd⟩
          have HR2 := Lib.hid HR
          clear HR hb hd
          go_wp2_with (go_at_call 56; refine ((HD1 _).out).mono ?_; rintro e w' ⟨rfl, rfl⟩)
          go_step3
          exact ⟨⟨k, _, _, _, ⟨rfl, rfl, rfl, rfl, rfl, rfl, rfl, rfl, rfl, rfl, rfl⟩, .inr (.inl ⟨rfl, done, hK, HR2, rfl, HB⟩)⟩, by simp [lexM, intOf]⟩
        | false =>
          have HD1 := fun (W : World) => Lib.hid (hd ▸ digit_any s[k] W)
          cases hl : letB s[k] with
          | true =>
            have HL1 := fun (W : World) => Lib.hid (hl ▸ letter_any s[k] W)
            have HB : Hid (∃ h : k < s.size, blankB s[k] = false ∧ dchar s[k] = false ∧ letB s[k] = true) := ⟨hlt, hb, hd, hl⟩
            have HR2 := Lib.hid HR
            clear HR hb hd hl
            go_wp2_with (first | (go_at_call 56; refine ((HD1 _).out).mono ?_; rintro e w' ⟨rfl, rfl⟩) | (go_at_call 57; refine ((HL1 _).out).mono ?_; rintro e w' ⟨rfl, rfl⟩))
            go_step3
            exact ⟨⟨k, _, _, _, ⟨rfl, rfl, rfl, rfl, rfl, rfl, rfl, rfl, rfl, rfl, rfl⟩, .inr (.inr (.inl ⟨rfl, done, hK, HR2, rfl, HB⟩))⟩, by simp [lexM, intOf]⟩
          | false =>
            have HL1 := fun (W : World) => Lib.hid (hl ▸ letter_any s[k] W)
            by_cases hq : s[k].toNat = 34
            · have hqI : (s[k].toNat : Int) = 34 := by omega
              have HO1 : Hid (oneL k (s.data.toList.drop k) = textTok k (k + 1 + 0 - k) ([] ++ []) (textS false (s.data.toList.drop (k + 1 + 0)))) := by
                show _ = _
                rw [one_quote hlt hb hd hl hq, Nat.add_zero, Nat.add_sub_cancel_left]; rfl
              simp only [hqI] at HD1 HL1
              have HR2 := Lib.hid HR
              clear HR hb hd hl hq
              go_wp2_with (first | (go_at_call 56; refine ((HD1 _).out).mono ?_; rintro e w' ⟨rfl, rfl⟩) | (go_at_call 57; refine ((HL1 _).out).mono ?_; rintro e w' ⟨rfl, rfl⟩))
              go_step3
              exact ⟨⟨k + 1, _, _, _, ⟨rfl, rfl, rfl, rfl, rfl, rfl, rfl, rfl, rfl, rfl, rfl⟩, .inr (.inr (.inr (.inl ⟨rfl, done, k, [], none, 0, hK.on (by omega) hlt, HR2, rfl, by omega, hK.few, rfl, Own.nil_ (by omega), by simp, HO1⟩)))⟩, by have := hlt; simp [lexM, intOf]; omega⟩
            · have hqI : ((s[k].toNat : Int) == 34) = false := by rw [beq_eq_false_iff_ne]; omega
              obtain ⟨X, hX⟩ : ∃ X, signS (s.extract k s.size) = X := ⟨_, rfl⟩
              have hxl : (s.extract k s.size).data.toList = s.data.toList.drop k := by rw [extract_toL, List.take_of_length_le (by simp)]
              have hXm : X = mkB ((s.data.toList.drop k).take (signN (s.data.toList.drop k))) := by rw [← hX, signS, hxl]; rfl
              have hle := signN_le (s.data.toList.drop k)
              have hlen : (s.data.toList.drop k).length = s.size - k := by rw [List.length_drop, ← Lib.size_eq]
              have hXs : X.size = signN (s.data.toList.drop k) := by rw [hXm, Lib.size_eq]; simp [mkB]; omega
              have HS1 := fun (W : World) => Lib.hid (hX ▸ sign_any (s.extract k s.size) W (by rw [Lib.size_eq, hxl, hlen]; omega))
              have HO := one_sign hlt hb hd hl hq
              by_cases hsg : 1 ≤ X.size
              · have hem := isEmpty_no hsg
                have HR2 : Hid (lexL 0 s.data.toList = (lexL (k + X.size) (s.data.toList.drop (k + X.size))).pre (done ++ [⟨5, k, X, 0⟩])) := by
                  show _ = _
                  rw [if_pos (by omega), ← hXm, ← hXs] at HO
                  rw [HR, lex_step hlt HO, pre_pre]
                have hXI : (k : Int) + X.size ≤ s.size := by omega
                have hXw : k + X.size ≤ s.size := by omega
                clear HR hb hd hl hq HO hX hXm hxl hle hlen hXs
                go_wp2_with (first | (go_at_call 56; refine ((HD1 _).out).mono ?_; rintro e w' ⟨rfl, rfl⟩) | (go_at_call 57; refine ((HL1 _).out).mono ?_; rintro e w' ⟨rfl, rfl⟩) | (go_at_call 58; refine ((HS1 _).out).mono ?_; rintro e w' ⟨rfl, rfl⟩) | (at_builtin; refine wpList_append_rd _ rfl (.tmp 64) (.tmp 68) _ rfl eiTok rfl (hO.alloc _) rfl (Rd.new w' (xs := toksC [⟨5, k, X, 0⟩]) (toksC_sz _) _ rfl) rfl (one_toks _) (by simp only [maxLen]; omega) (by omega) (by simp; omega) ?_; intro A' c' w2 ho hg hat hb))
                go_step3
                exact ⟨⟨k + X.size, _, _, _, ⟨rfl, rfl, rfl, rfl, rfl, rfl, rfl, rfl, rfl, rfl, rfl⟩, .inl ⟨rfl, _, hK.snoc ho hb (by omega) hXw, HR2⟩⟩, by simp [lexM, intOf]; omega⟩
              · have hem := isEmpty_yes hsg
                have HT : Hid (lexR s = .err k 171) := by
                  show _ = _
                  rw [if_neg (by omega)] at HO
                  rw [lexR, if_neg (by omega), HR, lex_err hlt HO]; rfl
                clear HR hb hd hl hq HO hX hXm hxl hle hlen hXs
                go_wp2_with (first | (go_at_call 56; refine ((HD1 _).out).mono ?_; rintro e w' ⟨rfl, rfl⟩) | (go_at_call 57; refine ((HL1 _).out).mono ?_; rintro e w' ⟨rfl, rfl⟩) | (go_at_call 58; refine ((HS1 _).out).mono ?_; rintro e w' ⟨rfl, rfl⟩))
                simp only [jumps]
                go_ret3
                exact ⟨by rw [HT.out]; rfl, hbel⟩
    · have hke : k = s.size := by have := hK.le; omega
      have HT : Hid (lexR s = .ok (done ++ [⟨0, k, mkB [], 0⟩])) := by
        show lexR s = _
        rw [lexR, if_neg (by have := hK.small; omega), HR, hke, drop_end]; rfl
      have hkI : ((k : Int) == s.size) = true := by rw [beq_iff_eq]; omega
      have hsm := hK.small
      have hfew : done.length ≤ 4096 := by have := hK.few; have := hK.le; omega
      have hsz := hK.siz
      have hbel := hK.bel
      clear HR hK hke hlt
      go_wp2_with (at_builtin; refine wpList_append_rd _ rfl (.tmp 21) (.tmp 24) _ rfl eiTok rfl (hO.alloc _) rfl (Rd.new w' (xs := toksC [⟨0, k, mkB [], 0⟩]) (toksC_sz _) _ rfl) rfl (one_toks _) (by simp only [maxLen]; omega) (by omega) (by simp; omega) ?_; intro A' c' w2 ho hg hat hb)
      simp only [jumps]
      go_ret3
      refine ⟨?_, (hbel.alloc (by omega) _).trans (hb.mono (by omega))⟩
      rw [HT.out]
      refine ⟨A', c', by rw [List.length_append]; rfl, ?_⟩
      rw [List.length_append]
      simpa [toksC] using ho.lower (Nat.le_succ _)
  · rintro ⟨tmps, defers⟩ w' ⟨k, vO, vS, vF, ⟨hz, hd, f0, f2, f3, f4, f5, f6, f7, f8, f9⟩, hJ⟩ ih0 ih1 ih2 ih3 ih4
    obtain ⟨u, hu, hv⟩ := frame_any tmps hz
    rw [hv] at f0 f2 f3 f4 f5 f6 f7 f8 f9
    clear hv hz
    simp only at hd
    rw [f0, f2, f3, f4, f5, f6, f7, f8, f9] at hu
    dsimp only at hu
    subst hu hd
    clear f0 f2 f3 f4 f5 f6 f7 f8 f9 ih0 ih1 ih2 ih3 ih4
    rcases hJ with ⟨h, _⟩ | ⟨_, done, hK, HR, rfl, hB⟩ | ⟨h, _⟩ | ⟨h, _⟩ | ⟨h, _⟩
    case inl | inr.inr.inl | inr.inr.inr.inl | inr.inr.inr.inr => omega
    obtain ⟨A, c, rfl, hO⟩ := hK.out
    have hsm := hK.small
    have hkle := hK.le
    have hfew : done.length ≤ 4096 := by have := hK.few; omega
    have hsz := hK.siz
    have hbel := hK.bel
    obtain ⟨v0, v1, v2, v3, htb⟩ := hK.tv
    have HTB : TB w' w.heap.size v0 v1 v2 v3 := htb
    obtain ⟨p0, p1, p2, p3, hfz⟩ := HTB.cells
    clear htb
    have HR2 := Lib.hid HR
    have HB := Lib.hid hB
    clear HR hB
    go_wp2_with fail
    go_loop [8] (fun i => ∃ j : Nat, k ≤ j ∧ j ≤ s.size ∧ i = .int .i64 j ∧ Hid ((s.data.toList.drop k).takeWhile numC = (s.data.toList.drop k).take (j - k) ++ (s.data.toList.drop j).takeWhile numC)) (fun i => s.size - (intOf i).toNat)
    case atStart => exact ⟨k, by omega, by omega, rfl, by show _ = _; simp⟩
    case round =>
      obtain ⟨j, hkj, hjs, rfl, HJ⟩ := hrel
      have hj0 : (0 : Int) ≤ j := by omega
      have hk0 : (0 : Int) ≤ k := by omega
      by_cases hq : ∃ hlt : j < s.size, numC s[j] = true
      · obtain ⟨hlt, hn⟩ := hq
        have hltI : (j : Int) < s.size := by omega
        have HJ2 := Lib.hid (run_step hkj hlt hn HJ.out)
        clear HJ
        cases hd : dchar s[j] with
        | true =>
          have HD1 := fun (W : World) => Lib.hid (hd ▸ digit_any s[j] W)
          clear hd hn
          go_wp2_with (go_at_call 56; refine ((HD1 _).out).mono ?_; rintro e w' ⟨rfl, rfl⟩)
          go_round
          case rel => exact ⟨j + 1, by omega, by omega, by go_num, HJ2⟩
          case measure => simp [intOf]; omega
        | false =>
          have HD1 := fun (W : World) => Lib.hid (hd ▸ digit_any s[j] W)
          cases hl : letB s[j] with
          | true =>
            have HL1 := fun (W : World) => Lib.hid (hl ▸ letter_any s[j] W)
            have h58 : ((s[j].toNat : Int) != 58) = true := by
              have h46 : s[j].toNat ≠ 46 := by intro h; simp [letB, h] at hl
              simp [numC, hd, h46] at hn
              rw [bne_iff_ne]; have := hn.2; omega
            clear hd hl hn
            go_wp2_with (first | (go_at_call 56; refine ((HD1 _).out).mono ?_; rintro e w' ⟨rfl, rfl⟩) | (go_at_call 57; refine ((HL1 _).out).mono ?_; rintro e w' ⟨rfl, rfl⟩))
            go_round
            case rel => exact ⟨j + 1, by omega, by omega, by go_num, HJ2⟩
            case measure => simp [intOf]; omega
          | false =>
            have HL1 := fun (W : World) => Lib.hid (hl ▸ letter_any s[j] W)
            have h46 : ((s[j].toNat : Int) == 46) = true := by
              simp [numC, hd, hl] at hn
              rw [beq_iff_eq]; omega
            clear hd hl hn
            go_wp2_with (first | (go_at_call 56; refine ((HD1 _).out).mono ?_; rintro e w' ⟨rfl, rfl⟩) | (go_at_call 57; refine ((HL1 _).out).mono ?_; rintro e w' ⟨rfl, rfl⟩))
            go_round
            case rel => exact ⟨j + 1, by omega, by omega, by go_num, HJ2⟩
            case measure => simp [intOf]; omega
      · have HX := Lib.hid (run_stop hjs (fun hj => by cases h : numC s[j] with | false => rfl | true => exact absurd ⟨hj, h⟩ hq) HJ.out)
        have hkj1 : k < j := by
          obtain ⟨hk, _, hd⟩ := HB.out
          have h1 : ((s.data.toList.drop k).takeWhile numC).length = j - k := by rw [HX.out, ← Lib.size_eq, ext_size hkj hjs]
          rw [drop_at hk, List.takeWhile_cons, if_pos (dchar_numC hd), List.length_cons] at h1
          omega
        have HN : Hid (oneL k (s.data.toList.drop k) = numTok k (s.extract k j).data.toList) := by
          obtain ⟨hk, hb, hd⟩ := HB.out
          show _ = _
          rw [one_num hk hb hd, HX.out]
        have hkI : (k : Int) ≤ j := by omega
        have hjI : (j : Int) ≤ s.size := by omega
        have HV := fun W => Lib.hid (span_any (s.extract k j) W (by rw [ext_size hkj hjs]; omega))
        have HM := fun W => Lib.hid (number_any (s.extract k j) W (by rw [ext_size hkj hjs]; omega))
        have hcase : (¬ j < s.size) ∨ (∃ hlt : j < s.size, dchar s[j] = false ∧ letB s[j] = true ∧ s[j].toNat = 58) ∨ (∃ hlt : j < s.size, dchar s[j] = false ∧ letB s[j] = false ∧ s[j].toNat ≠ 46) := by
          by_cases hlt : j < s.size
          · have hn : numC s[j] = false := by cases h : numC s[j] with | false => rfl | true => exact absurd ⟨hlt, h⟩ hq
            simp [numC] at hn
            cases hl : letB s[j] with
            | true => exact .inr (.inl ⟨hlt, hn.1.1, hl, hn.1.2 hl⟩)
            | false => exact .inr (.inr ⟨hlt, hn.1.1, hl, hn.2⟩)
          · exact .inl hlt
        clear hq HJ HX
        obtain ⟨vN, hvN⟩ : ∃ n, spanN (s.extract k j).data.toList = n := ⟨_, rfl⟩
        rw [hvN] at HV
        obtain ⟨bN, hbN⟩ : ∃ n, numB (s.extract k j).data.toList = n := ⟨_, rfl⟩
        rw [hbN] at HM
        have HN2 : Hid (oneL k (s.data.toList.drop k) = if 0 < vN then .ok [⟨2, k, s.extract k j, vN⟩] (j - k) else if bN then .ok [⟨1, k, s.extract k j, 0⟩] (j - k) else .err k 172) := by
          show _ = _
          rw [HN.out, numTok, hvN, hbN, mkB_ext, ← Lib.size_eq, ext_size hkj hjs]
        clear HN hvN hbN
        rcases hcase with hlt | ⟨hlt, hd, hl, h58⟩ | ⟨hlt, hd, hl, h46⟩
        case' inl => have hltI : ¬ (j : Int) < s.size := by omega
        case' inr.inl =>
          have hltI : (j : Int) < s.size := by omega
          have HD1 := fun (W : World) => Lib.hid (hd ▸ digit_any s[j] W)
          have HL1 := fun (W : World) => Lib.hid (hl ▸ letter_any s[j] W)
          have h58I : ((s[j].toNat : Int) != 58) = false := by rw [h58]; rfl
          have h46I : ((s[j].toNat : Int) == 46) = false := by rw [h58]; rfl
          clear hd hl h58
        case' inr.inr =>
          have hltI : (j : Int) < s.size := by omega
          have HD1 := fun (W : World) => Lib.hid (hd ▸ digit_any s[j] W)
          have HL1 := fun (W : World) => Lib.hid (hl ▸ letter_any s[j] W)
          have h46I : ((s[j].toNat : Int) == 46) = false := by rw [beq_eq_false_iff_ne]; omega
          clear hd hl h46
        all_goals
          by_cases hv : 0 < vN
          · have hvI : (0 : Int) < vN := by omega
            have HT : Hid (lexL 0 s.data.toList = (lexL j (s.data.toList.drop j)).pre (done ++ [⟨2, k, s.extract k j, vN⟩])) := by
              show _ = _
              rw [HR2.out, lex_step HB.out.1 (HN2.out.trans (if_pos hv)), pre_pre, show k + (j - k) = j from by omega]
            clear HN2
            go_wp2_with (first | (go_at_call 56; refine ((HD1 _).out).mono ?_; rintro e w' ⟨rfl, rfl⟩) | (go_at_call 57; refine ((HL1 _).out).mono ?_; rintro e w' ⟨rfl, rfl⟩))
            have HT1 := (((HTB.set0 (.int .i64 1)).set1 (.int .i64 k)).set2 (.string (s.extract k j))).set3 (.int .i64 0)
            have HO1 := ((((hO.setBelow (a := ⟨w.heap.size, 0, none⟩) (by simp) (.int .i64 1)).setBelow (a := ⟨w.heap.size, 1, none⟩) (by simp) (.int .i64 k)).setBelow (a := ⟨w.heap.size, 2, none⟩) (by simp) (.string (s.extract k j)))).setBelow (a := ⟨w.heap.size, 3, none⟩) (by simp) (.int .i64 0)
            have hb1 := (((hbel.setCell (p := ⟨w.heap.size, 0, none⟩) (by simp) (.int .i64 1)).setCell (p := ⟨w.heap.size, 1, none⟩) (by simp) (.int .i64 k)).setCell (p := ⟨w.heap.size, 2, none⟩) (by simp) (.string (s.extract k j))).setCell (p := ⟨w.heap.size, 3, none⟩) (by simp) (.int .i64 0)
            have hz1 : w.heap.size < ((((w'.setCell ⟨w.heap.size, 0, none⟩ (.int .i64 1)).setCell ⟨w.heap.size, 1, none⟩ (.int .i64 k)).setCell ⟨w.heap.size, 2, none⟩ (.string (s.extract k j))).setCell ⟨w.heap.size, 3, none⟩ (.int .i64 0)).heap.size := by simpa using hsz
            clear p0 p1 p2 p3 hfz HTB hO hbel hsz
            generalize hw1 : ((((w'.setCell ⟨w.heap.size, 0, none⟩ (.int .i64 1)).setCell ⟨w.heap.size, 1, none⟩ (.int .i64 k)).setCell ⟨w.heap.size, 2, none⟩ (.string (s.extract k j))).setCell ⟨w.heap.size, 3, none⟩ (.int .i64 0)) = w1 at *
            clear hw1
            obtain ⟨p0, p1, p2, p3, hfz⟩ := HT1.cells
            refine ((HV _).out).mono ?_; rintro e w' ⟨rfl, rfl⟩
            go_wp2_with (at_builtin; refine wpList_append_rd (ys := toksC [⟨2, k, s.extract k j, vN⟩]) _ rfl (.tmp 124) (.tmp 126) _ rfl eiTok rfl (((HO1.setBelow (a := ⟨w.heap.size, 3, none⟩) (by simp) _).setBelow (a := ⟨w.heap.size, 0, none⟩) (by simp) _).alloc _) rfl (Rd.tok ⟨2, k, s.extract k j, vN⟩ (by simp)) rfl (one_toks _) (by simp only [maxLen]; omega) (by omega) (by simp; omega) ?_; intro A' c' w2 ho hg hat hb)
            go_step3
            exact ⟨⟨j, _, _, _, ⟨rfl, rfl, rfl, rfl, rfl, rfl, rfl, rfl, rfl, rfl, rfl⟩, .inl ⟨rfl, _, hK.snoc2 ((hb1.setCell (by simp) _).setCell (by simp) _) ((HT1.set3 _).set0 _).tv (by simpa using hz1) ho hb hkj1 hjs, HT.out⟩⟩, by simp [lexM, intOf]; omega⟩
          · obtain rfl : vN = 0 := by omega
            cases bN with
            | true =>
              have HT : Hid (lexL 0 s.data.toList = (lexL j (s.data.toList.drop j)).pre (done ++ [⟨1, k, s.extract k j, 0⟩])) := by
                show _ = _
                rw [HR2.out, lex_step HB.out.1 HN2.out, pre_pre, show k + (j - k) = j from by omega]
              clear HN2 hv
              go_wp2_with (first | (go_at_call 56; refine ((HD1 _).out).mono ?_; rintro e w' ⟨rfl, rfl⟩) | (go_at_call 57; refine ((HL1 _).out).mono ?_; rintro e w' ⟨rfl, rfl⟩))
              have HT1 := (((HTB.set0 (.int .i64 1)).set1 (.int .i64 k)).set2 (.string (s.extract k j))).set3 (.int .i64 0)
              have HO1 := ((((hO.setBelow (a := ⟨w.heap.size, 0, none⟩) (by simp) (.int .i64 1)).setBelow (a := ⟨w.heap.size, 1, none⟩) (by simp) (.int .i64 k)).setBelow (a := ⟨w.heap.size, 2, none⟩) (by simp) (.string (s.extract k j)))).setBelow (a := ⟨w.heap.size, 3, none⟩) (by simp) (.int .i64 0)
              have hb1 := (((hbel.setCell (p := ⟨w.heap.size, 0, none⟩) (by simp) (.int .i64 1)).setCell (p := ⟨w.heap.size, 1, none⟩) (by simp) (.int .i64 k)).setCell (p := ⟨w.heap.size, 2, none⟩) (by simp) (.string (s.extract k j))).setCell (p := ⟨w.heap.size, 3, none⟩) (by simp) (.int .i64 0)
              have hz1 : w.heap.size < ((((w'.setCell ⟨w.heap.size, 0, none⟩ (.int .i64 1)).setCell ⟨w.heap.size, 1, none⟩ (.int .i64 k)).setCell ⟨w.heap.size, 2, none⟩ (.string (s.extract k j))).setCell ⟨w.heap.size, 3, none⟩ (.int .i64 0)).heap.size := by simpa using hsz
              clear p0 p1 p2 p3 hfz HTB hO hbel hsz
              generalize hw1 : ((((w'.setCell ⟨w.heap.size, 0, none⟩ (.int .i64 1)).setCell ⟨w.heap.size, 1, none⟩ (.int .i64 k)).setCell ⟨w.heap.size, 2, none⟩ (.string (s.extract k j))).setCell ⟨w.heap.size, 3, none⟩ (.int .i64 0)) = w1 at *
              clear hw1
              obtain ⟨p0, p1, p2, p3, hfz⟩ := HT1.cells
              refine ((HV _).out).mono ?_; rintro e w' ⟨rfl, rfl⟩
              go_wp2_with (first | (go_at_call 60; refine ((HM _).out).mono ?_; rintro e w' ⟨rfl, rfl⟩) | (at_builtin; refine wpList_append_rd (ys := toksC [⟨1, k, s.extract k j, 0⟩]) _ rfl (.tmp 124) (.tmp 126) _ rfl eiTok rfl ((HO1.setBelow (a := ⟨w.heap.size, 3, none⟩) (by simp) _).alloc _) rfl (Rd.tok ⟨1, k, s.extract k j, 0⟩ (by simp)) rfl (one_toks _) (by simp only [maxLen]; omega) (by omega) (by simp; omega) ?_; intro A' c' w2 ho hg hat hb))
              go_step3
              exact ⟨⟨j, _, _, _, ⟨rfl, rfl, rfl, rfl, rfl, rfl, rfl, rfl, rfl, rfl, rfl⟩, .inl ⟨rfl, _, hK.snoc2 (hb1.setCell (by simp) _) (HT1.set3 _).tv (by simpa using hz1) ho hb hkj1 hjs, HT.out⟩⟩, by simp [lexM, intOf]; omega⟩
            | false =>
              have HT : Hid (lexR s = .err k 172) := by
                show _ = _
                rw [lexR, if_neg (by omega), HR2.out, lex_err HB.out.1 HN2.out]; rfl
              clear HN2 hv
              go_wp2_with (first | (go_at_call 56; refine ((HD1 _).out).mono ?_; rintro e w' ⟨rfl, rfl⟩) | (go_at_call 57; refine ((HL1 _).out).mono ?_; rintro e w' ⟨rfl, rfl⟩))
              have HT1 := (((HTB.set0 (.int .i64 1)).set1 (.int .i64 k)).set2 (.string (s.extract k j))).set3 (.int .i64 0)
              have HO1 := ((((hO.setBelow (a := ⟨w.heap.size, 0, none⟩) (by simp) (.int .i64 1)).setBelow (a := ⟨w.heap.size, 1, none⟩) (by simp) (.int .i64 k)).setBelow (a := ⟨w.heap.size, 2, none⟩) (by simp) (.string (s.extract k j)))).setBelow (a := ⟨w.heap.size, 3, none⟩) (by simp) (.int .i64 0)
              have hb1 := (((hbel.setCell (p := ⟨w.heap.size, 0, none⟩) (by simp) (.int .i64 1)).setCell (p := ⟨w.heap.size, 1, none⟩) (by simp) (.int .i64 k)).setCell (p := ⟨w.heap.size, 2, none⟩) (by simp) (.string (s.extract k j))).setCell (p := ⟨w.heap.size, 3, none⟩) (by simp) (.int .i64 0)
              have hz1 : w.heap.size < ((((w'.setCell ⟨w.heap.size, 0, none⟩ (.int .i64 1)).setCell ⟨w.heap.size, 1, none⟩ (.int .i64 k)).setCell ⟨w.heap.size, 2, none⟩ (.string (s.extract k j))).setCell ⟨w.heap.size, 3, none⟩ (.int .i64 0)).heap.size := by simpa using hsz
              clear p0 p1 p2 p3 hfz HTB hO hbel hsz
              generalize hw1 : ((((w'.setCell ⟨w.heap.size, 0, none⟩ (.int .i64 1)).setCell ⟨w.heap.size, 1, none⟩ (.int .i64 k)).setCell ⟨w.heap.size, 2, none⟩ (.string (s.extract k j))).setCell ⟨w.heap.size, 3, none⟩ (.int .i64 0)) = w1 at *
              clear hw1
              obtain ⟨p0, p1, p2, p3, hfz⟩ := HT1.cells
              refine ((HV _).out).mono ?_; rintro e w' ⟨rfl, rfl⟩
              go_wp2_with (go_at_call 60; refine ((HM _).out).mono ?_; rintro e w' ⟨rfl, rfl⟩)
              simp only [jumps]
              go_ret3
              exact ⟨by rw [HT.out]; rfl, hb1.setCell (by simp) _⟩
  · rintro ⟨tmps, defers⟩ w' ⟨k, vO, vS, vF, ⟨hz, hd, f0, f2, f3, f4, f5, f6, f7, f8, f9⟩, hJ⟩ ih0 ih1 ih2 ih3 ih4
    obtain ⟨u, hu, hv⟩ := frame_any tmps hz
    rw [hv] at f0 f2 f3 f4 f5 f6 f7 f8 f9
    clear hv hz
    simp only at hd
    rw [f0, f2, f3, f4, f5, f6, f7, f8, f9] at hu
    dsimp only at hu
    subst hu hd
    clear f0 f2 f3 f4 f5 f6 f7 f8 f9 ih0 ih1 ih2 ih3 ih4
    rcases hJ with ⟨h, _⟩ | ⟨h, _⟩ | ⟨_, done, hK, HR, rfl, hB⟩ | ⟨h, _⟩ | ⟨h, _⟩
    case inl | inr.inl | inr.inr.inr.inl | inr.inr.inr.inr => omega
    obtain ⟨A, c, rfl, hO⟩ := hK.out
    have hsm := hK.small
    have hkle := hK.le
    have hfew : done.length ≤ 4096 := by have := hK.few; omega
    have hsz := hK.siz
    have hbel := hK.bel
    have HR2 := Lib.hid HR
    have HB := Lib.hid hB
    clear HR hB
    go_wp2_with fail
    go_loop [8] (fun i => ∃ j : Nat, k ≤ j ∧ j ≤ s.size ∧ i = .int .i64 j ∧ Hid ((s.data.toList.drop k).takeWhile wordC = (s.data.toList.drop k).take (j - k) ++ (s.data.toList.drop j).takeWhile wordC)) (fun i => s.size - (intOf i).toNat)
    case atStart => exact ⟨k, by omega, by omega, rfl, by show _ = _; simp⟩
    case round =>
      obtain ⟨j, hkj, hjs, rfl, HJ⟩ := hrel
      have hj0 : (0 : Int) ≤ j := by omega
      have hk0 : (0 : Int) ≤ k := by omega
      by_cases hq : ∃ hlt : j < s.size, wordC s[j] = true
      · obtain ⟨hlt, hn⟩ := hq
        have hltI : (j : Int) < s.size := by omega
        have HJ2 := Lib.hid (run_step hkj hlt hn HJ.out)
        clear HJ
        cases hl : letB s[j] with
        | true =>
          have HL1 := fun (W : World) => Lib.hid (hl ▸ letter_any s[j] W)
          clear hl hn
          go_wp2_with (go_at_call 57; refine ((HL1 _).out).mono ?_; rintro e w' ⟨rfl, rfl⟩)
          go_round
          case rel => exact ⟨j + 1, by omega, by omega, by go_num, HJ2⟩
          case measure => simp [intOf]; omega
        | false =>
          have HL1 := fun (W : World) => Lib.hid (hl ▸ letter_any s[j] W)
          have hd : dchar s[j] = true := by simpa [wordC, hl] using hn
          have HD1 := fun (W : World) => Lib.hid (hd ▸ digit_any s[j] W)
          clear hl hn hd
          go_wp2_with (first | (go_at_call 56; refine ((HD1 _).out).mono ?_; rintro e w' ⟨rfl, rfl⟩) | (go_at_call 57; refine ((HL1 _).out).mono ?_; rintro e w' ⟨rfl, rfl⟩))
          go_round
          case rel => exact ⟨j + 1, by omega, by omega, by go_num, HJ2⟩
          case measure => simp [intOf]; omega
      · have HX := Lib.hid (run_stop hjs (fun hj => by cases h : wordC s[j] with | false => rfl | true => exact absurd ⟨hj, h⟩ hq) HJ.out)
        have hkj1 : k < j := by
          obtain ⟨hk, _, _, hl⟩ := HB.out
          have h1 : ((s.data.toList.drop k).takeWhile wordC).length = j - k := by rw [HX.out, ← Lib.size_eq, ext_size hkj hjs]
          rw [drop_at hk, List.takeWhile_cons, if_pos (letB_wordC hl), List.length_cons] at h1
          omega
        have HN : Hid (oneL k (s.data.toList.drop k) = .ok [⟨3, k, s.extract k j, 0⟩] (j - k)) := by
          obtain ⟨hk, hb, hd, hl⟩ := HB.out
          show _ = _
          rw [one_word hk hb hd hl, runN, HX.out, mkB_ext, ← Lib.size_eq, ext_size hkj hjs]
        have HT : Hid (lexL 0 s.data.toList = (lexL j (s.data.toList.drop j)).pre (done ++ [⟨3, k, s.extract k j, 0⟩])) := by
          show _ = _
          rw [HR2.out, lex_step HB.out.1 HN.out, pre_pre, show k + (j - k) = j from by omega]
        have hkI : (k : Int) ≤ j := by omega
        have hjI : (j : Int) ≤ s.size := by omega
        have hcase : (¬ j < s.size) ∨ (∃ hlt : j < s.size, letB s[j] = false ∧ dchar s[j] = false) := by
          by_cases hlt : j < s.size
          · have hn : wordC s[j] = false := by cases h : wordC s[j] with | false => rfl | true => exact absurd ⟨hlt, h⟩ hq
            exact .inr ⟨hlt, by simpa [wordC] using hn⟩
          · exact .inl hlt
        clear hq HJ HX HN
        rcases hcase with hlt | ⟨hlt, hl, hd⟩
        case' inl => have hltI : ¬ (j : Int) < s.size := by omega
        case' inr =>
          have hltI : (j : Int) < s.size := by omega
          have HD1 := fun (W : World) => Lib.hid (hd ▸ digit_any s[j] W)
          have HL1 := fun (W : World) => Lib.hid (hl ▸ letter_any s[j] W)
          clear hd hl
        all_goals
          go_wp2_with (first | (go_at_call 56; refine ((HD1 _).out).mono ?_; rintro e w' ⟨rfl, rfl⟩) | (go_at_call 57; refine ((HL1 _).out).mono ?_; rintro e w' ⟨rfl, rfl⟩) | (at_builtin; refine wpList_append_rd (ys := toksC [⟨3, k, s.extract k j, 0⟩]) _ rfl (.tmp 146) (.tmp 153) _ rfl eiTok rfl (hO.alloc _) rfl (Rd.tok ⟨3, k, s.extract k j, 0⟩ (by simp)) rfl (one_toks _) (by simp only [maxLen]; omega) (by omega) (by simp; omega) ?_; intro A' c' w2 ho hg hat hb))
          go_step3
          exact ⟨⟨j, _, _, _, ⟨rfl, rfl, rfl, rfl, rfl, rfl, rfl, rfl, rfl, rfl, rfl⟩, .inl ⟨rfl, _, hK.snoc ho hb hkj1 hjs, HT.out⟩⟩, by simp [lexM, intOf]; omega⟩
  · rintro ⟨tmps, defers⟩ w' ⟨k, vO, vS, vF, ⟨hz, hd, f0, f2, f3, f4, f5, f6, f7, f8, f9⟩, hJ⟩ ih0 ih1 ih2 ih3 ih4
    obtain ⟨u, hu, hv⟩ := frame_any tmps hz
    rw [hv] at f0 f2 f3 f4 f5 f6 f7 f8 f9
    clear hv hz
    simp only at hd
    rw [f0, f2, f3, f4, f5, f6, f7, f8, f9] at hu
    dsimp only at hu
    subst hu hd
    clear f0 f2 f3 f4 f5 f6 f7 f8 f9 ih0 ih1 ih2 ih3 ih4
    rcases hJ with ⟨h, _⟩ | ⟨h, _⟩ | ⟨h, _⟩ | ⟨_, done, f, acc, A2, c2, hK, HR, rfl, hfk, hdf, rfl, hS, hak, HO⟩ | ⟨h, _⟩
    case inl | inr.inl | inr.inr.inl | inr.inr.inr.inr => omega
    obtain ⟨A, c, rfl, hO⟩ := hK.out
    have hsm := hK.small
    have hkle := hK.le
    have hfs : f < s.size := by omega
    have hfew : done.length ≤ 4096 := by omega
    have hsz := hK.siz
    have hbel := hK.bel
    have hcap := hS.cap
    have HR2 := Lib.hid HR
    have hk0 : (0 : Int) ≤ k := by omega
    rw [Nat.add_zero] at HO
    have HE : Hid (textS false (s.data.toList.drop k) = none → lexR s = .err f 173) := by
      intro h
      rw [h] at HO
      rw [lexR, if_neg (by omega), HR, lex_err hfs HO]; rfl
    clear HR
    by_cases hlt : k < s.size
    · have hltI : (k : Int) < s.size := by omega
      have hkI : ((k : Int) == s.size) = false := by rw [beq_eq_false_iff_ne]; omega
      have hd := drop_at hlt
      by_cases h32 : s[k].toNat < 32
      · have h32I : (s[k].toNat : Int) < 32 := by omega
        have HT : Hid (lexR s = .err f 173) := HE.out (by rw [hd, textS, if_pos h32])
        clear HE HO hd h32
        go_wp2_with fail
        simp only [jumps]
        go_ret3
        exact ⟨by rw [HT.out]; rfl, hbel⟩
      · have h32I : ¬ (s[k].toNat : Int) < 32 := by omega
        by_cases h34 : s[k].toNat = 34
        · have h34I : (s[k].toNat : Int) = 34 := by omega
          have HT : Hid (lexL 0 s.data.toList = (lexL (k + 1) (s.data.toList.drop (k + 1))).pre (done ++ [⟨4, f, mkB acc, 0⟩])) := by
            rw [hd, textS, if_neg h32, if_pos h34] at HO
            have HO' : oneL f (s.data.toList.drop f) = .ok [⟨4, f, mkB acc, 0⟩] (k - f + 1) := by rw [HO, textTok, List.append_nil]
            show _ = _
            rw [HR2.out, lex_step hfs HO', pre_pre, show f + (k - f + 1) = k + 1 from by omega]
          have hcv := run_conv_rd (P := Tryz.prog) hS.rd 91 5 9 Tryz.underlying91 Tryz.underlying5 Tryz.underlying9 acc.length c2 rfl (fun _ => hS.shape)
          have HK := Lib.hid hK
          clear HE HO hd h34 h32
          go_wp2_with (at_builtin; refine wpList_append_rd (ys := toksC [⟨4, f, mkB acc, 0⟩]) _ rfl (.tmp 178) (.tmp 183) _ rfl eiTok rfl (hO.alloc _) rfl (Rd.tok ⟨4, f, mkB acc, 0⟩ (by simp)) rfl (one_toks _) (by simp only [maxLen]; omega) (by omega) (by simp; omega) ?_; intro A' c' w2 ho hg hat hb)
          go_step3
          exact ⟨⟨k + 1, _, _, _, ⟨rfl, rfl, rfl, rfl, rfl, rfl, rfl, rfl, rfl, rfl, rfl⟩, .inl ⟨rfl, _, HK.out.snoc ho hb (by omega) hlt, HT.out⟩⟩, by simp [lexM, intOf]; omega⟩
        · by_cases h92 : s[k].toNat = 92
          · have h92I : (s[k].toNat : Int) = 92 := by omega
            have HO1 : Hid (oneL f (s.data.toList.drop f) = textTok f (k + 1 - f) acc (textS true (s.data.toList.drop (k + 1)))) := by
              show _ = _
              rw [hd, textS, if_neg h32, if_neg h34, if_pos h92, text_esc] at HO
              rw [HO, show k - f + 1 = k + 1 - f from by omega]
            have HK := Lib.hid hK
            clear HE HO hd h34 h32 h92
            go_wp2_with fail
            go_step3
            exact ⟨⟨k, _, _, _, ⟨rfl, rfl, rfl, rfl, rfl, rfl, rfl, rfl, rfl, rfl, rfl⟩, .inr (.inr (.inr (.inr ⟨rfl, ⟨done, f, acc, A2, c2, HK.out, HR2.out, rfl, hfk, hdf, rfl, hS, hak, HO1.out⟩, hlt⟩)))⟩, by simp [lexM, intOf]⟩
          · have h34I : ((s[k].toNat : Int) == 34) = false := by rw [beq_eq_false_iff_ne]; omega
            have h92I : ((s[k].toNat : Int) == 92) = false := by rw [beq_eq_false_iff_ne]; omega
            have HO1 : Hid (oneL f (s.data.toList.drop f) = textTok f (k + 1 + 0 - f) (acc ++ [s[k]]) (textS false (s.data.toList.drop (k + 1 + 0)))) := by
              show _ = _
              rw [hd, textS, if_neg h32, if_neg h34, if_neg h92, text_go] at HO
              rw [HO, show k - f + 1 = k + 1 + 0 - f from by omega]
            have HK := Lib.hid hK
            clear HE HO hd h34 h32 h92
            go_wp2_with (at_builtin; refine wpList_append_rd (ys := bytesC [s[k]]) _ rfl (.tmp 170) (.tmp 172) _ rfl eiByte rfl (hS.alloc _) rfl (Rd.byte s[k] (by simp)) rfl (one_bytes _) (by simp only [maxLen]; omega) (by omega) (by simp; omega) ?_; intro A' c' w2 ho hg hat hb)
            go_step3
            exact ⟨⟨k + 1, _, _, _, ⟨rfl, rfl, rfl, rfl, rfl, rfl, rfl, rfl, rfl, rfl, rfl⟩, .inr (.inr (.inr (.inl ⟨rfl, done, f, acc ++ [s[k]], A', c', HK.out.grown hS hg hb (by omega) hlt, HR2.out, rfl, by omega, hdf, by simp, by simpa [bytesC] using ho, by simp; omega, HO1.out⟩)))⟩, by simp [lexM, intOf]; omega⟩
    · have hke : k = s.size := by omega
      have hkI : ((k : Int) == s.size) = true := by rw [beq_iff_eq]; omega
      have HT : Hid (lexR s = .err f 173) := HE.out (by rw [hke, drop_end]; rfl)
      have HK := Lib.hid hK
      clear HE HO hke
      go_wp2_with fail
      simp only [jumps]
      go_ret3
      exact ⟨by rw [HT.out]; rfl, hbel⟩
  · rintro ⟨tmps, defers⟩ w' ⟨k, vO, vS, vF, ⟨hz, hd, f0, f2, f3, f4, f5, f6, f7, f8, f9⟩, hJ⟩ ih0 ih1 ih2 ih3 ih4
    obtain ⟨u, hu, hv⟩ := frame_any tmps hz
    rw [hv] at f0 f2 f3 f4 f5 f6 f7 f8 f9
    clear hv hz
    simp only at hd
    rw [f0, f2, f3, f4, f5, f6, f7, f8, f9] at hu
    dsimp only at hu
    subst hu hd
    clear f0 f2 f3 f4 f5 f6 f7 f8 f9 ih0 ih1 ih2 ih3 ih4
    rcases hJ with ⟨h, _⟩ | ⟨h, _⟩ | ⟨h, _⟩ | ⟨h, _⟩ | ⟨_, ⟨done, f, acc, A2, c2, hK, HR, rfl, hfk, hdf, rfl, hS, hak, HO⟩, hlt⟩
    case inl | inr.inl | inr.inr.inl | inr.inr.inr.inl => omega
    obtain ⟨A, c, rfl, hO⟩ := hK.out
    have hsm := hK.small
    have hfs : f < s.size := by omega
    have hfew : done.length ≤ 4096 := by omega
    have hsz := hK.siz
    have hbel := hK.bel
    have hcap := hS.cap
    have HR2 := Lib.hid HR
    have hk0 : (0 : Int) ≤ k := by omega
    have HE : Hid (textS true (s.data.toList.drop (k + 1)) = none → lexR s = .err f 173) := by
      intro h
      rw [h] at HO
      rw [lexR, if_neg (by omega), HR, lex_err hfs HO]; rfl
    clear HR
    have hw1 : IntKind.i64.wrap ((k : Int) + 1) = ((k + 1 : Nat) : Int) := by rw [IntKind.wrap_i64]; omega
    by_cases hlt1 : k + 1 < s.size
    · have hltI : ((k + 1 : Nat) : Int) < s.size := by omega
      have hltJ : (k : Int) + 1 < s.size := by omega
      have hk1 : (0 : Int) ≤ ((k + 1 : Nat) : Int) := by omega
      have hkI : (((k + 1 : Nat) : Int) == s.size) = false := by rw [beq_eq_false_iff_ne]; omega
      have hkJ : ((k : Int) + 1 == s.size) = false := by rw [beq_eq_false_iff_ne]; omega
      have hd := drop_at hlt1
      by_cases h34 : s[k + 1].toNat = 34 ∨ s[k + 1].toNat = 92
      · have HO1 : Hid (oneL f (s.data.toList.drop f) = textTok f (k + 2 + 0 - f) (acc ++ [s[k + 1]]) (textS false (s.data.toList.drop (k + 2 + 0)))) := by
          show _ = _
          rw [hd, textS, if_pos h34, text_go] at HO
          rw [HO, show k + 1 - f + 1 = k + 2 + 0 - f from by omega]
        have HK := Lib.hid hK
        clear HE HO hd
        rcases h34 with h34 | h34
        · have h34I : (s[k + 1].toNat : Int) = 34 := by omega
          have HX : Hid (s[k + 1] = 34) := UInt8.toNat_inj.1 h34
          rw [HX.out] at HO1
          clear h34
          go_wp2_with (at_builtin; refine wpList_append_rd (ys := bytesC [34]) _ rfl (.tmp 204) (.tmp 206) _ rfl eiByte rfl (hS.alloc _) rfl (Rd.byte 34 (by simp)) rfl (one_bytes _) (by simp only [maxLen]; omega) (by omega) (by simp; omega) ?_; intro A' c' w2 ho hg hat hb)
          go_step3
          exact ⟨⟨k + 2, _, _, _, ⟨rfl, rfl, rfl, rfl, rfl, rfl, rfl, rfl, rfl, rfl, rfl⟩, .inr (.inr (.inr (.inl ⟨rfl, done, f, acc ++ [34], A', c', HK.out.grown hS hg hb (by omega) (by omega), HR2.out, rfl, by omega, hdf, by simp, by simpa [bytesC] using ho, by simp; omega, HO1.out⟩)))⟩, by simp [lexM, intOf]; omega⟩
        · have h34I : (s[k + 1].toNat : Int) = 92 := by omega
          have HX : Hid (s[k + 1] = 92) := UInt8.toNat_inj.1 h34
          rw [HX.out] at HO1
          clear h34
          go_wp2_with (at_builtin; refine wpList_append_rd (ys := bytesC [92]) _ rfl (.tmp 204) (.tmp 206) _ rfl eiByte rfl (hS.alloc _) rfl (Rd.byte 92 (by simp)) rfl (one_bytes _) (by simp only [maxLen]; omega) (by omega) (by simp; omega) ?_; intro A' c' w2 ho hg hat hb)
          go_step3
          exact ⟨⟨k + 2, _, _, _, ⟨rfl, rfl, rfl, rfl, rfl, rfl, rfl, rfl, rfl, rfl, rfl⟩, .inr (.inr (.inr (.inl ⟨rfl, done, f, acc ++ [92], A', c', HK.out.grown hS hg hb (by omega) (by omega), HR2.out, rfl, by omega, hdf, by simp, by simpa [bytesC] using ho, by simp; omega, HO1.out⟩)))⟩, by simp [lexM, intOf]; omega⟩
      · by_cases h110 : s[k + 1].toNat = 110
        · have HO1 : Hid (oneL f (s.data.toList.drop f) = textTok f (k + 2 + 0 - f) (acc ++ [10]) (textS false (s.data.toList.drop (k + 2 + 0)))) := by
            show _ = _
            rw [hd, textS, if_neg h34, if_pos h110, text_go] at HO
            rw [HO, show k + 1 - f + 1 = k + 2 + 0 - f from by omega]
          have h110I : (s[k + 1].toNat : Int) = 110 := by omega
          have HK := Lib.hid hK
          clear HE HO hd h34 h110
          go_wp2_with (at_builtin; refine wpList_append_rd (ys := bytesC [10]) _ rfl (.tmp 210) (.tmp 211) _ rfl eiByte rfl (hS.alloc _) rfl (Rd.byte 10 (by simp)) rfl (one_bytes _) (by simp only [maxLen]; omega) (by omega) (by simp; omega) ?_; intro A' c' w2 ho hg hat hb)
          go_step3
          exact ⟨⟨k + 2, _, _, _, ⟨rfl, rfl, rfl, rfl, rfl, rfl, rfl, rfl, rfl, rfl, rfl⟩, .inr (.inr (.inr (.inl ⟨rfl, done, f, acc ++ [10], A', c', HK.out.grown hS hg hb (by omega) (by omega), HR2.out, rfl, by omega, hdf, by simp, by simpa [bytesC] using ho, by simp; omega, HO1.out⟩)))⟩, by simp [lexM, intOf]; omega⟩
        · have HT : Hid (lexR s = .err f 173) := HE.out (by rw [hd, textS, if_neg h34, if_neg h110])
          have h34I : ((s[k + 1].toNat : Int) == 34) = false := by rw [beq_eq_false_iff_ne]; omega
          have h92I : ((s[k + 1].toNat : Int) == 92) = false := by rw [beq_eq_false_iff_ne]; omega
          have h110I : ((s[k + 1].toNat : Int) == 110) = false := by rw [beq_eq_false_iff_ne]; omega
          clear HE HO hd h34 h110
          go_wp2_with fail
          simp only [jumps]
          go_ret3
          exact ⟨by rw [HT.out]; rfl, hbel⟩
    · have hke : k + 1 = s.size := by omega
      have hkI : (((k + 1 : Nat) : Int) == s.size) = true := by rw [beq_iff_eq]; omega
      have hkJ : ((k : Int) + 1 == s.size) = true := by rw [beq_iff_eq]; omega
      have HT : Hid (lexR s = .err f 173) := HE.out (by rw [hke, drop_end]; rfl)
      clear HE HO hke
      go_wp2_with fail
      simp only [jumps]
      go_ret3
      exact ⟨by rw [HT.out]; rfl, hbel⟩
end
section
/-! ## Par2 -/
open Go.RowKit
attribute [local go_sem ↓] Go.wp_at_zero Go.wp_at_succ tok_f0 tok_f2 tok_f3

/-- What Parse answers: nodes in new memory, or nothing. -/
def ParseOut (base : Nat) (r : List Nod × Int × Int) (e : Ending) (w' : World) : Prop := ∃ A c, e = .returned (.tuple #[.slice A r.1.length c, .int .i64 r.2.1, .int .i64 r.2.2]) ∧ OwnNods w' base A r.1.length c r.1
theorem OwnNods.none_ (w : World) (base : Nat) : OwnNods w base none 0 0 [] := ⟨[], Own.nil_ (by decide), rfl, fun k x hx => by simp at hx⟩
theorem PAt.make {w : World} {A : Option Addr} {c base : Nat} {ts : List Tok} (ho : Own w base 67 4 A ts.length c (toksC ts)) (hne : ts ≠ []) :
    PAt (w.alloc (.cells #[.slice A ts.length c, .int .i64 0, .slice none 0 0] 62)) w.heap.size (none, 0) ⟨ts, 0, []⟩ := by
  have hr := ho.rd
  have hcap := ho.cap
  obtain ⟨b, o, e, hb, _⟩ := hr.2 (by intro h; apply hne; cases ts with | nil => rfl | cons => simp [toksC] at h)
  subst e
  refine ⟨b, o, c, Blk.new w _ _, ?_, hcap.1, hcap.2, OwnNods.none_ _ _⟩
  exact hr.below ((Below.refl _ _).alloc (Nat.le_refl _) _)
theorem OwnNods.lower {w : World} {base base' n c : Nat} {A : Option Addr} {ns : List Nod} (h : OwnNods w base A n c ns) (hb : base' ≤ base) : OwnNods w base' A n c ns := by
  obtain ⟨cs, h1, h2, h3⟩ := h
  refine ⟨cs, h1.lower hb, h2, fun k x hx => ?_⟩
  obtain ⟨Am, cm, An, cn, hy, ho, hp⟩ := h3 k x hx
  exact ⟨Am, cm, An, cn, hy, ho.lower hb, hp.lower hb⟩
set_option maxRecDepth 100000 in
set_option maxHeartbeats 4000000 in
theorem parse_any (s : ByteArray) (w : World) (hs : s.size ≤ maxLen) (hle : ∀ p e, lexR s = .err p e → e ≠ 0) :
    Calls Tryz.prog 14 #[.string s] w fun e w' => ParseOut w.heap.size (parseR s) e w' ∧ Below w.heap.size w w' := by
  have HL := fun (W : World) => Lib.hid (lex_any s W hs)
  have HLE := Lib.hid hle
  clear hle
  have hmf : ∀ (fn : Fn) (first cap : Array Value) (w : World), (Instr.makeFunc fn first cap).run Tryz.prog w = .ok (.func fn first cap) w := fun _ _ _ _ => rfl
  go_enter_defers Tryz.func14, Tryz.ntmps14
  go_wp2_with fail
  generalize hW : World.alloc _ _ = W
  have b2 : Blk W w.heap.size 22 [.slice none 0 0] := by rw [← hW]; exact ((Blk.new w _ [.slice none 0 0]).alloc _).alloc _
  have b3 : Blk W (w.heap.size + 1) 3 [.int .i64 0] := by
    rw [← hW]
    have := Blk.new (w.alloc (.cells #[.slice none 0 0] 22)) 3 [.int .i64 0]
    rw [World.size_alloc] at this
    exact this.alloc _
  have b4 : Blk W (w.heap.size + 1 + 1) 23 [.int .i64 0] := by
    rw [← hW]
    have := Blk.new ((w.alloc (.cells #[.slice none 0 0] 22)).alloc (.cells #[.int .i64 0] 3)) 23 [.int .i64 0]
    rw [World.size_alloc, World.size_alloc] at this
    exact this
  have hbW : Below w.heap.size w W := by rw [← hW]; exact (((Below.refl _ _).alloc (Nat.le_refl _) _).alloc (by simp) _).alloc (by simp; omega) _
  clear hW
  refine ((HL _).out).mono ?_
  rintro e w1 ⟨hlx, hb1⟩
  have lW := b4.lt
  replace b2 := b2.below hb1 b2.lt
  replace b3 := b3.below hb1 b3.lt
  replace b4 := b4.below hb1 b4.lt
  have hbB := Lib.hid (hbW.trans (hb1.mono hbW.size))
  clear hb1 hbW HL
  have c2 := b2.cell (j := 0) rfl
  have c3 := b3.cell (j := 0) rfl
  have c4 := b4.cell (j := 0) rfl
  have f2 := b2.frozen
  have f3 := b3.frozen
  have f4 := b4.frozen
  have l4 := b4.lt
  cases hlr : lexR s with
  | err p x =>
    have HT : Hid (parseR s = ([], (p : Int), x)) := by show _ = _; rw [parseR, hlr]
    have hx := HLE.out _ _ hlr
    have hxb : (x != 0) = true := by rw [bne_iff_ne]; exact hx
    rw [hlr] at hlx
    have hlx : e = .returned (.tuple #[.slice none 0 0, .int .i64 p, .int .i64 x]) := hlx
    subst hlx
    clear hlr hx HLE
    have B2 := Lib.hid b2
    have B3 := Lib.hid b3
    have B4 := Lib.hid b4
    clear b2 b3 b4
    go_wp2_with fail
    have d2 := (B2.out.other (a := ⟨w.heap.size + 1, 0, none⟩) (by simp) (.int .i64 p)).other (a := ⟨w.heap.size + 1 + 1, 0, none⟩) (by simp; omega) (.int .i64 x)
    have d3 := (B3.out.set 0 (.int .i64 p)).other (a := ⟨w.heap.size + 1 + 1, 0, none⟩) (by simp) (.int .i64 x)
    have d4 := (B4.out.other (a := ⟨w.heap.size + 1, 0, none⟩) (by simp) (.int .i64 p)).set 0 (.int .i64 x)
    have hbC := Lib.hid ((hbB.out.setCell (p := ⟨w.heap.size + 1, 0, none⟩) (Nat.le_succ _) (.int .i64 p)).setCell (p := ⟨w.heap.size + 1 + 1, 0, none⟩) (show w.heap.size ≤ w.heap.size + 1 + 1 by omega) (.int .i64 x))
    clear c2 c3 c4 f2 f3 f4 l4 B2 B3 B4 hbB
    generalize World.setCell _ _ _ = W5 at *
    have c2 := d2.cell (j := 0) rfl
    have c3 := d3.cell (j := 0) rfl
    have c4 := d4.cell (j := 0) rfl
    have f2 := d2.frozen
    have f3 := d3.frozen
    have f4 := d4.frozen
    have l2 := d2.lt
    have l3 := d3.lt
    have l4 := d4.lt
    have D2 := Lib.hid d2
    have D3 := Lib.hid d3
    have D4 := Lib.hid d4
    clear d2 d3 d4
    go_region
    have g2 := ((D2.out.set 0 (.slice none 0 0)).other (a := ⟨w.heap.size + 1, 0, none⟩) (by simp) (.int .i64 p)).other (a := ⟨w.heap.size + 1 + 1, 0, none⟩) (by simp; omega) (.int .i64 x)
    have g3 := ((D3.out.other (a := ⟨w.heap.size, 0, none⟩) (by simp) (.slice none 0 0)).set 0 (.int .i64 p)).other (a := ⟨w.heap.size + 1 + 1, 0, none⟩) (by simp) (.int .i64 x)
    have g4 := ((D4.out.other (a := ⟨w.heap.size, 0, none⟩) (by simp; omega) (.slice none 0 0)).other (a := ⟨w.heap.size + 1, 0, none⟩) (by simp) (.int .i64 p)).set 0 (.int .i64 x)
    have hbD := Lib.hid ((((hbC.out.setCell (p := ⟨w.heap.size, 0, none⟩) (Nat.le_refl _) (.slice none 0 0)).setCell (p := ⟨w.heap.size + 1, 0, none⟩) (Nat.le_succ _) (.int .i64 p)).setCell (p := ⟨w.heap.size + 1 + 1, 0, none⟩) (show w.heap.size ≤ w.heap.size + 1 + 1 by omega) (.int .i64 x)).drew)
    clear c2 c3 c4 f2 f3 f4 l2 l3 l4 D2 D3 D4 hbC
    replace g2 := g2.drewN 1
    replace g3 := g3.drewN 1
    replace g4 := g4.drewN 1
    generalize hW6 : World.drew _ = W6 at hbD ⊢
    rw [show World.drewN _ 1 = W6 from hW6] at g2 g3 g4
    clear hW6
    have c2 := g2.cell (j := 0) rfl
    have c3 := g3.cell (j := 0) rfl
    have c4 := g4.cell (j := 0) rfl
    clear g2 g3 g4
    go_wp2_with fail
    exact ⟨.tuple #[.slice none 0 0, .int .i64 p, .int .i64 x], by simp [results, Tryz.results14, go_sem, c2, c3, c4], ⟨none, 0, by rw [HT.out]; rfl, by rw [HT.out]; exact OwnNods.none_ _ _⟩, hbD.out⟩
  | ok ts =>
    rw [hlr] at hlx
    obtain ⟨A, c, rfl, ho⟩ := hlx
    have hg := lexR_good hlr
    have hP : parseR s = match orP (unaryP ts.length) ⟨ts, 0, []⟩ with
      | .error (why, at_) => ([], at_, why)
      | .ok st => if st.hd.kind = 0 then (st.out, 0, 0) else ([], st.stuck.2, st.stuck.1) := by rw [parseR, hlr]; rfl
    have HPR := Lib.hid hP
    have HO := Lib.hid ho
    have HG := Lib.hid hg
    have B2 := Lib.hid b2
    have B3 := Lib.hid b3
    have B4 := Lib.hid b4
    clear b2 b3 b4 hlr HLE ho hg hP
    have hne : ts ≠ [] := by have := HG.out.ends.ne; exact this
    have d2 := ((B2.out.other (a := ⟨w.heap.size + 1, 0, none⟩) (by simp) (.int .i64 0)).other (a := ⟨w.heap.size + 1 + 1, 0, none⟩) (by simp; omega) (.int .i64 0)).alloc (.cells #[.slice A ts.length c, .int .i64 0, .slice none 0 0] 62)
    have d3 := ((B3.out.set 0 (.int .i64 0)).other (a := ⟨w.heap.size + 1 + 1, 0, none⟩) (by simp) (.int .i64 0)).alloc (.cells #[.slice A ts.length c, .int .i64 0, .slice none 0 0] 62)
    have d4 := ((B4.out.other (a := ⟨w.heap.size + 1, 0, none⟩) (by simp) (.int .i64 0)).set 0 (.int .i64 0)).alloc (.cells #[.slice A ts.length c, .int .i64 0, .slice none 0 0] 62)
    have K0 := PAt.make ((HO.out.setLow (a := ⟨w.heap.size + 1, 0, none⟩) (show w.heap.size + 1 < W.heap.size by omega) (.int .i64 0)).setLow (a := ⟨w.heap.size + 1 + 1, 0, none⟩) lW (.int .i64 0)) hne
    have hbC := ((hbB.out.setCell (p := ⟨w.heap.size + 1, 0, none⟩) (Nat.le_succ _) (.int .i64 0)).setCell (p := ⟨w.heap.size + 1 + 1, 0, none⟩) (show w.heap.size ≤ w.heap.size + 1 + 1 by omega) (.int .i64 0)).alloc (by simp; omega) (.cells #[.slice A ts.length c, .int .i64 0, .slice none 0 0] 62)
    have ez : ((w1.setCell ⟨w.heap.size + 1, 0, none⟩ (.int .i64 0)).setCell ⟨w.heap.size + 1 + 1, 0, none⟩ (.int .i64 0)).heap.size = w1.heap.size := by simp
    rw [ez] at K0
    clear ez hne
    go_wp2_with fail
    clear c2 c3 c4 f2 f3 f4 B2 B3 B4 hbB HO
    generalize World.alloc _ _ = W3 at *
    generalize w1.heap.size = P at *
    have HR := Lib.hid (read_all (P := P) (M := 5000) (by decide) ts.length 5000 (none, 0) ⟨ts, 0, []⟩ W3 (Nat.le_refl _) HG.out (Nat.le_refl _) K0)
    have hok := orP_ok (unaryP_ok ts.length)
    have hPl := K0.lt
    have D2 := Lib.hid d2
    have D3 := Lib.hid d3
    have D4 := Lib.hid d4
    have hbD := Lib.hid hbC
    have HK := Lib.hid hok
    clear d2 d3 d4 hbC K0 hok
    refine (HR.out).mono ?_
    intro e w4 hres
    cases hor : orP (unaryP ts.length) ⟨ts, 0, []⟩ with
    | error z =>
      have HT : Hid (parseR s = ([], z.2, z.1)) := by show _ = _; rw [HPR.out, hor]
      rw [hor] at hres
      obtain ⟨rfl, hf⟩ := hres
      clear hor HPR
      have e2 := D2.out.fr hf (by omega)
      have e3 := D3.out.fr hf (by omega)
      have e4 := D4.out.fr hf (by omega)
      have hbE := hbD.out.trans ((hf.below (by simp) hPl).mono (show w.heap.size ≤ P by omega))
      refine leaves_cons (f := 27) (args := #[.pointer (some ⟨w.heap.size, 0, none⟩), .pointer (some ⟨w.heap.size + 1, 0, none⟩), .pointer (some ⟨w.heap.size + 2, 0, none⟩)]) (by simp) (by simp [go_sem]) ?_
      refine (catch_stop e2 e3 e4 _).mono ?_
      rintro e u' w7 ⟨rfl, rfl, c2, c3, c4, hb7⟩
      have c4 : w7.cell? ⟨w.heap.size + 1 + 1, 0, none⟩ = _ := c4
      exact ⟨.tuple #[.slice none 0 0, .int .i64 z.2, .int .i64 z.1], by simp [results, Tryz.results14, go_sem, c2, c3, c4], ⟨none, 0, by rw [HT.out]; rfl, by rw [HT.out]; exact OwnNods.none_ _ _⟩, hbE.trans hb7⟩
    | ok st =>
      have hgs := ((HK.out _ _ hor).2 5000 HG.out).1
      have HT0 : Hid (parseR s = if st.hd.kind = 0 then (st.out, 0, 0) else ([], st.stuck.2, st.stuck.1)) := by show _ = _; rw [HPR.out, hor]
      rw [hor] at hres
      obtain ⟨rfl, R', hS⟩ := hres
      have HN := Lib.hid (now_st hgs (StQ.start hS.1))
      have HS := Lib.hid hS
      clear hor hS HPR
      go_wp2_with fail
      refine (HN.out).mono ?_
      rintro e w5 ⟨rfl, k5⟩
      have S5 := Lib.hid (HS.out.quiet k5)
      clear k5 HN HS
      by_cases hk : st.hd.kind = 0
      · have hkb : (st.hd.kind != 0) = false := by rw [hk]; rfl
        have HT : Hid (parseR s = (st.out, 0, 0)) := by show _ = _; rw [HT0.out, if_pos hk]
        clear hk HT0
        obtain ⟨pb, po, pc, bP, _, _, _, hO⟩ := S5.out.1
        have p2 := bP.cell (j := 2) rfl
        have pl := bP.lt
        have e2 := D2.out.fr S5.out.2.1 (by omega)
        have e3 := D3.out.fr S5.out.2.1 (by omega)
        have e4 := D4.out.fr S5.out.2.1 (by omega)
        have c2 := e2.cell (j := 0) rfl
        have c3 := e3.cell (j := 0) rfl
        have c4 := e4.cell (j := 0) rfl
        have f2 := e2.frozen
        have f3 := e3.frozen
        have f4 := e4.frozen
        have l2 := e2.lt
        have l3 := e3.lt
        have l4 := e4.lt
        have E2 := Lib.hid e2
        have E3 := Lib.hid e3
        have E4 := Lib.hid e4
        have HO := Lib.hid hO
        have hbE := Lib.hid (hbD.out.trans ((S5.out.2.1.below (by simp) hPl).mono (show w.heap.size ≤ P by omega)))
        clear bP hO e2 e3 e4
        go_wp2_with fail
        have x2 := ((E2.out.set 0 (.slice R'.1 st.out.length R'.2)).other (a := ⟨w.heap.size + 1, 0, none⟩) (by simp) (.int .i64 0)).other (a := ⟨w.heap.size + 1 + 1, 0, none⟩) (by simp; omega) (.int .i64 0)
        have x3 := ((E3.out.other (a := ⟨w.heap.size, 0, none⟩) (by simp) (.slice R'.1 st.out.length R'.2)).set 0 (.int .i64 0)).other (a := ⟨w.heap.size + 1 + 1, 0, none⟩) (by simp) (.int .i64 0)
        have x4 := ((E4.out.other (a := ⟨w.heap.size, 0, none⟩) (by simp; omega) (.slice R'.1 st.out.length R'.2)).other (a := ⟨w.heap.size + 1, 0, none⟩) (by simp) (.int .i64 0)).set 0 (.int .i64 0)
        have hO7 := ((HO.out.setLow (a := ⟨w.heap.size, 0, none⟩) (show w.heap.size < P + 1 by omega) (.slice R'.1 st.out.length R'.2)).setLow (a := ⟨w.heap.size + 1, 0, none⟩) (show w.heap.size + 1 < P + 1 by omega) (.int .i64 0)).setLow (a := ⟨w.heap.size + 1 + 1, 0, none⟩) (show w.heap.size + 1 + 1 < P + 1 by omega) (.int .i64 0)
        have hb7 := ((hbE.out.setCell (p := ⟨w.heap.size, 0, none⟩) (Nat.le_refl _) (.slice R'.1 st.out.length R'.2)).setCell (p := ⟨w.heap.size + 1, 0, none⟩) (Nat.le_succ _) (.int .i64 0)).setCell (p := ⟨w.heap.size + 1 + 1, 0, none⟩) (show w.heap.size ≤ w.heap.size + 1 + 1 by omega) (.int .i64 0)
        clear c2 c3 c4 f2 f3 f4 l2 l3 l4 E2 E3 E4 HO hbE p2 pl
        generalize World.setCell _ _ _ = W7 at *
        have c2 := x2.cell (j := 0) rfl
        have c3 := x3.cell (j := 0) rfl
        have c4 := x4.cell (j := 0) rfl
        refine leaves_cons (f := 27) (args := #[.pointer (some ⟨w.heap.size, 0, none⟩), .pointer (some ⟨w.heap.size + 1, 0, none⟩), .pointer (some ⟨w.heap.size + 2, 0, none⟩)]) (by simp) (by simp [go_sem]) ?_
        refine (catch_idle w.heap.size _).mono ?_
        rintro e u' w8 ⟨rfl, rfl, rfl⟩
        exact ⟨.tuple #[.slice R'.1 st.out.length R'.2, .int .i64 0, .int .i64 0], by simp [results, Tryz.results14, go_sem, c2, c3, c4], ⟨R'.1, R'.2, by rw [HT.out], by rw [HT.out]; exact hO7.lower (by omega)⟩, hb7⟩
      · have hkb : (st.hd.kind != 0) = true := by rw [bne_iff_ne]; exact hk
        have HT : Hid (parseR s = ([], st.stuck.2, st.stuck.1)) := by show _ = _; rw [HT0.out, if_neg hk]
        have HSt := Lib.hid (stuck_st hgs (StQ.start S5.out.1))
        clear hk HT0
        go_wp2_with fail
        refine (HSt.out).mono ?_
        rintro e w6 ⟨rfl, hf6⟩
        have hf : Fr P none W3 w6 := S5.out.failQ hf6
        have e2 := D2.out.fr hf (by omega)
        have e3 := D3.out.fr hf (by omega)
        have e4 := D4.out.fr hf (by omega)
        have hbE := hbD.out.trans ((hf.below (by simp) hPl).mono (show w.heap.size ≤ P by omega))
        refine leaves_cons (f := 27) (args := #[.pointer (some ⟨w.heap.size, 0, none⟩), .pointer (some ⟨w.heap.size + 1, 0, none⟩), .pointer (some ⟨w.heap.size + 2, 0, none⟩)]) (by simp) (by simp [go_sem]) ?_
        refine (catch_stop e2 e3 e4 _).mono ?_
        rintro e u' w7 ⟨rfl, rfl, c2, c3, c4, hb7⟩
        have c4 : w7.cell? ⟨w.heap.size + 1 + 1, 0, none⟩ = _ := c4
        exact ⟨.tuple #[.slice none 0 0, .int .i64 st.stuck.2, .int .i64 st.stuck.1], by simp [results, Tryz.results14, go_sem, c2, c3, c4], ⟨none, 0, by rw [HT.out]; rfl, by rw [HT.out]; exact OwnNods.none_ _ _⟩, hbE.trans hb7⟩
end
end Go.Proofs.YtakfnojiaakfpaaGreatDoor
