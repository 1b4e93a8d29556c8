/- Nodes in memory: plain words. -/
import Derived.Test.YtakfnojiaakfpaaGreatDoorLexSpec
import Derived.Test.YtakfnojiaakfpaaGreatDoorProg
import Derived.BigQuiet
import Derived.Deep.QuietTactic
import Derived.Laws.StructEq
namespace Go.Proofs.YtakfnojiaakfpaaGreatDoor
section
/-! ## Mem2 -/
open Go.RowKit

theorem get_lt {α : Type} {l : List α} {k n : Nat} (hn : Hid (l.length = n)) (hk : k < n) : ∃ x, l[k]? = some x := ⟨_, List.getElem?_eq_getElem (by rw [hn.out]; exact hk)⟩
theorem take_ne {α : Type} {l m : List α} {k : Nat} {a b : α} (h1 : l[k]? = some a) (h2 : m[k]? = some b) (hne : a ≠ b) : l ≠ m := by
  rintro rfl; rw [h1] at h2; injection h2 with h; exact hne h
theorem eq_of_upto {α : Type} {l m : List α} (hl : l.length = m.length) (h : ∀ j, j < l.length → l[j]? = m[j]?) : l = m := by
  apply List.ext_getElem? 
  intro j
  by_cases hj : j < l.length
  · exact h j hj
  · rw [List.getElem?_eq_none (by omega), List.getElem?_eq_none (by omega)]
/-- Bytes as cells. -/
def bytesC (l : List UInt8) : List (List Value) := l.map fun c => [.int .u8 (c.toNat : Int)]
/-- The block g has room for m cells, and may be written. -/
def Wr (w : World) (g : Nat) (e : TypeId) (m : Nat) : Prop := ∃ cur, w.heap[g]? = some (.cells cur e (0, 0)) ∧ m ≤ cur.size
section
variable {w w' : World} {g m B : Nat} {e : TypeId}
theorem Wr.lt (h : Wr w g e m) : g < w.heap.size := by obtain ⟨cur, h, _⟩ := h; exact (Array.getElem?_eq_some_iff.1 h).1
theorem Wr.cell (h : Wr w g e m) {j : Nat} (hj : j < m) : ∃ v, w.cell? ⟨g, j, none⟩ = some v := by
  obtain ⟨cur, h, hm⟩ := h
  have hj2 : j < cur.size := by omega
  exact ⟨cur[j], by rw [cell_of_row w g j cur e (0, 0) h]; simp [hj2]⟩
theorem Wr.frozen (h : Wr w g e m) (j : Nat) : w.frozen? ⟨g, j, none⟩ = false := by
  obtain ⟨cur, h, hm⟩ := h
  exact frozen_of_row w g j _ _ h
theorem Wr.keep (h : Wr w g e m) (hk : w'.heap[g]? = w.heap[g]?) : Wr w' g e m := by
  obtain ⟨cur, h, hm⟩ := h; exact ⟨cur, hk.trans h, hm⟩
theorem Wr.setCell (h : Wr w g e m) (a : Addr) (u : Value) : Wr (w.setCell a u) g e m := by
  by_cases ha : g = a.block
  · obtain ⟨cur, h, hm⟩ := h
    obtain ⟨b, o, sp⟩ := a
    simp only at ha
    subst ha
    simp only [Wr, World.setCell, Array.getElem?_modify, h, if_true, Option.map_some]
    cases sp <;> exact ⟨_, rfl, by simpa using hm⟩
  · exact h.keep (Below.heap_setCell w a u g ha)
theorem Wr.alloc (h : Wr w g e m) (o : Obj) : Wr (w.alloc o) g e m := h.keep (Below.heap_alloc w o g h.lt)
theorem Wr.below (h : Wr w g e m) (hb : Below B w w') (hg : g < B) : Wr w' g e m := h.keep (hb.block g hg)
theorem Wr.grown {row : Option Nat} (h : Wr w g e m) (hg : w.grownBy w' row) (hr : some g ≠ row) : Wr w' g e m := h.keep (hg.block g h.lt hr)
theorem Wr.drew (h : Wr w g e m) : Wr w.drew g e m := h
theorem Wr.less {m' : Nat} (h : Wr w g e m) (hm : m' ≤ m) : Wr w g e m' := by
  obtain ⟨cur, h, h2⟩ := h; exact ⟨cur, h, by omega⟩
theorem grownBy_setCell {row : Option Nat} (h : w.grownBy w' row) {a : Addr} (ha : some a.block = row ∨ w.heap.size ≤ a.block) (u : Value) : w.grownBy (w'.setCell a u) row where
  os := h.os
  tape := h.tape
  output := h.output
  size := by simpa using h.size
  block := fun k hk hr => by
    rw [Below.heap_setCell w' a u k, h.block k hk hr]
    rintro rfl
    rcases ha with ha | ha
    · exact hr ha
    · omega
theorem grownBy_alloc' {row : Option Nat} (h : w.grownBy w' row) (o : Obj) : w.grownBy (w'.alloc o) row where
  os := h.os
  tape := h.tape
  output := h.output
  size := by simpa using Nat.le_succ_of_le h.size
  block := fun k hk hr => (Below.heap_alloc w' o k (Nat.lt_of_lt_of_le hk h.size)).trans (h.block k hk hr)
theorem grownBy_drew {row : Option Nat} (h : w.grownBy w' row) : w.grownBy w'.drew row := ⟨h.os, h.tape, h.output, h.size, h.block⟩
theorem grownBy_of_below {row : Option Nat} (h : Below w.heap.size w w') : w.grownBy w' row := ⟨h.os, h.tape, h.output, h.size, fun k hk _ => h.block k hk⟩
theorem below_of_grown {row : Option Nat} (h : w.grownBy w' row) (hB : B ≤ w.heap.size) (hr : ∀ g, row = some g → B ≤ g) : Below B w w' :=
  ⟨h.os, h.tape, h.output, h.size, fun k hk => h.block k (by omega) (fun e => by have := hr _ e.symm; omega)⟩
end

section
variable {w : World} {base sz n c : Nat} {e : TypeId} {A : Option Addr} {xs : List (List Value)}
theorem Own.wr (h : Own w base e sz A n c xs) (b o : Nat) (hA : A = some ⟨b, o, none⟩) : o = 0 ∧ True ∧ Wr w b e (c * sz) := by
  rcases h.2.2.2.2 with ⟨hv, _⟩ | ⟨g, cap, cur, hv, _, hg, _, _, hcs, _⟩
  · injection hv with h1; rw [hA] at h1; cases h1
  · injection hv with h1 _ h3
    rw [hA] at h1
    injection h1 with h1
    injection h1 with e1 e2
    subst e1 e2 h3
    exact ⟨rfl, trivial, cur, hg, by omega⟩
end

section
variable {P : Program} (w : World)
theorem run_append_ex {t e : TypeId} {sz bytes : Nat} (ty : TypeId) (hE : EI P t e sz bytes) {base : Nat} {A : Option Addr} {n c : Nat} {xs : List (List Value)} (hown : Own w base e sz A n c xs)
    {B : Nat} {A2 : Option Addr} {m c2 : Nat} {ys : List (List Value)} (hr : Rd w B sz A2 ys) (hm : ys.length = m) (h1 : ∀ y ∈ ys, ∀ u ∈ y, u.oneCell' = true)
    (h63 : n + m ≤ maxLen) (hbytes : (n + m) * bytes ≤ 140737488355328) (hbase : base ≤ w.heap.size) :
    ∃ A' c' w', (Builtin.append_ #[t, t] ty #[.slice A n c, .slice A2 m c2]).run P w = .ok (.slice A' (n + m) c') w' ∧ Own w' base e sz A' (n + m) c' (xs ++ ys) ∧ w.grownBy w' (A.map Addr.block) ∧
      ((A' = A ∧ c' = c) ∨ (A' = some ⟨w.heap.size, 0, none⟩ ∧ w.grownBy w' none)) ∧ Below base w w' := by
  by_cases hy : ys = [] ∨ n + m ≤ c
  · obtain ⟨A', c', w', hrun, h2, h3, h4, h5⟩ := run_append_rd (P := P) w ty hE hown hr hm h1 h63 hbytes hbase (c2 := c2)
    refine ⟨A', c', w', hrun, h2, h3, .inl ?_, h5⟩
    obtain ⟨ht, i, z, hi, hz, hsize, hby, hzs, hsz⟩ := hE
    rcases hy with hy | hy
    · subst hy
      obtain rfl : m = 0 := by simpa using hm.symm
      rcases hown.2.2.2.2 with ⟨hv, h0⟩ | ⟨g, cap, cur, hv, _, _, hnc, _⟩
      · injection hv with e1 _ e3
        subst e1 e3 h0
        cases A2 <;> simp [Builtin.append_, run_underlying ht, sizeOf, typeInfo, hi, Builtin.lenOf, Builtin.firstCells, loadCells, loadCellsFrom] at hrun <;> exact ⟨hrun.1.1.symm, hrun.1.2.symm⟩
      · injection hv with e1 _ e3
        subst e1 e3
        cases A2 <;> simp [Builtin.append_, run_underlying ht, sizeOf, typeInfo, hi, Builtin.lenOf, Builtin.firstCells, loadCells, loadCellsFrom, hnc, storeCells] at hrun <;> exact ⟨hrun.1.1.symm, hrun.1.2.symm⟩
    · by_cases hy0 : ys = []
      · subst hy0
        obtain rfl : m = 0 := by simpa using hm.symm
        rcases hown.2.2.2.2 with ⟨hv, h0⟩ | ⟨g, cap, cur, hv, _, _, hnc, _⟩
        · injection hv with e1 _ e3
          subst e1 e3 h0
          cases A2 <;> simp [Builtin.append_, run_underlying ht, sizeOf, typeInfo, hi, Builtin.lenOf, Builtin.firstCells, loadCells, loadCellsFrom] at hrun <;> exact ⟨hrun.1.1.symm, hrun.1.2.symm⟩
        · injection hv with e1 _ e3
          subst e1 e3
          cases A2 <;> simp [Builtin.append_, run_underlying ht, sizeOf, typeInfo, hi, Builtin.lenOf, Builtin.firstCells, loadCells, loadCellsFrom, hnc, storeCells] at hrun <;> exact ⟨hrun.1.1.symm, hrun.1.2.symm⟩
      · obtain ⟨b, o, rfl, hb, hnews⟩ := hr.news hy0
        have hl : ys.flatten.length = m * i.size := by rw [flat_len ys sz hr.1, hm, hsize]
        have hmp : 0 < m := by
          rcases Nat.eq_zero_or_pos m with h0 | h0
          · exact absurd (List.eq_nil_of_length_eq_zero (hm.trans h0)) hy0
          · exact h0
        rcases hown.2.2.2.2 with ⟨hv, h0⟩ | ⟨g, cap, cur, hv, _, hg, hnc, hcm, hcs, htake⟩
        · injection hv with e1 _ e3
          omega
        · injection hv with e1 _ e3
          subst e1 e3
          have hfit : n * i.size + ys.flatten.length ≤ cur.size := by rw [hl, hcs, hsize, ← Nat.add_mul]; exact Nat.mul_le_mul_right _ hy
          have := run_append_room (P := P) w t ty e i ht hi g n c cur hg ⟨b, o, none⟩ m c2 ys.flatten hl hnews (fun u hu => by obtain ⟨y, hy, hu⟩ := List.mem_flatten.1 hu; exact h1 y hy u hu) hy hfit
          rw [this] at hrun
          injection hrun with hrun
          injection hrun with e1 _ e3
          exact ⟨e1.symm, e3.symm⟩
  · obtain ⟨ht, i, z, hi, hz, hsize, hby, hzs, hsz⟩ := hE
    have hy0 : ys ≠ [] := fun h => hy (.inl h)
    have hgt : c < n + m := by
      rcases Nat.lt_or_ge c (n + m) with h | h
      · exact h
      · exact absurd (.inr h) hy
    obtain ⟨b, o, rfl, hb, hnews⟩ := hr.news hy0
    have hl : ys.flatten.length = m * i.size := by rw [flat_len ys sz hr.1, hm, hsize]
    have hmp : 0 < m := by
      rcases Nat.eq_zero_or_pos m with h0 | h0
      · exact absurd (List.eq_nil_of_length_eq_zero (hm.trans h0)) hy0
      · exact h0
    have h63' : n + m ≤ 9223372036854775807 := by simp only [maxLen] at h63; omega
    have fin : ∀ (cs : Array Value) (cap : Nat), n + m ≤ cap → cap ≤ maxLen → cs.size = cap * sz → cs.toList.take ((n + m) * sz) = (xs ++ ys).flatten → Own (w.drew.alloc (.cells cs e)) base e sz (some ⟨w.heap.size, 0, none⟩) (n + m) cap (xs ++ ys) := by
      intro cs cap h1 h2 h3 h4
      refine ⟨hown.1, ?_, by rw [List.length_append, hown.len, hm], ?_⟩
      · intro x hx
        rcases List.mem_append.1 hx with hx | hx
        · exact hown.2.1 x hx
        · exact hr.1 x hx
      · refine ⟨?_, .inr ⟨w.heap.size, cap, cs, rfl, hbase, heap_alloc_new w.drew _, h1, h2, h3, h4⟩⟩
        rw [flat_len _ sz, List.length_append, hown.len, hm]
        intro x hx
        rcases List.mem_append.1 hx with hx | hx
        · exact hown.2.1 x hx
        · exact hr.1 x hx
    have hgn : ∀ (o : Obj) (row : Option Nat), w.grownBy (w.drew.alloc o) row := fun o row => ⟨rfl, rfl, rfl, by simp, fun k hk _ => Below.heap_alloc w.drew o k hk⟩
    have hxl : xs.flatten.length = n * sz := by rw [flat_len xs sz hown.2.1, hown.len]
    rcases hown.2.2.2.2 with ⟨hv, h0⟩ | ⟨g, cap, cur, hv, hbg, hg, hnc, hcm, hcs, htake⟩
    · injection hv with e1 _ e3
      subst e1 e3 h0
      have hx : xs = [] := List.eq_nil_of_length_eq_zero hown.len
      subst hx
      have hrun := run_append_nil (P := P) w t ty e i z ht hi hz ⟨b, o, none⟩ m c2 ys.flatten hl hnews hmp (by omega) (by have hb := hbytes; simp only [Nat.zero_add] at hb; rw [hby]; omega)
      have hge := grownCap_ge w m 0 e
      have hcm := grownCap_le_maxLen w m 0 e (by omega)
      refine ⟨_, _, _, (by rw [Nat.zero_add]; exact hrun), fin _ _ (by omega) hcm ?_ ?_, hgn _ _, .inr ⟨rfl, hgn _ _⟩, below_of_grown (hgn _ none) hbase (fun g h => by cases h)⟩
      · simp only [Array.size_append, List.size_toArray, size_zeroCells, hzs, hl, hsize, ← Nat.add_mul]
        congr 1
        omega
      · simp only [Array.toList_append, List.nil_append, Nat.zero_add]
        rw [show m * sz = ys.flatten.length from by rw [hl, hsize]]
        exact List.take_left
    · injection hv with e1 _ e3
      subst e1 e3
      have holds : ∀ j u, xs.flatten[j]? = some u → w.cell? ((⟨g, 0, none⟩ : Addr).add j) = some u := hown.2.2.2.cells (g := g) rfl
      have hrun := run_append_grow (P := P) w t ty e i z ht hi hz ⟨g, 0, none⟩ n c xs.flatten (by rw [hxl, hsize]) holds ⟨b, o, none⟩ m c2 ys.flatten hl hnews hgt (by omega) (growslice_fits hgt (by rw [hby]; exact hbytes))
      have hge := grownCap_ge w (n + m) c e
      have hcm2 := grownCap_le_maxLen w (n + m) c e h63
      refine ⟨_, _, _, hrun, fin _ _ hge hcm2 ?_ ?_, hgn _ _, .inr ⟨rfl, hgn _ _⟩, below_of_grown (hgn _ none) hbase (fun g h => by cases h)⟩
      · simp only [Array.size_append, List.size_toArray, size_zeroCells, hzs, hl, hxl, hsize, ← Nat.add_mul]
        congr 1
        omega
      · simp only [Array.toList_append, List.append_assoc]
        rw [← List.append_assoc, ← List.flatten_append, show (n + m) * sz = (xs ++ ys).flatten.length from by rw [List.flatten_append, List.length_append, hxl, hl, hsize, Nat.add_mul]]
        exact List.take_left

/-- At a plain region's list. -/
theorem wpList_append_ex {ops : Array Oper} {rest : List Oper} {o : Oper} {a : Act} {Q : Exit → Act → World → Prop} (hgd : o.guard = none) (s x : Operand) (t : TypeId)
    (ho : o.op = .call { callee := .builtin .append, args := #[s, x], argTypes := #[t, t] }) {e : TypeId} {sz bytes : Nat} (hE : EI P t e sz bytes)
    {base : Nat} {A : Option Addr} {n c : Nat} {xs : List (List Value)} (hs : a.eval s = .slice A n c) (hown : Own w base e sz A n c xs)
    {B : Nat} {A2 : Option Addr} {m c2 : Nat} {ys : List (List Value)} (hx : a.eval x = .slice A2 m c2) (hr : Rd w B sz A2 ys) (hm : ys.length = m) (h1 : ∀ y ∈ ys, ∀ u ∈ y, u.oneCell' = true)
    (h63 : n + m ≤ maxLen) (hbytes : (n + m) * bytes ≤ 140737488355328) (hbase : base ≤ w.heap.size)
    (h : ∀ A' c' w', Own w' base e sz A' (n + m) c' (xs ++ ys) → w.grownBy w' (A.map Addr.block) → ((A' = A ∧ c' = c) ∨ (A' = some ⟨w.heap.size, 0, none⟩ ∧ w.grownBy w' none)) → Below base w w' → wpList P ops Q rest (a.put o.dst (.slice A' (n + m) c')) w') :
    wpList P ops Q (o :: rest) a w :=
  wpList_plain hgd fun _ hK => by
    obtain ⟨A', c', w', hrun, h2, h3, h4, h5⟩ := run_append_ex (P := P) w o.type hE hown hr hm h1 h63 hbytes hbase (c2 := c2)
    unfold Oper.wp execOp
    simp only [ho, resolve, invoke, builtin, Sem.run_bind, Sem.run_pure, Result.andThen_ok, List.map_toArray, List.map_cons, List.map_nil, hs, hx, hrun]
    exact hK _ _ (h A' c' w' h2 h3 h4 h5)
end
end
section
/-! ## MatS -/
open Go.RowKit

structure Mat where
  kind : Int
  name : ByteArray
  val : ByteArray
def matC (m : Mat) : List Value := [.int .i64 m.kind, .string m.name, .string m.val]
def matsC (ms : List Mat) : List (List Value) := ms.map matC
theorem matsC_sz (ms : List Mat) : ∀ x ∈ matsC ms, x.length = 3 := by
  intro x hx
  obtain ⟨l, _, rfl⟩ := List.mem_map.1 hx
  rfl
theorem one_mats (ms : List Mat) : ∀ y ∈ matsC ms, ∀ u ∈ y, u.oneCell' = true := by
  intro y hy u hu
  obtain ⟨l, _, rfl⟩ := List.mem_map.1 hy
  simp [matC] at hu
  rcases hu with rfl | rfl | rfl <;> rfl
end
section
/-! ## MatL -/
open Go.RowKit

def matEq (a b : Mat) : Bool := decide (a.kind = b.kind) && decide (a.name = b.name) && decide (a.val = b.val)
theorem matEq_iff {a b : Mat} : matEq a b = true ↔ a = b := by
  cases a; cases b; simp [matEq, and_assoc]
instance : DecidableEq Mat := fun a b => if h : matEq a b = true then isTrue (matEq_iff.1 h) else isFalse (fun e => h (matEq_iff.2 e))
theorem matEq_dec (a b : Mat) : matEq a b = decide (a = b) := by
  rw [Bool.eq_iff_iff, matEq_iff]; simp
theorem matC_at {ls : List Mat} {k : Nat} {l : Mat} (h : ls[k]? = some l) : (matsC ls)[k]? = some [.int .i64 l.kind, .string l.name, .string l.val] := by simp [matsC, matC, h]
theorem matC_len (ls : List Mat) : (matsC ls).length = ls.length := by simp [matsC]
theorem eqvMat (sa0 sb0 : Int) (sa1 sb1 : ByteArray) (sa2 sb2 : ByteArray) (w : World) : (Op.equalIn 10000 37 (.agg #[.int .i64 sa0, .string sa1, .string sa2]) (.agg #[.int .i64 sb0, .string sb1, .string sb2])).run Tryz.prog w = .ok (decide (sa0 = sb0) && decide (sa1 = sb1) && decide (sa2 = sb2)) w := by
  have hS : Tryz.prog.underlying 37 = some (.struct (Tryz.prog.fieldsOf 37)) := by kernel_rfl
  have hp : Tryz.prog.stoodInHeld 37 = false := by kernel_rfl
  rw [show (10000 : Nat) = 9999 + 1 from rfl, run_equalIn_agg w 9999 37 _ _ hS hp]
  simp only [Program.fieldsOf, Tryz.underlying37]
  go_simp
  by_cases h0 : sa0 = sb0 <;> by_cases h1 : sa1 = sb1 <;> by_cases h2 : sa2 = sb2 <;> simp [h0, h1, h2, toList_inj]
theorem eqrMat (a b : Mat) (w : World) : (binOp .eql 37 (.agg #[.int .i64 a.kind, .string a.name, .string a.val]) (.agg #[.int .i64 b.kind, .string b.name, .string b.val])).run Tryz.prog w = .ok (.bool (decide (a = b))) w := by
  rw [run_eql_struct, eqvMat, ← matEq_dec]
  simp only [Result.andThen, matEq]
theorem neqrMat (a b : Mat) (w : World) : (binOp .neq 37 (.agg #[.int .i64 a.kind, .string a.name, .string a.val]) (.agg #[.int .i64 b.kind, .string b.name, .string b.val])).run Tryz.prog w = .ok (.bool (!decide (a = b))) w := by
  rw [run_neq_struct, eqvMat, ← matEq_dec]
  simp only [Result.andThen, matEq]
theorem guardMat : Tryz.prog.eqGuardType Tryz.prog.depth 37 = false := by kernel_rfl
theorem Rd.at_mat {w : World} {B : Nat} {A : Option Addr} {ls : List Mat} {k : Nat} {l : Mat} (h : Rd w B 3 A (matsC ls)) (hx : ls[k]? = some l) : ∃ b o, A = some ⟨b, o, none⟩ ∧ b < B ∧ w.cell? ⟨b, o + k * 3, none⟩ = some (.int .i64 l.kind) ∧ w.cell? ⟨b, o + k * 3 + 1, none⟩ = some (.string l.name) ∧ w.cell? ⟨b, o + k * 3 + 2, none⟩ = some (.string l.val) := by
  have hx2 := matC_at hx
  obtain ⟨b, o, e, hb, hc⟩ := h.2 (by intro h0; rw [h0] at hx2; simp at hx2)
  exact ⟨b, o, e, hb, by simpa using hc k _ 0 _ hx2 rfl, by simpa using hc k _ 1 _ hx2 rfl, by simpa using hc k _ 2 _ hx2 rfl⟩

set_option maxHeartbeats 1000000 in
theorem sameMatchers_any (ls ms : List Mat) (A1 A2 : Option Addr) (n1 n2 c1 c2 B1 B2 : Nat) (w : World) (h1 : Rd w B1 3 A1 (matsC ls)) (h2 : Rd w B2 3 A2 (matsC ms)) (hn1 : ls.length = n1) (hn2 : ms.length = n2) (hm1 : n1 ≤ maxLen) (hm2 : n2 ≤ maxLen) :
    Calls Tryz.prog 24 #[.slice A1 n1 c1, .slice A2 n2 c2] w fun e w' => e = .returned (.bool (decide (ls = ms))) ∧ ∃ n, w' = w.drewN n := by
  unfold maxLen at hm1 hm2
  by_cases hl : n1 = n2
  · obtain rfl : n1 = n2 := hl
    have Hn1 := Lib.hid hn1
    have Hn2 := Lib.hid hn2
    clear hn1 hn2
    have hneq := neqrMat
    have hgl := guardMat
    go_enter Tryz.func24, Tryz.ntmps24
    go_wp2
    go_loopw [5] (fun i wr => ∃ k q : Nat, k ≤ n1 ∧ i = .int .i64 k ∧ wr = w.drewN q ∧ Hid (∀ j, j < k → ls[j]? = ms[j]?)) (fun i _ => n1 - (intOf i).toNat)
    case atStart => exact ⟨0, 0, by omega, rfl, rfl, fun j hj => by omega⟩
    case round =>
      obtain ⟨k, q, hk, rfl, rfl, hall⟩ := hrel
      by_cases hlt : k < n1
      · obtain ⟨l, e1⟩ := get_lt Hn1 hlt
        obtain ⟨m, e2⟩ := get_lt Hn2 hlt
        obtain ⟨b1, o1, hA1, hb1, p0, p1, p2⟩ := h1.at_mat e1
        obtain ⟨b2, o2, hA2, hb2, q0, q1, q2⟩ := h2.at_mat e2
        subst hA1 hA2
        have E1 := Lib.hid e1
        have E2 := Lib.hid e2
        clear e1 e2
        by_cases he : l = m
        · have hne : ∀ W : World, (binOp .neq 37 (.agg #[.int .i64 l.kind, .string l.name, .string l.val]) (.agg #[.int .i64 m.kind, .string m.name, .string m.val])).run Tryz.prog W = .ok (.bool false) W := fun W => by rw [neqrMat, decide_eq_true he]; rfl
          have He := Lib.hid he
          clear he hneq
          go_wp2
          go_quiet (fail)
          go_wp2
          go_roundw
          case rel => exact ⟨k + 1, _, by omega, by go_num, rfl, fun j hj => by
            by_cases ej : j = k
            · subst ej; rw [E1.out, E2.out]; exact congrArg some He.out
            · exact hall j (by omega)⟩
          case measure => simp [intOf]; omega
        · have hne : ∀ W : World, (binOp .neq 37 (.agg #[.int .i64 l.kind, .string l.name, .string l.val]) (.agg #[.int .i64 m.kind, .string m.name, .string m.val])).run Tryz.prog W = .ok (.bool true) W := fun W => by rw [neqrMat, decide_eq_false he]; rfl
          have HD := Lib.hid (decide_eq_false (take_ne E1.out E2.out he))
          clear he hneq
          go_wp2
          go_quiet (fail)
          go_wp2
          go_ret
          exact ⟨ret_bool HD.out.symm, q + nq, World.drewN_drewN ..⟩
      · have HD : Hid (decide (ls = ms) = true) := decide_eq_true (eq_of_upto (by rw [Hn1.out, Hn2.out]) fun j hj => hall j (by rw [Hn1.out] at hj; omega))
        go_wp2
        go_ret
        exact ⟨ret_bool HD.out.symm, _, rfl⟩
  · have HD : Hid (decide (ls = ms) = false) := decide_eq_false (by rintro rfl; omega)
    have hl2 : ¬ (n1 : Int) = (n2 : Int) := by omega
    have hl3 : ((n1 : Int) != (n2 : Int)) = true := by rw [bne_iff_ne]; exact hl2
    clear hl hl2
    go_enter Tryz.func24, Tryz.ntmps24
    go_wp2
    go_ret
    exact ⟨ret_bool HD.out.symm, 0, rfl⟩
theorem eiMat : EI Tryz.prog 38 37 3 40 := EI.mk' Tryz.underlying38 (z := .agg #[.int .i64 0, .string ByteArray.empty, .string ByteArray.empty]) (by kernel_rfl) rfl (by omega)
theorem matL_one (ls : List Mat) : ∀ y ∈ matsC ls, ∀ u ∈ y, u.oneCell' = true := by
  intro y hy u hu
  obtain ⟨l, _, rfl⟩ := List.mem_map.1 hy
  simp [matC] at hu
  rcases hu with rfl | rfl | rfl <;> rfl

set_option maxHeartbeats 1000000 in
theorem copyMatchers_any (ls : List Mat) (A1 : Option Addr) (n1 c1 B1 : Nat) (w : World) (h1 : Rd w B1 3 A1 (matsC ls)) (hn1 : ls.length = n1) (hB : B1 ≤ w.heap.size) (hm1 : n1 * 40 ≤ 140737488355328) :
    Calls Tryz.prog 20 #[.slice A1 n1 c1] w fun e w' => ∃ A c, e = .returned (.slice A n1 c) ∧ Own w' w.heap.size 37 3 A n1 c (matsC ls) ∧ Below w.heap.size w w' := by
  have Hn1 := Lib.hid hn1
  clear hn1
  go_enter Tryz.func20, Tryz.ntmps20
  go_wp2_with (at_builtin; refine wpList_append_rd (ys := matsC ls) _ rfl (.tmp 3) (.tmp 4) _ rfl eiMat rfl (Own.lit (n := 0) (xs := []) w (by omega) (by simp) rfl (by simp [maxLen]) (Nat.le_refl _) #[] rfl) rfl (h1.below ((Below.refl _ _).alloc (by omega) _)) (by rw [matC_len]; exact Hn1.out) (matL_one ls) (by simp only [maxLen]; omega) (by omega) (by simp) ?_; intro A' c' w2 ho hg hat hb)
  go_ret
  exact ⟨A', c', by simp, by simpa using ho, ((Below.refl _ _).alloc (Nat.le_refl _) _).trans hb⟩
end
section
/-! ## TextsL -/
open Go.RowKit

def textsC (l : List ByteArray) : List (List Value) := l.map fun x => [.string x]
theorem textsC_at {ls : List ByteArray} {k : Nat} {l : ByteArray} (h : ls[k]? = some l) : (textsC ls)[k]? = some [.string l] := by simp [textsC, h]
theorem textsC_len (ls : List ByteArray) : (textsC ls).length = ls.length := by simp [textsC]
theorem textsC_sz (ls : List ByteArray) : ∀ x ∈ textsC ls, x.length = 1 := by
  intro x hx
  obtain ⟨l, _, rfl⟩ := List.mem_map.1 hx
  rfl
theorem textsC_one (ls : List ByteArray) : ∀ y ∈ textsC ls, ∀ u ∈ y, u.oneCell' = true := by
  intro y hy u hu
  obtain ⟨l, _, rfl⟩ := List.mem_map.1 hy
  simp at hu
  subst hu; rfl
theorem eiTexts : EI Tryz.prog 39 9 1 16 := EI.mk' Tryz.underlying39 (z := .string ByteArray.empty) (by kernel_rfl) rfl (by omega)

set_option maxHeartbeats 1000000 in
theorem sameTexts_any (ls ms : List ByteArray) (A1 A2 : Option Addr) (n1 n2 c1 c2 B1 B2 : Nat) (w : World) (h1 : Rd w B1 1 A1 (textsC ls)) (h2 : Rd w B2 1 A2 (textsC ms)) (hn1 : ls.length = n1) (hn2 : ms.length = n2) (hm1 : n1 ≤ maxLen) (hm2 : n2 ≤ maxLen) :
    Calls Tryz.prog 25 #[.slice A1 n1 c1, .slice A2 n2 c2] w fun e w' => e = .returned (.bool (decide (ls = ms))) ∧ ∃ n, w' = w.drewN n := by
  unfold maxLen at hm1 hm2
  by_cases hl : n1 = n2
  · obtain rfl : n1 = n2 := hl
    have Hn1 := Lib.hid hn1
    have Hn2 := Lib.hid hn2
    clear hn1 hn2
    go_enter Tryz.func25, Tryz.ntmps25
    go_wp2
    go_loopw [5] (fun i wr => ∃ k q : Nat, k ≤ n1 ∧ i = .int .i64 k ∧ wr = w.drewN q ∧ Hid (∀ j, j < k → ls[j]? = ms[j]?)) (fun i _ => n1 - (intOf i).toNat)
    case atStart => exact ⟨0, 0, by omega, rfl, rfl, fun j hj => by omega⟩
    case round =>
      obtain ⟨k, q, hk, rfl, rfl, hall⟩ := hrel
      by_cases hlt : k < n1
      · obtain ⟨l, e1⟩ := get_lt Hn1 hlt
        obtain ⟨m, e2⟩ := get_lt Hn2 hlt
        obtain ⟨b1, o1, hA1, hb1, p1⟩ := h1.at1 (textsC_at e1)
        obtain ⟨b2, o2, hA2, hb2, p2⟩ := h2.at1 (textsC_at e2)
        subst hA1 hA2
        have E1 := Lib.hid e1
        have E2 := Lib.hid e2
        clear e1 e2
        by_cases he : l = m
        · have hne : (l.toList == m.toList) = true := by rw [beq_toList, decide_eq_true he]
          have He := Lib.hid he
          clear he
          go_wp2
          go_quiet (fail)
          go_wp2
          go_roundw
          case rel => exact ⟨k + 1, _, by omega, by go_num, rfl, fun j hj => by
            by_cases ej : j = k
            · subst ej; rw [E1.out, E2.out]; exact congrArg some He.out
            · exact hall j (by omega)⟩
          case measure => simp [intOf]; omega
        · have hne : (l.toList == m.toList) = false := by rw [beq_toList, decide_eq_false he]
          have HD := Lib.hid (decide_eq_false (take_ne E1.out E2.out he))
          clear he
          go_wp2
          go_quiet (fail)
          go_wp2
          go_ret
          exact ⟨ret_bool HD.out.symm, q + nq, World.drewN_drewN ..⟩
      · have HD : Hid (decide (ls = ms) = true) := decide_eq_true (eq_of_upto (by rw [Hn1.out, Hn2.out]) fun j hj => hall j (by rw [Hn1.out] at hj; omega))
        go_wp2
        go_ret
        exact ⟨ret_bool HD.out.symm, _, rfl⟩
  · have HD : Hid (decide (ls = ms) = false) := decide_eq_false (by rintro rfl; omega)
    have hl2 : ¬ (n1 : Int) = (n2 : Int) := by omega
    have hl3 : ((n1 : Int) != (n2 : Int)) = true := by rw [bne_iff_ne]; exact hl2
    clear hl hl2
    go_enter Tryz.func25, Tryz.ntmps25
    go_wp2
    go_ret
    exact ⟨ret_bool HD.out.symm, 0, rfl⟩

set_option maxHeartbeats 1000000 in
theorem copyTexts_any (ls : List ByteArray) (A1 : Option Addr) (n1 c1 B1 : Nat) (w : World) (h1 : Rd w B1 1 A1 (textsC ls)) (hn1 : ls.length = n1) (hB : B1 ≤ w.heap.size) (hm1 : n1 * 16 ≤ 140737488355328) :
    Calls Tryz.prog 21 #[.slice A1 n1 c1] w fun e w' => ∃ A c, e = .returned (.slice A n1 c) ∧ Own w' w.heap.size 9 1 A n1 c (textsC ls) ∧ Below w.heap.size w w' := by
  have Hn1 := Lib.hid hn1
  clear hn1
  go_enter Tryz.func21, Tryz.ntmps21
  go_wp2_with (at_builtin; refine wpList_append_rd (ys := textsC ls) _ rfl (.tmp 3) (.tmp 4) _ rfl eiTexts rfl (Own.lit (n := 0) (xs := []) w (by omega) (by simp) rfl (by simp [maxLen]) (Nat.le_refl _) #[] rfl) rfl (h1.below ((Below.refl _ _).alloc (by omega) _)) (by rw [textsC_len]; exact Hn1.out) (textsC_one ls) (by simp only [maxLen]; omega) (by omega) (by simp) ?_; intro A' c' w2 ho hg hat hb)
  go_ret
  exact ⟨A', c', by simp, by simpa using ho, ((Below.refl _ _).alloc (Nat.le_refl _) _).trans hb⟩
end
section
/-! ## NodS -/
open Go.RowKit

structure Nod where
  kind : Int
  op : Int
  text : ByteArray
  mat : List Mat
  width : Int
  back : Int
  grp : Int
  names : List ByteArray
  cmp : Bool
  parts : Int
def nodC (n : Nod) (Am : Option Addr) (cm : Nat) (An : Option Addr) (cn : Nat) : List Value :=
  [.int .i64 n.kind, .int .i64 n.op, .string n.text, .slice Am n.mat.length cm, .int .i64 n.width, .int .i64 n.back, .int .i64 n.grp, .slice An n.names.length cn, .bool n.cmp, .int .i64 n.parts]
/-- The ten cells of a node. -/
def NodAt (w : World) (B : Nat) (x : List Value) (n : Nod) : Prop :=
  ∃ Am cm An cn, x = nodC n Am cm An cn ∧ Rd w B 3 Am (matsC n.mat) ∧ Rd w B 1 An (textsC n.names) ∧ n.mat.length ≤ cm ∧ cm ≤ maxLen ∧ n.names.length ≤ cn ∧ cn ≤ maxLen
def RdNods (w : World) (B : Nat) (A : Option Addr) (ns : List Nod) : Prop :=
  ∃ cs, Rd w B 10 A cs ∧ cs.length = ns.length ∧ ∀ (k : Nat) (n : Nod), ns[k]? = some n → ∃ x, cs[k]? = some x ∧ NodAt w B x n
section
variable {w w' : World} {B B' : Nat} {A : Option Addr} {ns : List Nod}
theorem NodAt.keep {x : List Value} {n : Nod} (h : NodAt w B x n) (hk : ∀ b o, b < B → w'.cell? ⟨b, o, none⟩ = w.cell? ⟨b, o, none⟩) : NodAt w' B x n := by
  obtain ⟨Am, cm, An, cn, h1, h2, h3, h4⟩ := h
  exact ⟨Am, cm, An, cn, h1, h2.keep hk, h3.keep hk, h4⟩
theorem NodAt.more {x : List Value} {n : Nod} (h : NodAt w B x n) (hB : B ≤ B') : NodAt w B' x n := by
  obtain ⟨Am, cm, An, cn, h1, h2, h3, h4⟩ := h
  exact ⟨Am, cm, An, cn, h1, h2.more hB, h3.more hB, h4⟩
theorem RdNods.keep (h : RdNods w B A ns) (hk : ∀ b o, b < B → w'.cell? ⟨b, o, none⟩ = w.cell? ⟨b, o, none⟩) : RdNods w' B A ns := by
  obtain ⟨cs, h1, h2, h3⟩ := h
  refine ⟨cs, h1.keep hk, h2, fun k s hs => ?_⟩
  obtain ⟨x, hx, h4⟩ := h3 k s hs
  exact ⟨x, hx, h4.keep hk⟩
theorem RdNods.below (h : RdNods w B A ns) (hb : Below B w w') : RdNods w' B A ns := h.keep fun _ _ hp => hb.cell (p := ⟨_, _, none⟩) hp
theorem RdNods.drewN (h : RdNods w B A ns) (q : Nat) : RdNods (w.drewN q) B A ns := h
theorem RdNods.more (h : RdNods w B A ns) (hB : B ≤ B') : RdNods w B' A ns := by
  obtain ⟨cs, h1, h2, h3⟩ := h
  refine ⟨cs, h1.more hB, h2, fun k s hs => ?_⟩
  obtain ⟨x, hx, h4⟩ := h3 k s hs
  exact ⟨x, hx, h4.more hB⟩
theorem RdNods.nil_ : RdNods w B A [] := ⟨[], Rd.nil_, rfl, fun k s h => by simp at h⟩
theorem RdNods.at_ {k : Nat} {n : Nod} (h : RdNods w B A ns) (hs : ns[k]? = some n) : ∃ b o Am cm An cn, A = some ⟨b, o, none⟩ ∧ b < B ∧
    w.cell? ⟨b, o + k * 10, none⟩ = some (.int .i64 n.kind) ∧ w.cell? ⟨b, o + k * 10 + 1, none⟩ = some (.int .i64 n.op) ∧ w.cell? ⟨b, o + k * 10 + 2, none⟩ = some (.string n.text) ∧
    w.cell? ⟨b, o + k * 10 + 3, none⟩ = some (.slice Am n.mat.length cm) ∧ w.cell? ⟨b, o + k * 10 + 4, none⟩ = some (.int .i64 n.width) ∧ w.cell? ⟨b, o + k * 10 + 5, none⟩ = some (.int .i64 n.back) ∧
    w.cell? ⟨b, o + k * 10 + 6, none⟩ = some (.int .i64 n.grp) ∧ w.cell? ⟨b, o + k * 10 + 7, none⟩ = some (.slice An n.names.length cn) ∧ w.cell? ⟨b, o + k * 10 + 8, none⟩ = some (.bool n.cmp) ∧ w.cell? ⟨b, o + k * 10 + 9, none⟩ = some (.int .i64 n.parts) ∧
    Rd w B 3 Am (matsC n.mat) ∧ Rd w B 1 An (textsC n.names) ∧ n.mat.length ≤ cm ∧ cm ≤ maxLen ∧ n.names.length ≤ cn ∧ cn ≤ maxLen := by
  obtain ⟨cs, h1, h2, h3⟩ := h
  obtain ⟨x, hx, Am, cm, An, cn, rfl, hr⟩ := h3 k n hs
  obtain ⟨b, o, e, hb, hc⟩ := h1.2 (by rintro rfl; simp at hx)
  exact ⟨b, o, Am, cm, An, cn, e, hb, by simpa using hc k _ 0 _ hx rfl, by simpa using hc k _ 1 _ hx rfl, by simpa using hc k _ 2 _ hx rfl, by simpa using hc k _ 3 _ hx rfl, by simpa using hc k _ 4 _ hx rfl, by simpa using hc k _ 5 _ hx rfl, by simpa using hc k _ 6 _ hx rfl, by simpa using hc k _ 7 _ hx rfl, by simpa using hc k _ 8 _ hx rfl, by simpa using hc k _ 9 _ hx rfl, hr⟩
end
def nodEq (a b : Nod) : Bool := decide (a.kind = b.kind) && decide (a.op = b.op) && decide (a.text = b.text) && decide (a.mat = b.mat) && decide (a.width = b.width) && decide (a.back = b.back) && decide (a.grp = b.grp) && decide (a.names = b.names) && decide (a.cmp = b.cmp) && decide (a.parts = b.parts)
theorem nodEq_iff {a b : Nod} : nodEq a b = true ↔ a = b := by
  cases a; cases b; simp [nodEq, and_assoc]
instance : DecidableEq Nod := fun a b => if h : nodEq a b = true then isTrue (nodEq_iff.1 h) else isFalse (fun e => h (nodEq_iff.2 e))
end
end Go.Proofs.YtakfnojiaakfpaaGreatDoor
