/- More words for memory: a block that may be written; append, told whether it moved. -/
import Derived.Test.YtnlheomfobpcmaaGreatMem
namespace Go.Proofs.YtnlheomfobpcmaaGreat
open Go.RowKit

theorem get_lt {α : Type} {l : List α} {k n : Nat} (hn : Hid (l.length = n)) (hk : k < n) : ∃ x, l[k]? = some x := ⟨_, List.getElem?_eq_getElem (by rw [hn.out]; exact hk)⟩
theorem take_ne {α : Type} {l m : List α} {k : Nat} {a b : α} (h1 : l[k]? = some a) (h2 : m[k]? = some b) (hne : a ≠ b) : l ≠ m := by
  rintro rfl; rw [h1] at h2; injection h2 with h; exact hne h
theorem eq_of_upto {α : Type} {l m : List α} (hl : l.length = m.length) (h : ∀ j, j < l.length → l[j]? = m[j]?) : l = m := by
  apply List.ext_getElem? 
  intro j
  by_cases hj : j < l.length
  · exact h j hj
  · rw [List.getElem?_eq_none (by omega), List.getElem?_eq_none (by omega)]
/-- Bytes as cells. -/
def bytesC (l : List UInt8) : List (List Value) := l.map fun c => [.int .u8 (c.toNat : Int)]
/-- The block g has room for m cells, and may be written. -/
def Wr (w : World) (g : Nat) (e : TypeId) (m : Nat) : Prop := ∃ cur, w.heap[g]? = some (.cells cur e (0, 0)) ∧ m ≤ cur.size
section
variable {w w' : World} {g m B : Nat} {e : TypeId}
theorem Wr.lt (h : Wr w g e m) : g < w.heap.size := by obtain ⟨cur, h, _⟩ := h; exact (Array.getElem?_eq_some_iff.1 h).1
theorem Wr.cell (h : Wr w g e m) {j : Nat} (hj : j < m) : ∃ v, w.cell? ⟨g, j, none⟩ = some v := by
  obtain ⟨cur, h, hm⟩ := h
  have hj2 : j < cur.size := by omega
  exact ⟨cur[j], by rw [cell_of_row w g j cur e (0, 0) h]; simp [hj2]⟩
theorem Wr.frozen (h : Wr w g e m) (j : Nat) : w.frozen? ⟨g, j, none⟩ = false := by
  obtain ⟨cur, h, hm⟩ := h
  exact frozen_of_row w g j _ _ h
theorem Wr.keep (h : Wr w g e m) (hk : w'.heap[g]? = w.heap[g]?) : Wr w' g e m := by
  obtain ⟨cur, h, hm⟩ := h; exact ⟨cur, hk.trans h, hm⟩
theorem Wr.setCell (h : Wr w g e m) (a : Addr) (u : Value) : Wr (w.setCell a u) g e m := by
  by_cases ha : g = a.block
  · obtain ⟨cur, h, hm⟩ := h
    obtain ⟨b, o, sp⟩ := a
    simp only at ha
    subst ha
    simp only [Wr, World.setCell, Array.getElem?_modify, h, if_true, Option.map_some]
    cases sp <;> exact ⟨_, rfl, by simpa using hm⟩
  · exact h.keep (Below.heap_setCell w a u g ha)
theorem Wr.alloc (h : Wr w g e m) (o : Obj) : Wr (w.alloc o) g e m := h.keep (Below.heap_alloc w o g h.lt)
theorem Wr.below (h : Wr w g e m) (hb : Below B w w') (hg : g < B) : Wr w' g e m := h.keep (hb.block g hg)
theorem Wr.grown {row : Option Nat} (h : Wr w g e m) (hg : w.grownBy w' row) (hr : some g ≠ row) : Wr w' g e m := h.keep (hg.block g h.lt hr)
theorem Wr.drew (h : Wr w g e m) : Wr w.drew g e m := h
theorem Wr.less {m' : Nat} (h : Wr w g e m) (hm : m' ≤ m) : Wr w g e m' := by
  obtain ⟨cur, h, h2⟩ := h; exact ⟨cur, h, by omega⟩
theorem grownBy_setCell {row : Option Nat} (h : w.grownBy w' row) {a : Addr} (ha : some a.block = row ∨ w.heap.size ≤ a.block) (u : Value) : w.grownBy (w'.setCell a u) row where
  os := h.os
  tape := h.tape
  output := h.output
  size := by simpa using h.size
  block := fun k hk hr => by
    rw [Below.heap_setCell w' a u k, h.block k hk hr]
    rintro rfl
    rcases ha with ha | ha
    · exact hr ha
    · omega
theorem grownBy_alloc' {row : Option Nat} (h : w.grownBy w' row) (o : Obj) : w.grownBy (w'.alloc o) row where
  os := h.os
  tape := h.tape
  output := h.output
  size := by simpa using Nat.le_succ_of_le h.size
  block := fun k hk hr => (Below.heap_alloc w' o k (Nat.lt_of_lt_of_le hk h.size)).trans (h.block k hk hr)
theorem grownBy_drew {row : Option Nat} (h : w.grownBy w' row) : w.grownBy w'.drew row := ⟨h.os, h.tape, h.output, h.size, h.block⟩
theorem grownBy_of_below {row : Option Nat} (h : Below w.heap.size w w') : w.grownBy w' row := ⟨h.os, h.tape, h.output, h.size, fun k hk _ => h.block k hk⟩
theorem below_of_grown {row : Option Nat} (h : w.grownBy w' row) (hB : B ≤ w.heap.size) (hr : ∀ g, row = some g → B ≤ g) : Below B w w' :=
  ⟨h.os, h.tape, h.output, h.size, fun k hk => h.block k (by omega) (fun e => by have := hr _ e.symm; omega)⟩
end

section
variable {w : World} {base sz n c : Nat} {e : TypeId} {A : Option Addr} {xs : List (List Value)}
theorem Own.wr (h : Own w base e sz A n c xs) (b o : Nat) (hA : A = some ⟨b, o, none⟩) : o = 0 ∧ True ∧ Wr w b e (c * sz) := by
  rcases h.2.2.2.2 with ⟨hv, _⟩ | ⟨g, cap, cur, hv, _, hg, _, _, hcs, _⟩
  · injection hv with h1; rw [hA] at h1; cases h1
  · injection hv with h1 _ h3
    rw [hA] at h1
    injection h1 with h1
    injection h1 with e1 e2
    subst e1 e2 h3
    exact ⟨rfl, trivial, cur, hg, by omega⟩
end

section
variable {P : Program} (w : World)
theorem run_append_ex {t e : TypeId} {sz bytes : Nat} (ty : TypeId) (hE : EI P t e sz bytes) {base : Nat} {A : Option Addr} {n c : Nat} {xs : List (List Value)} (hown : Own w base e sz A n c xs)
    {B : Nat} {A2 : Option Addr} {m c2 : Nat} {ys : List (List Value)} (hr : Rd w B sz A2 ys) (hm : ys.length = m) (h1 : ∀ y ∈ ys, ∀ u ∈ y, u.oneCell' = true)
    (h63 : n + m ≤ maxLen) (hbytes : (n + m) * bytes ≤ 140737488355328) (hbase : base ≤ w.heap.size) :
    ∃ A' c' w', (Builtin.append_ #[t, t] ty #[.slice A n c, .slice A2 m c2]).run P w = .ok (.slice A' (n + m) c') w' ∧ Own w' base e sz A' (n + m) c' (xs ++ ys) ∧ w.grownBy w' (A.map Addr.block) ∧
      ((A' = A ∧ c' = c) ∨ (A' = some ⟨w.heap.size, 0, none⟩ ∧ w.grownBy w' none)) ∧ Below base w w' := by
  by_cases hy : ys = [] ∨ n + m ≤ c
  · obtain ⟨A', c', w', hrun, h2, h3, h4, h5⟩ := run_append_rd (P := P) w ty hE hown hr hm h1 h63 hbytes hbase (c2 := c2)
    refine ⟨A', c', w', hrun, h2, h3, .inl ?_, h5⟩
    obtain ⟨ht, i, z, hi, hz, hsize, hby, hzs, hsz⟩ := hE
    rcases hy with hy | hy
    · subst hy
      obtain rfl : m = 0 := by simpa using hm.symm
      rcases hown.2.2.2.2 with ⟨hv, h0⟩ | ⟨g, cap, cur, hv, _, _, hnc, _⟩
      · injection hv with e1 _ e3
        subst e1 e3 h0
        cases A2 <;> simp [Builtin.append_, run_underlying ht, sizeOf, typeInfo, hi, Builtin.lenOf, Builtin.firstCells, loadCells, loadCellsFrom] at hrun <;> exact ⟨hrun.1.1.symm, hrun.1.2.symm⟩
      · injection hv with e1 _ e3
        subst e1 e3
        cases A2 <;> simp [Builtin.append_, run_underlying ht, sizeOf, typeInfo, hi, Builtin.lenOf, Builtin.firstCells, loadCells, loadCellsFrom, hnc, storeCells] at hrun <;> exact ⟨hrun.1.1.symm, hrun.1.2.symm⟩
    · by_cases hy0 : ys = []
      · subst hy0
        obtain rfl : m = 0 := by simpa using hm.symm
        rcases hown.2.2.2.2 with ⟨hv, h0⟩ | ⟨g, cap, cur, hv, _, _, hnc, _⟩
        · injection hv with e1 _ e3
          subst e1 e3 h0
          cases A2 <;> simp [Builtin.append_, run_underlying ht, sizeOf, typeInfo, hi, Builtin.lenOf, Builtin.firstCells, loadCells, loadCellsFrom] at hrun <;> exact ⟨hrun.1.1.symm, hrun.1.2.symm⟩
        · injection hv with e1 _ e3
          subst e1 e3
          cases A2 <;> simp [Builtin.append_, run_underlying ht, sizeOf, typeInfo, hi, Builtin.lenOf, Builtin.firstCells, loadCells, loadCellsFrom, hnc, storeCells] at hrun <;> exact ⟨hrun.1.1.symm, hrun.1.2.symm⟩
      · obtain ⟨b, o, rfl, hb, hnews⟩ := hr.news hy0
        have hl : ys.flatten.length = m * i.size := by rw [flat_len ys sz hr.1, hm, hsize]
        have hmp : 0 < m := by
          rcases Nat.eq_zero_or_pos m with h0 | h0
          · exact absurd (List.eq_nil_of_length_eq_zero (hm.trans h0)) hy0
          · exact h0
        rcases hown.2.2.2.2 with ⟨hv, h0⟩ | ⟨g, cap, cur, hv, _, hg, hnc, hcm, hcs, htake⟩
        · injection hv with e1 _ e3
          omega
        · injection hv with e1 _ e3
          subst e1 e3
          have hfit : n * i.size + ys.flatten.length ≤ cur.size := by rw [hl, hcs, hsize, ← Nat.add_mul]; exact Nat.mul_le_mul_right _ hy
          have := run_append_room (P := P) w t ty e i ht hi g n c cur hg ⟨b, o, none⟩ m c2 ys.flatten hl hnews (fun u hu => by obtain ⟨y, hy, hu⟩ := List.mem_flatten.1 hu; exact h1 y hy u hu) hy hfit
          rw [this] at hrun
          injection hrun with hrun
          injection hrun with e1 _ e3
          exact ⟨e1.symm, e3.symm⟩
  · obtain ⟨ht, i, z, hi, hz, hsize, hby, hzs, hsz⟩ := hE
    have hy0 : ys ≠ [] := fun h => hy (.inl h)
    have hgt : c < n + m := by
      rcases Nat.lt_or_ge c (n + m) with h | h
      · exact h
      · exact absurd (.inr h) hy
    obtain ⟨b, o, rfl, hb, hnews⟩ := hr.news hy0
    have hl : ys.flatten.length = m * i.size := by rw [flat_len ys sz hr.1, hm, hsize]
    have hmp : 0 < m := by
      rcases Nat.eq_zero_or_pos m with h0 | h0
      · exact absurd (List.eq_nil_of_length_eq_zero (hm.trans h0)) hy0
      · exact h0
    have h63' : n + m ≤ 9223372036854775807 := by simp only [maxLen] at h63; omega
    have fin : ∀ (cs : Array Value) (cap : Nat), n + m ≤ cap → cap ≤ maxLen → cs.size = cap * sz → cs.toList.take ((n + m) * sz) = (xs ++ ys).flatten → Own (w.drew.alloc (.cells cs e)) base e sz (some ⟨w.heap.size, 0, none⟩) (n + m) cap (xs ++ ys) := by
      intro cs cap h1 h2 h3 h4
      refine ⟨hown.1, ?_, by rw [List.length_append, hown.len, hm], ?_⟩
      · intro x hx
        rcases List.mem_append.1 hx with hx | hx
        · exact hown.2.1 x hx
        · exact hr.1 x hx
      · refine ⟨?_, .inr ⟨w.heap.size, cap, cs, rfl, hbase, heap_alloc_new w.drew _, h1, h2, h3, h4⟩⟩
        rw [flat_len _ sz, List.length_append, hown.len, hm]
        intro x hx
        rcases List.mem_append.1 hx with hx | hx
        · exact hown.2.1 x hx
        · exact hr.1 x hx
    have hgn : ∀ (o : Obj) (row : Option Nat), w.grownBy (w.drew.alloc o) row := fun o row => ⟨rfl, rfl, rfl, by simp, fun k hk _ => Below.heap_alloc w.drew o k hk⟩
    have hxl : xs.flatten.length = n * sz := by rw [flat_len xs sz hown.2.1, hown.len]
    rcases hown.2.2.2.2 with ⟨hv, h0⟩ | ⟨g, cap, cur, hv, hbg, hg, hnc, hcm, hcs, htake⟩
    · injection hv with e1 _ e3
      subst e1 e3 h0
      have hx : xs = [] := List.eq_nil_of_length_eq_zero hown.len
      subst hx
      have hrun := run_append_nil (P := P) w t ty e i z ht hi hz ⟨b, o, none⟩ m c2 ys.flatten hl hnews hmp (by omega) (by have hb := hbytes; simp only [Nat.zero_add] at hb; rw [hby]; omega)
      have hge := grownCap_ge w m 0 e
      have hcm := grownCap_le_maxLen w m 0 e (by omega)
      refine ⟨_, _, _, (by rw [Nat.zero_add]; exact hrun), fin _ _ (by omega) hcm ?_ ?_, hgn _ _, .inr ⟨rfl, hgn _ _⟩, below_of_grown (hgn _ none) hbase (fun g h => by cases h)⟩
      · simp only [Array.size_append, List.size_toArray, size_zeroCells, hzs, hl, hsize, ← Nat.add_mul]
        congr 1
        omega
      · simp only [Array.toList_append, List.nil_append, Nat.zero_add]
        rw [show m * sz = ys.flatten.length from by rw [hl, hsize]]
        exact List.take_left
    · injection hv with e1 _ e3
      subst e1 e3
      have holds : ∀ j u, xs.flatten[j]? = some u → w.cell? ((⟨g, 0, none⟩ : Addr).add j) = some u := hown.2.2.2.cells (g := g) rfl
      have hrun := run_append_grow (P := P) w t ty e i z ht hi hz ⟨g, 0, none⟩ n c xs.flatten (by rw [hxl, hsize]) holds ⟨b, o, none⟩ m c2 ys.flatten hl hnews hgt (by omega) (growslice_fits hgt (by rw [hby]; exact hbytes))
      have hge := grownCap_ge w (n + m) c e
      have hcm2 := grownCap_le_maxLen w (n + m) c e h63
      refine ⟨_, _, _, hrun, fin _ _ hge hcm2 ?_ ?_, hgn _ _, .inr ⟨rfl, hgn _ _⟩, below_of_grown (hgn _ none) hbase (fun g h => by cases h)⟩
      · simp only [Array.size_append, List.size_toArray, size_zeroCells, hzs, hl, hxl, hsize, ← Nat.add_mul]
        congr 1
        omega
      · simp only [Array.toList_append, List.append_assoc]
        rw [← List.append_assoc, ← List.flatten_append, show (n + m) * sz = (xs ++ ys).flatten.length from by rw [List.flatten_append, List.length_append, hxl, hl, hsize, Nat.add_mul]]
        exact List.take_left

/-- At a plain region's list. -/
theorem wpList_append_ex {ops : Array Oper} {rest : List Oper} {o : Oper} {a : Act} {Q : Exit → Act → World → Prop} (hgd : o.guard = none) (s x : Operand) (t : TypeId)
    (ho : o.op = .call { callee := .builtin .append, args := #[s, x], argTypes := #[t, t] }) {e : TypeId} {sz bytes : Nat} (hE : EI P t e sz bytes)
    {base : Nat} {A : Option Addr} {n c : Nat} {xs : List (List Value)} (hs : a.eval s = .slice A n c) (hown : Own w base e sz A n c xs)
    {B : Nat} {A2 : Option Addr} {m c2 : Nat} {ys : List (List Value)} (hx : a.eval x = .slice A2 m c2) (hr : Rd w B sz A2 ys) (hm : ys.length = m) (h1 : ∀ y ∈ ys, ∀ u ∈ y, u.oneCell' = true)
    (h63 : n + m ≤ maxLen) (hbytes : (n + m) * bytes ≤ 140737488355328) (hbase : base ≤ w.heap.size)
    (h : ∀ A' c' w', Own w' base e sz A' (n + m) c' (xs ++ ys) → w.grownBy w' (A.map Addr.block) → ((A' = A ∧ c' = c) ∨ (A' = some ⟨w.heap.size, 0, none⟩ ∧ w.grownBy w' none)) → Below base w w' → wpList P ops Q rest (a.put o.dst (.slice A' (n + m) c')) w') :
    wpList P ops Q (o :: rest) a w :=
  wpList_plain hgd fun _ hK => by
    obtain ⟨A', c', w', hrun, h2, h3, h4, h5⟩ := run_append_ex (P := P) w o.type hE hown hr hm h1 h63 hbytes hbase (c2 := c2)
    unfold Oper.wp execOp
    simp only [ho, resolve, invoke, builtin, Sem.run_bind, Sem.run_pure, Result.andThen_ok, List.map_toArray, List.map_cons, List.map_nil, hs, hx, hrun]
    exact hK _ _ (h A' c' w' h2 h3 h4 h5)
end
end Go.Proofs.YtnlheomfobpcmaaGreat
