/- lex.Lex: what is known at each label. -/
import Derived.Test.YtdikmklijpcjdaaLexSpec
import Derived.Test.YtdikmklijpcjdaaScope
import Derived.Test.YtdikmklijpcjdaaMem2
namespace Go.Proofs.Ytdikmklijpcjdaa
open Go.RowKit

theorem eiTok : EI Try.prog 30 52 4 40 := EI.mk' Try.underlying30 (z := .agg #[.int .i64 0, .int .i64 0, .string ByteArray.empty, .int .i64 0]) (by kernel_rfl) rfl (by omega)
theorem eiByte : EI Try.prog 65 5 1 1 := EI.mk' Try.underlying65 (z := .int .u8 0) (by kernel_rfl) rfl (by omega)
theorem one_toks (ts : List Tok) : ∀ y ∈ toksC ts, ∀ u ∈ y, u.oneCell' = true := by
  intro y hy u hu
  obtain ⟨l, _, rfl⟩ := List.mem_map.1 hy
  simp [tokC] at hu
  rcases hu with rfl | rfl | rfl | rfl <;> rfl
/-- The token's block. -/
def TVar (w : World) (T : Nat) : Prop := ∃ v0 v1 v2 v3, w.heap[T]? = some (.cells #[v0, v1, v2, v3] 52 (0, 0))
theorem TVar.grown {w w' : World} {T : Nat} {row : Option Nat} (h : TVar w T) (hg : w.grownBy w' row) (hT : T < w.heap.size) (hr : row ≠ some T) : TVar w' T := by
  obtain ⟨v0, v1, v2, v3, h⟩ := h
  exact ⟨v0, v1, v2, v3, (hg.block T hT (fun e => hr e.symm)).trans h⟩
theorem TVar.alloc {w : World} {T : Nat} (h : TVar w T) (hT : T < w.heap.size) (o : Obj) : TVar (w.alloc o) T := by
  obtain ⟨v0, v1, v2, v3, h⟩ := h
  exact ⟨v0, v1, v2, v3, (Below.heap_alloc w o T hT).trans h⟩
theorem TVar.set {w : World} {T j : Nat} (h : TVar w T) (u : Value) : TVar (w.setCell ⟨T, j, none⟩ u) T := by
  obtain ⟨v0, v1, v2, v3, h⟩ := h
  have := heap_setCell_same w T j _ _ u h
  match j with
  | 0 => exact ⟨_, _, _, _, this⟩
  | 1 => exact ⟨_, _, _, _, this⟩
  | 2 => exact ⟨_, _, _, _, this⟩
  | 3 => exact ⟨_, _, _, _, this⟩
  | j + 4 => exact ⟨v0, v1, v2, v3, by simpa using this⟩
theorem TVar.cells {w : World} {T : Nat} (h : TVar w T) : ∃ v0 v1 v2 v3, w.cell? ⟨T, 0, none⟩ = some v0 ∧ w.cell? ⟨T, 1, none⟩ = some v1 ∧ w.cell? ⟨T, 2, none⟩ = some v2 ∧ w.cell? ⟨T, 3, none⟩ = some v3 ∧ ∀ j, w.frozen? ⟨T, j, none⟩ = false := by
  obtain ⟨v0, v1, v2, v3, h⟩ := h
  exact ⟨v0, v1, v2, v3, cell_of_row w T 0 _ _ (0, 0) h, cell_of_row w T 1 _ _ (0, 0) h, cell_of_row w T 2 _ _ (0, 0) h, cell_of_row w T 3 _ _ (0, 0) h, fun j => frozen_of_row w T j _ _ h⟩

/-- What is known at every label. -/
structure LexAt (s : ByteArray) (w : World) (k : Nat) (vO : Value) (done : List Tok) (w' : World) : Prop where
  le : k ≤ s.size
  small : s.size ≤ 4096
  few : done.length ≤ k
  bel : Below w.heap.size w w'
  tv : TVar w' w.heap.size
  siz : w.heap.size < w'.heap.size
  out : ∃ A c, vO = .slice A done.length c ∧ Own w' (w.heap.size + 1) 52 4 A done.length c (toksC done)
theorem LexAt.on {s : ByteArray} {w w' : World} {k k2 : Nat} {vO : Value} {done : List Tok} (h : LexAt s w k vO done w') (hk : k ≤ k2) (hk2 : k2 ≤ s.size) : LexAt s w k2 vO done w' :=
  { h with le := hk2, few := by have := h.few; omega }
theorem TVar.below {w w' : World} {T B : Nat} (h : TVar w T) (hb : Below B w w') (hT : T < B) : TVar w' T := by
  obtain ⟨v0, v1, v2, v3, h⟩ := h
  exact ⟨v0, v1, v2, v3, (hb.block T hT).trans h⟩
theorem LexAt.snoc {s : ByteArray} {w w' w2 : World} {k k2 c' : Nat} {vO : Value} {A' : Option Addr} {done : List Tok} {t : Tok} {o : Obj} (h : LexAt s w k vO done w')
    (ho : Own w2 (w.heap.size + 1) 52 4 A' (done.length + 1) c' (toksC done ++ toksC [t])) (hb : Below (w.heap.size + 1) (w'.alloc o) w2) (hk : k < k2) (hk2 : k2 ≤ s.size) : LexAt s w k2 (.slice A' (done.length + 1) c') (done ++ [t]) w2 := by
  have hs := h.siz
  have hb2 := (h.bel.alloc (by omega) o).trans (hb.mono (by omega))
  refine { le := hk2, small := h.small, few := ?_, bel := hb2, tv := (h.tv.alloc hs o).below hb (by omega), siz := ?_, out := ⟨A', c', ?_, ?_⟩ }
  · have := h.few; simp; omega
  · have := hb.size; simp at this; omega
  · simp
  · simpa [toksC] using ho
theorem lex_step {s : ByteArray} {k n : Nat} {ts : List Tok} (hk : k < s.size) (h : oneL k (s.data.toList.drop k) = .ok ts n) : lexL k (s.data.toList.drop k) = (lexL (k + n) (s.data.toList.drop (k + n))).pre ts := by
  have hd := drop_at hk
  rw [hd] at h
  rw [hd, lexL_cons, h, ← hd]
  simp only [List.drop_drop]
theorem lex_err {s : ByteArray} {k p : Nat} {e : Int} (hk : k < s.size) (h : oneL k (s.data.toList.drop k) = .err p e) : lexL k (s.data.toList.drop k) = .err p e := by
  have hd := drop_at hk
  rw [hd] at h
  rw [hd, lexL_cons, h]
theorem one_blank {s : ByteArray} {k : Nat} (hk : k < s.size) (h : blankB s[k] = true) : oneL k (s.data.toList.drop k) = .ok [] 1 := by
  rw [drop_at hk, oneL, if_pos h]
theorem one_quote {s : ByteArray} {k : Nat} (hk : k < s.size) (h1 : blankB s[k] = false) (h2 : dchar s[k] = false) (h3 : letB s[k] = false) (h : s[k].toNat = 34) : oneL k (s.data.toList.drop k) = textTok k 1 [] (textS false (s.data.toList.drop (k + 1))) := by
  rw [drop_at hk, oneL, if_neg (by simp [h1]), if_neg (by simp [h2]), if_neg (by simp [h3]), if_pos h]
theorem one_sign {s : ByteArray} {k : Nat} (hk : k < s.size) (h1 : blankB s[k] = false) (h2 : dchar s[k] = false) (h3 : letB s[k] = false) (h4 : s[k].toNat ≠ 34) : oneL k (s.data.toList.drop k) = if 0 < signN (s.data.toList.drop k) then .ok [⟨5, k, mkB ((s.data.toList.drop k).take (signN (s.data.toList.drop k))), 0⟩] (signN (s.data.toList.drop k)) else .err k 171 := by
  rw [drop_at hk, oneL, if_neg (by simp [h1]), if_neg (by simp [h2]), if_neg (by simp [h3]), if_neg h4]
theorem blank_no {c : UInt8} (h : blankB c = false) : ((c.toNat : Int) == 32) = false ∧ ((c.toNat : Int) == 9) = false ∧ ((c.toNat : Int) == 13) = false ∧ ((c.toNat : Int) == 10) = false := by
  simp [blankB] at h
  refine ⟨?_, ?_, ?_, ?_⟩ <;> (rw [beq_eq_false_iff_ne]; omega)
def lexK0 (s : ByteArray) (w : World) (k : Nat) (vO : Value) (w' : World) : Prop := ∃ done, LexAt s w k vO done w' ∧ lexL 0 s.data.toList = (lexL k (s.data.toList.drop k)).pre done
def lexK1 (s : ByteArray) (w : World) (k : Nat) (vO vF : Value) (w' : World) : Prop := ∃ done, LexAt s w k vO done w' ∧ lexL 0 s.data.toList = (lexL k (s.data.toList.drop k)).pre done ∧ vF = .int .i64 k ∧ ∃ h : k < s.size, blankB s[k] = false ∧ dchar s[k] = true
def lexK2 (s : ByteArray) (w : World) (k : Nat) (vO vF : Value) (w' : World) : Prop := ∃ done, LexAt s w k vO done w' ∧ lexL 0 s.data.toList = (lexL k (s.data.toList.drop k)).pre done ∧ vF = .int .i64 k ∧ ∃ h : k < s.size, blankB s[k] = false ∧ dchar s[k] = false ∧ letB s[k] = true
def lexT (b : Bool) (d : Nat) (s : ByteArray) (w : World) (k : Nat) (vO vS vF : Value) (w' : World) : Prop := ∃ done f acc A c, LexAt s w k vO done w' ∧ lexL 0 s.data.toList = (lexL f (s.data.toList.drop f)).pre done ∧ vF = .int .i64 (f : Nat) ∧ f < k ∧ done.length ≤ f ∧
  vS = .slice A acc.length c ∧ Own w' (w.heap.size + 1) 5 1 A acc.length c (bytesC acc) ∧ acc.length ≤ k ∧ oneL f (s.data.toList.drop f) = textTok f (k + d - f) acc (textS b (s.data.toList.drop (k + d)))
def lexK4 (s : ByteArray) (w : World) (k : Nat) (vO vS vF : Value) (w' : World) : Prop := lexT true 1 s w k vO vS vF w' ∧ k < s.size
theorem frame_map (tmps : Array Value) : tmps = ((List.range tmps.size).map fun i => tmps.getD i undef).toArray := by
  apply Array.ext
  · simp
  · intro i h1 h2
    simp [Array.getD, h1]
set_option maxRecDepth 100000 in
theorem frame_any (tmps : Array Value) (h : tmps.size = 215) : ∃ u : Nat → Value, tmps = #[u 0, u 1, u 2, u 3, u 4, u 5, u 6, u 7, u 8, u 9, u 10, u 11, u 12, u 13, u 14, u 15, u 16, u 17, u 18, u 19, u 20, u 21, u 22, u 23, u 24, u 25, u 26, u 27, u 28, u 29, u 30, u 31, u 32, u 33, u 34, u 35, u 36, u 37, u 38, u 39, u 40, u 41, u 42, u 43, u 44, u 45, u 46, u 47, u 48, u 49, u 50, u 51, u 52, u 53, u 54, u 55, u 56, u 57, u 58, u 59, u 60, u 61, u 62, u 63, u 64, u 65, u 66, u 67, u 68, u 69, u 70, u 71, u 72, u 73, u 74, u 75, u 76, u 77, u 78, u 79, u 80, u 81, u 82, u 83, u 84, u 85, u 86, u 87, u 88, u 89, u 90, u 91, u 92, u 93, u 94, u 95, u 96, u 97, u 98, u 99, u 100, u 101, u 102, u 103, u 104, u 105, u 106, u 107, u 108, u 109, u 110, u 111, u 112, u 113, u 114, u 115, u 116, u 117, u 118, u 119, u 120, u 121, u 122, u 123, u 124, u 125, u 126, u 127, u 128, u 129, u 130, u 131, u 132, u 133, u 134, u 135, u 136, u 137, u 138, u 139, u 140, u 141, u 142, u 143, u 144, u 145, u 146, u 147, u 148, u 149, u 150, u 151, u 152, u 153, u 154, u 155, u 156, u 157, u 158, u 159, u 160, u 161, u 162, u 163, u 164, u 165, u 166, u 167, u 168, u 169, u 170, u 171, u 172, u 173, u 174, u 175, u 176, u 177, u 178, u 179, u 180, u 181, u 182, u 183, u 184, u 185, u 186, u 187, u 188, u 189, u 190, u 191, u 192, u 193, u 194, u 195, u 196, u 197, u 198, u 199, u 200, u 201, u 202, u 203, u 204, u 205, u 206, u 207, u 208, u 209, u 210, u 211, u 212, u 213, u 214] ∧ ∀ i, tmps.getD i undef = u i := by
  refine ⟨fun i => tmps.getD i undef, ?_, fun i => rfl⟩
  have := frame_map tmps
  rw [h] at this
  exact this
def lexFr (s : ByteArray) (w : World) (k : Nat) (vO vS vF : Value) (a : Act) : Prop :=
  a.tmps.size = 215 ∧ a.defers = [] ∧ a.tmps.getD 0 undef = .string s ∧ a.tmps.getD 2 undef = .slice none 0 0 ∧ a.tmps.getD 3 undef = .int .i64 0 ∧ a.tmps.getD 4 undef = .int .i64 0 ∧ a.tmps.getD 5 undef = vO ∧ a.tmps.getD 6 undef = vS ∧ a.tmps.getD 7 undef = .pointer (some ⟨w.heap.size, 0, none⟩) ∧ a.tmps.getD 8 undef = .int .i64 (k : Nat) ∧ a.tmps.getD 9 undef = vF
def lexJ (s : ByteArray) (w : World) (l : Nat) (a : Act) (w' : World) : Prop :=
  ∃ (k : Nat) (vO vS vF : Value), lexFr s w k vO vS vF a ∧
    ((l = 0 ∧ lexK0 s w k vO w') ∨ (l = 1 ∧ lexK1 s w k vO vF w') ∨ (l = 2 ∧ lexK2 s w k vO vF w') ∨ (l = 3 ∧ lexT false 0 s w k vO vS vF w') ∨ (l = 4 ∧ lexK4 s w k vO vS vF w'))
def lexM (s : ByteArray) (l : Nat) (a : Act) (_ : World) : Nat := 2 * (s.size - (intOf (a.tmps.getD 8 undef)).toNat) + (if l = 0 ∨ l = 3 then 1 else 0)
def LexOk (base : Nat) (r : LexR) (e : Ending) (w' : World) : Prop := match r with
  | .ok ts => ∃ A c, e = .returned (.tuple #[.slice A ts.length c, .int .i64 0, .int .i64 0]) ∧ Own w' base 52 4 A ts.length c (toksC ts)
  | .err p x => e = .returned (.tuple #[.slice none 0 0, .int .i64 p, .int .i64 x])

theorem one_num {s : ByteArray} {k : Nat} (hk : k < s.size) (h1 : blankB s[k] = false) (h2 : dchar s[k] = true) : oneL k (s.data.toList.drop k) = numTok k ((s.data.toList.drop k).takeWhile numC) := by
  rw [drop_at hk, oneL, if_neg (by simp [h1]), if_pos h2]
theorem one_word {s : ByteArray} {k : Nat} (hk : k < s.size) (h1 : blankB s[k] = false) (h2 : dchar s[k] = false) (h3 : letB s[k] = true) : oneL k (s.data.toList.drop k) = .ok [⟨3, k, mkB ((s.data.toList.drop k).takeWhile wordC), 0⟩] (runN wordC (s.data.toList.drop k)) := by
  rw [drop_at hk, oneL, if_neg (by simp [h1]), if_neg (by simp [h2]), if_pos h3]
theorem run_step {s : ByteArray} {q : UInt8 → Bool} {k j : Nat} (hkj : k ≤ j) (h : j < s.size) (hq : q s[j] = true) (HJ : (s.data.toList.drop k).takeWhile q = (s.data.toList.drop k).take (j - k) ++ (s.data.toList.drop j).takeWhile q) :
    (s.data.toList.drop k).takeWhile q = (s.data.toList.drop k).take (j + 1 - k) ++ (s.data.toList.drop (j + 1)).takeWhile q := by
  have h' : j < s.data.toList.length := by rw [← Lib.size_eq]; exact h
  have e : (s.data.toList.drop k).take (j + 1 - k) = (s.data.toList.drop k).take (j - k) ++ [s[j]] := by
    rw [show j + 1 - k = (j - k) + 1 from by omega, List.take_add_one, List.getElem?_drop, show k + (j - k) = j from by omega, List.getElem?_eq_getElem h']
    rfl
  rw [HJ, e, drop_at h, List.takeWhile_cons, if_pos hq, List.append_assoc]; rfl
theorem run_stop {s : ByteArray} {q : UInt8 → Bool} {k j : Nat} (hjs : j ≤ s.size) (h : ∀ hj : j < s.size, q s[j] = false) (HJ : (s.data.toList.drop k).takeWhile q = (s.data.toList.drop k).take (j - k) ++ (s.data.toList.drop j).takeWhile q) :
    (s.data.toList.drop k).takeWhile q = (s.extract k j).data.toList := by
  rw [HJ, extract_toL]
  by_cases hj : j < s.size
  · rw [drop_at hj, List.takeWhile_cons, if_neg (by simp [h hj]), List.append_nil]
  · rw [show j = s.size from by omega, drop_end, List.takeWhile_nil, List.append_nil]
theorem ext_size {s : ByteArray} {k j : Nat} (hkj : k ≤ j) (hj : j ≤ s.size) : (s.extract k j).size = j - k := by rw [ByteArray.size_extract]; omega
theorem mkB_ext {s : ByteArray} {k j : Nat} : mkB (s.extract k j).data.toList = s.extract k j := by
  apply ByteArray.ext; apply Array.toList_inj.1; rfl
theorem Own.setBelow {w : World} {base sz n c : Nat} {e : TypeId} {A : Option Addr} {xs : List (List Value)} (h : Own w base e sz A n c xs) {a : Addr} (ha : a.block < base) (u : Value) : Own (w.setCell a u) base e sz A n c xs :=
  ⟨h.1, h.2.1, h.2.2.1, ownsRow_setCell_below h.2.2.2 ha u⟩
theorem LexAt.snoc2 {s : ByteArray} {w w' w1 w2 : World} {k k2 c' : Nat} {vO : Value} {A' : Option Addr} {done : List Tok} {t : Tok} {o : Obj} (h : LexAt s w k vO done w') (hb1 : Below w.heap.size w w1) (ht1 : TVar w1 w.heap.size) (hs : w.heap.size < w1.heap.size)
    (ho : Own w2 (w.heap.size + 1) 52 4 A' (done.length + 1) c' (toksC done ++ toksC [t])) (hb : Below (w.heap.size + 1) (w1.alloc o) w2) (hk : k < k2) (hk2 : k2 ≤ s.size) : LexAt s w k2 (.slice A' (done.length + 1) c') (done ++ [t]) w2 := by
  have hb2 := (hb1.alloc (by omega) o).trans (hb.mono (by omega))
  refine { le := hk2, small := h.small, few := ?_, bel := hb2, tv := (ht1.alloc hs o).below hb (by omega), siz := ?_, out := ⟨A', c', ?_, ?_⟩ }
  · have := h.few; simp; omega
  · have := hb.size; simp at this; omega
  · simp
  · simpa [toksC] using ho
theorem Rd.tok {w : World} {e : TypeId} {b : Nat} (t : Tok) (hb : b = w.heap.size) : Rd (w.alloc (.cells #[.int .i64 t.kind, .int .i64 t.at_, .string t.text, .int .i64 t.span] e)) (b + 1) 4 (some ⟨b, 0, none⟩) (toksC [t]) := by
  subst hb
  exact Rd.new w (toksC_sz _) _ rfl
/-- The token's block, its cells told. -/
def TB (w : World) (T : Nat) (x0 x1 x2 x3 : Value) : Prop := w.heap[T]? = some (.cells #[x0, x1, x2, x3] 52 (0, 0))
theorem TB.set0 {w : World} {T : Nat} {x0 x1 x2 x3 : Value} (h : TB w T x0 x1 x2 x3) (u : Value) : TB (w.setCell ⟨T, 0, none⟩ u) T u x1 x2 x3 := heap_setCell_same w T 0 _ _ u h
theorem TB.set1 {w : World} {T : Nat} {x0 x1 x2 x3 : Value} (h : TB w T x0 x1 x2 x3) (u : Value) : TB (w.setCell ⟨T, 1, none⟩ u) T x0 u x2 x3 := heap_setCell_same w T 1 _ _ u h
theorem TB.set2 {w : World} {T : Nat} {x0 x1 x2 x3 : Value} (h : TB w T x0 x1 x2 x3) (u : Value) : TB (w.setCell ⟨T, 2, none⟩ u) T x0 x1 u x3 := heap_setCell_same w T 2 _ _ u h
theorem TB.set3 {w : World} {T : Nat} {x0 x1 x2 x3 : Value} (h : TB w T x0 x1 x2 x3) (u : Value) : TB (w.setCell ⟨T, 3, none⟩ u) T x0 x1 x2 u := heap_setCell_same w T 3 _ _ u h
theorem TB.cells {w : World} {T : Nat} {x0 x1 x2 x3 : Value} (h : TB w T x0 x1 x2 x3) : w.cell? ⟨T, 0, none⟩ = some x0 ∧ w.cell? ⟨T, 1, none⟩ = some x1 ∧ w.cell? ⟨T, 2, none⟩ = some x2 ∧ w.cell? ⟨T, 3, none⟩ = some x3 ∧ ∀ j, w.frozen? ⟨T, j, none⟩ = false :=
  ⟨cell_of_row w T 0 _ _ (0, 0) h, cell_of_row w T 1 _ _ (0, 0) h, cell_of_row w T 2 _ _ (0, 0) h, cell_of_row w T 3 _ _ (0, 0) h, fun j => frozen_of_row w T j _ _ h⟩
theorem TB.tv {w : World} {T : Nat} {x0 x1 x2 x3 : Value} (h : TB w T x0 x1 x2 x3) : TVar w T := ⟨_, _, _, _, h⟩
theorem strOf_map (l : List UInt8) : strOfNums (l.map fun b => (b.toNat : Int)) = mkB l := by
  simp only [strOfNums, mkB, List.map_map]
  congr 2
  conv => rhs; rw [← List.map_id l]
  apply List.map_congr_left
  intro b _
  show UInt8.ofNat (Int.toNat (b.toNat : Int)) = b
  rw [Int.toNat_natCast]
  exact UInt8.toNat_inj.1 (by rw [UInt8.toNat_ofNat']; have := b.toNat_lt; omega)
theorem run_conv_rd {P : Program} {w : World} {B : Nat} {A : Option Addr} {acc : List UInt8} (hr : Rd w B 1 A (bytesC acc)) (src e dst : TypeId) (hs : P.underlying src = some (.slice e)) (he : P.underlying e = some (.int .u8)) (hd : P.underlying dst = some .string) (n c : Nat) (hn : acc.length = n) (hA : acc = [] → A = none ∨ ∃ b o, A = some ⟨b, o, none⟩) :
    (convert src dst (.slice A n c)).run P w = .ok (.string (mkB acc)) w := by
  have key : ∀ b o, A = some ⟨b, o, none⟩ → (convert src dst (.slice A n c)).run P w = .ok (.string (mkB acc)) w := by
    rintro b o rfl
    rw [← strOf_map]
    refine run_convert_bytes_arg (P := P) w src e hs he b o n c _ (by simpa using hn) (fun i hi => ?_) dst hd
    have hi' : i < acc.length := by omega
    obtain ⟨b', o', e', _, hc⟩ := hr.at1 (k := i) (v0 := .int .u8 ((acc[i]'hi').toNat : Int)) (by simp [bytesC, hi'])
    injection e' with e'; injection e' with e1 e2; subst e1 e2
    rw [hc]; simp [hi']
  cases hacc : acc with
  | nil =>
    rcases hA hacc with rfl | ⟨b, o, h⟩
    · have := run_convert_bytes_nil (P := P) w src e hs he n c dst hd
      exact this
    · rw [← hacc]; exact key b o h
  | cons x r =>
    obtain ⟨b, o, h, _, _⟩ := hr.2 (by rw [hacc]; simp [bytesC])
    rw [← hacc]; exact key b o h
theorem text_go (f m : Nat) (acc : List UInt8) (c : UInt8) (o : Option (List UInt8 × Nat)) : textTok f m acc (o.map fun x => (c :: x.1, x.2 + 1)) = textTok f (m + 1) (acc ++ [c]) o := by
  cases o with
  | none => rfl
  | some x => simp only [Option.map_some, textTok, List.append_assoc, List.singleton_append]; congr 1; omega
theorem text_esc (f m : Nat) (acc : List UInt8) (o : Option (List UInt8 × Nat)) : textTok f m acc (o.map fun x => (x.1, x.2 + 1)) = textTok f (m + 1) acc o := by
  cases o with
  | none => rfl
  | some x => simp only [Option.map_some, textTok]; congr 1; omega
theorem LexAt.grown {s : ByteArray} {w w' w2 : World} {k k2 n c : Nat} {vO : Value} {done : List Tok} {A : Option Addr} {xs : List (List Value)} {o : Obj} (h : LexAt s w k vO done w') (hs : Own w' (w.heap.size + 1) 5 1 A n c xs)
    (hg : (w'.alloc o).grownBy w2 (A.map Addr.block)) (hb : Below (w.heap.size + 1) (w'.alloc o) w2) (hk : k ≤ k2) (hk2 : k2 ≤ s.size) : LexAt s w k2 vO done w2 := by
  obtain ⟨A', c', e, ho⟩ := h.out
  have hz := h.siz
  refine { le := hk2, small := h.small, few := by have := h.few; omega, bel := (h.bel.alloc (by omega) o).trans (hb.mono (by omega)), tv := (h.tv.alloc hz o).below hb (by omega), siz := by have := hb.size; simp at this; omega, out := ⟨A', c', e, ?_⟩ }
  exact (ho.alloc o).grown hg ((ho.alloc o).ne_ (hs.alloc o) (by decide))
theorem Rd.byte {w : World} {e : TypeId} {b : Nat} (x : UInt8) (hb : b = w.heap.size) : Rd (w.alloc (.cells #[.int .u8 (x.toNat : Int)] e)) (b + 1) 1 (some ⟨b, 0, none⟩) (bytesC [x]) := by
  subst hb
  exact Rd.new w (by simp [bytesC]) _ rfl
theorem one_bytes (l : List UInt8) : ∀ y ∈ bytesC l, ∀ u ∈ y, u.oneCell' = true := by
  intro y hy u hu
  obtain ⟨l, _, rfl⟩ := List.mem_map.1 hy
  simp at hu
  subst hu; rfl
theorem Own.shape {w : World} {base sz n c : Nat} {e : TypeId} {A : Option Addr} {xs : List (List Value)} (h : Own w base e sz A n c xs) : A = none ∨ ∃ b o, A = some ⟨b, o, none⟩ := by
  rcases h.form with ⟨h, _⟩ | ⟨g, h, _⟩
  · exact .inl h
  · exact .inr ⟨g, 0, h⟩
end Go.Proofs.Ytdikmklijpcjdaa
