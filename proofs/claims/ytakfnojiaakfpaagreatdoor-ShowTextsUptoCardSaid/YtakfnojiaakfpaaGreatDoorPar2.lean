/- How a query is read: Parse. -/
import Derived.Test.YtakfnojiaakfpaaGreatDoorLexSpec
import Derived.ScopeJumps
import Derived.WalkMore
import Derived.Test.YtakfnojiaakfpaaGreatDoorNodS
import Derived.Test.YtakfnojiaakfpaaGreatDoorPQuery
import Derived.Test.YtakfnojiaakfpaaGreatDoorPar1
namespace Go.Proofs.YtakfnojiaakfpaaGreatDoor
section
open Go.RowKit
theorem eiTok : EI Tryz.prog 57 67 4 40 := EI.mk' Tryz.underlying57 (z := .agg #[.int .i64 0, .int .i64 0, .string ByteArray.empty, .int .i64 0]) (by kernel_rfl) rfl (by omega)
theorem eiByte : EI Tryz.prog 91 5 1 1 := EI.mk' Tryz.underlying91 (z := .int .u8 0) (by kernel_rfl) rfl (by omega)
theorem one_toks (ts : List Tok) : ∀ y ∈ toksC ts, ∀ u ∈ y, u.oneCell' = true := by
  intro y hy u hu
  obtain ⟨l, _, rfl⟩ := List.mem_map.1 hy
  simp [tokC] at hu
  rcases hu with rfl | rfl | rfl | rfl <;> rfl
/-- The token's block. -/
def TVar (w : World) (T : Nat) : Prop := ∃ v0 v1 v2 v3, w.heap[T]? = some (.cells #[v0, v1, v2, v3] 67 (0, 0))
theorem TVar.grown {w w' : World} {T : Nat} {row : Option Nat} (h : TVar w T) (hg : w.grownBy w' row) (hT : T < w.heap.size) (hr : row ≠ some T) : TVar w' T := by
  obtain ⟨v0, v1, v2, v3, h⟩ := h
  exact ⟨v0, v1, v2, v3, (hg.block T hT (fun e => hr e.symm)).trans h⟩
theorem TVar.alloc {w : World} {T : Nat} (h : TVar w T) (hT : T < w.heap.size) (o : Obj) : TVar (w.alloc o) T := by
  obtain ⟨v0, v1, v2, v3, h⟩ := h
  exact ⟨v0, v1, v2, v3, (Below.heap_alloc w o T hT).trans h⟩
theorem TVar.set {w : World} {T j : Nat} (h : TVar w T) (u : Value) : TVar (w.setCell ⟨T, j, none⟩ u) T := by
  obtain ⟨v0, v1, v2, v3, h⟩ := h
  have := heap_setCell_same w T j _ _ u h
  match j with
  | 0 => exact ⟨_, _, _, _, this⟩
  | 1 => exact ⟨_, _, _, _, this⟩
  | 2 => exact ⟨_, _, _, _, this⟩
  | 3 => exact ⟨_, _, _, _, this⟩
  | j + 4 => exact ⟨v0, v1, v2, v3, by simpa using this⟩
theorem TVar.cells {w : World} {T : Nat} (h : TVar w T) : ∃ v0 v1 v2 v3, w.cell? ⟨T, 0, none⟩ = some v0 ∧ w.cell? ⟨T, 1, none⟩ = some v1 ∧ w.cell? ⟨T, 2, none⟩ = some v2 ∧ w.cell? ⟨T, 3, none⟩ = some v3 ∧ ∀ j, w.frozen? ⟨T, j, none⟩ = false := by
  obtain ⟨v0, v1, v2, v3, h⟩ := h
  exact ⟨v0, v1, v2, v3, cell_of_row w T 0 _ _ (0, 0) h, cell_of_row w T 1 _ _ (0, 0) h, cell_of_row w T 2 _ _ (0, 0) h, cell_of_row w T 3 _ _ (0, 0) h, fun j => frozen_of_row w T j _ _ h⟩
/-- What is known at every label. -/
structure LexAt (s : ByteArray) (w : World) (k : Nat) (vO : Value) (done : List Tok) (w' : World) : Prop where
  le : k ≤ s.size
  small : s.size ≤ 4096
  few : done.length ≤ k
  bel : Below w.heap.size w w'
  tv : TVar w' w.heap.size
  siz : w.heap.size < w'.heap.size
  out : ∃ A c, vO = .slice A done.length c ∧ Own w' (w.heap.size + 1) 67 4 A done.length c (toksC done)
theorem LexAt.on {s : ByteArray} {w w' : World} {k k2 : Nat} {vO : Value} {done : List Tok} (h : LexAt s w k vO done w') (hk : k ≤ k2) (hk2 : k2 ≤ s.size) : LexAt s w k2 vO done w' :=
  { h with le := hk2, few := by have := h.few; omega }
theorem TVar.below {w w' : World} {T B : Nat} (h : TVar w T) (hb : Below B w w') (hT : T < B) : TVar w' T := by
  obtain ⟨v0, v1, v2, v3, h⟩ := h
  exact ⟨v0, v1, v2, v3, (hb.block T hT).trans h⟩
theorem LexAt.snoc {s : ByteArray} {w w' w2 : World} {k k2 c' : Nat} {vO : Value} {A' : Option Addr} {done : List Tok} {t : Tok} {o : Obj} (h : LexAt s w k vO done w')
    (ho : Own w2 (w.heap.size + 1) 67 4 A' (done.length + 1) c' (toksC done ++ toksC [t])) (hb : Below (w.heap.size + 1) (w'.alloc o) w2) (hk : k < k2) (hk2 : k2 ≤ s.size) : LexAt s w k2 (.slice A' (done.length + 1) c') (done ++ [t]) w2 := by
  have hs := h.siz
  have hb2 := (h.bel.alloc (by omega) o).trans (hb.mono (by omega))
  refine { le := hk2, small := h.small, few := ?_, bel := hb2, tv := (h.tv.alloc hs o).below hb (by omega), siz := ?_, out := ⟨A', c', ?_, ?_⟩ }
  · have := h.few; simp; omega
  · have := hb.size; simp at this; omega
  · simp
  · simpa [toksC] using ho
theorem lex_step {s : ByteArray} {k n : Nat} {ts : List Tok} (hk : k < s.size) (h : oneL k (s.data.toList.drop k) = .ok ts n) : lexL k (s.data.toList.drop k) = (lexL (k + n) (s.data.toList.drop (k + n))).pre ts := by
  have hd := drop_at hk
  rw [hd] at h
  rw [hd, lexL_cons, h, ← hd]
  simp only [List.drop_drop]
theorem lex_err {s : ByteArray} {k p : Nat} {e : Int} (hk : k < s.size) (h : oneL k (s.data.toList.drop k) = .err p e) : lexL k (s.data.toList.drop k) = .err p e := by
  have hd := drop_at hk
  rw [hd] at h
  rw [hd, lexL_cons, h]
theorem one_blank {s : ByteArray} {k : Nat} (hk : k < s.size) (h : blankB s[k] = true) : oneL k (s.data.toList.drop k) = .ok [] 1 := by
  rw [drop_at hk, oneL, if_pos h]
theorem one_quote {s : ByteArray} {k : Nat} (hk : k < s.size) (h1 : blankB s[k] = false) (h2 : dchar s[k] = false) (h3 : letB s[k] = false) (h : s[k].toNat = 34) : oneL k (s.data.toList.drop k) = textTok k 1 [] (textS false (s.data.toList.drop (k + 1))) := by
  rw [drop_at hk, oneL, if_neg (by simp [h1]), if_neg (by simp [h2]), if_neg (by simp [h3]), if_pos h]
theorem one_sign {s : ByteArray} {k : Nat} (hk : k < s.size) (h1 : blankB s[k] = false) (h2 : dchar s[k] = false) (h3 : letB s[k] = false) (h4 : s[k].toNat ≠ 34) : oneL k (s.data.toList.drop k) = if 0 < signN (s.data.toList.drop k) then .ok [⟨5, k, mkB ((s.data.toList.drop k).take (signN (s.data.toList.drop k))), 0⟩] (signN (s.data.toList.drop k)) else .err k 171 := by
  rw [drop_at hk, oneL, if_neg (by simp [h1]), if_neg (by simp [h2]), if_neg (by simp [h3]), if_neg h4]
theorem blank_no {c : UInt8} (h : blankB c = false) : ((c.toNat : Int) == 32) = false ∧ ((c.toNat : Int) == 9) = false ∧ ((c.toNat : Int) == 13) = false ∧ ((c.toNat : Int) == 10) = false := by
  simp [blankB] at h
  refine ⟨?_, ?_, ?_, ?_⟩ <;> (rw [beq_eq_false_iff_ne]; omega)
def lexM (s : ByteArray) (l : Nat) (a : Act) (_ : World) : Nat := 2 * (s.size - (intOf (a.tmps.getD 8 undef)).toNat) + (if l = 0 ∨ l = 3 then 1 else 0)
def LexOk (base : Nat) (r : LexR) (e : Ending) (w' : World) : Prop := match r with
  | .ok ts => ∃ A c, e = .returned (.tuple #[.slice A ts.length c, .int .i64 0, .int .i64 0]) ∧ Own w' base 67 4 A ts.length c (toksC ts)
  | .err p x => e = .returned (.tuple #[.slice none 0 0, .int .i64 p, .int .i64 x])
theorem one_num {s : ByteArray} {k : Nat} (hk : k < s.size) (h1 : blankB s[k] = false) (h2 : dchar s[k] = true) : oneL k (s.data.toList.drop k) = numTok k ((s.data.toList.drop k).takeWhile numC) := by
  rw [drop_at hk, oneL, if_neg (by simp [h1]), if_pos h2]
theorem one_word {s : ByteArray} {k : Nat} (hk : k < s.size) (h1 : blankB s[k] = false) (h2 : dchar s[k] = false) (h3 : letB s[k] = true) : oneL k (s.data.toList.drop k) = .ok [⟨3, k, mkB ((s.data.toList.drop k).takeWhile wordC), 0⟩] (runN wordC (s.data.toList.drop k)) := by
  rw [drop_at hk, oneL, if_neg (by simp [h1]), if_neg (by simp [h2]), if_pos h3]
theorem run_step {s : ByteArray} {q : UInt8 → Bool} {k j : Nat} (hkj : k ≤ j) (h : j < s.size) (hq : q s[j] = true) (HJ : (s.data.toList.drop k).takeWhile q = (s.data.toList.drop k).take (j - k) ++ (s.data.toList.drop j).takeWhile q) :
    (s.data.toList.drop k).takeWhile q = (s.data.toList.drop k).take (j + 1 - k) ++ (s.data.toList.drop (j + 1)).takeWhile q := by
  have h' : j < s.data.toList.length := by rw [← Lib.size_eq]; exact h
  have e : (s.data.toList.drop k).take (j + 1 - k) = (s.data.toList.drop k).take (j - k) ++ [s[j]] := by
    rw [show j + 1 - k = (j - k) + 1 from by omega, List.take_add_one, List.getElem?_drop, show k + (j - k) = j from by omega, List.getElem?_eq_getElem h']
    rfl
  rw [HJ, e, drop_at h, List.takeWhile_cons, if_pos hq, List.append_assoc]; rfl
theorem run_stop {s : ByteArray} {q : UInt8 → Bool} {k j : Nat} (hjs : j ≤ s.size) (h : ∀ hj : j < s.size, q s[j] = false) (HJ : (s.data.toList.drop k).takeWhile q = (s.data.toList.drop k).take (j - k) ++ (s.data.toList.drop j).takeWhile q) :
    (s.data.toList.drop k).takeWhile q = (s.extract k j).data.toList := by
  rw [HJ, extract_toL]
  by_cases hj : j < s.size
  · rw [drop_at hj, List.takeWhile_cons, if_neg (by simp [h hj]), List.append_nil]
  · rw [show j = s.size from by omega, drop_end, List.takeWhile_nil, List.append_nil]
theorem ext_size {s : ByteArray} {k j : Nat} (hkj : k ≤ j) (hj : j ≤ s.size) : (s.extract k j).size = j - k := by rw [ByteArray.size_extract]; omega
theorem mkB_ext {s : ByteArray} {k j : Nat} : mkB (s.extract k j).data.toList = s.extract k j := by
  apply ByteArray.ext; apply Array.toList_inj.1; rfl
theorem Rd.tok {w : World} {e : TypeId} {b : Nat} (t : Tok) (hb : b = w.heap.size) : Rd (w.alloc (.cells #[.int .i64 t.kind, .int .i64 t.at_, .string t.text, .int .i64 t.span] e)) (b + 1) 4 (some ⟨b, 0, none⟩) (toksC [t]) := by
  subst hb
  exact Rd.new w (toksC_sz _) _ rfl
/-- The token's block, its cells told. -/
def TB (w : World) (T : Nat) (x0 x1 x2 x3 : Value) : Prop := w.heap[T]? = some (.cells #[x0, x1, x2, x3] 67 (0, 0))
theorem TB.cells {w : World} {T : Nat} {x0 x1 x2 x3 : Value} (h : TB w T x0 x1 x2 x3) : w.cell? ⟨T, 0, none⟩ = some x0 ∧ w.cell? ⟨T, 1, none⟩ = some x1 ∧ w.cell? ⟨T, 2, none⟩ = some x2 ∧ w.cell? ⟨T, 3, none⟩ = some x3 ∧ ∀ j, w.frozen? ⟨T, j, none⟩ = false :=
  ⟨cell_of_row w T 0 _ _ (0, 0) h, cell_of_row w T 1 _ _ (0, 0) h, cell_of_row w T 2 _ _ (0, 0) h, cell_of_row w T 3 _ _ (0, 0) h, fun j => frozen_of_row w T j _ _ h⟩
theorem TB.tv {w : World} {T : Nat} {x0 x1 x2 x3 : Value} (h : TB w T x0 x1 x2 x3) : TVar w T := ⟨_, _, _, _, h⟩
theorem strOf_map (l : List UInt8) : strOfNums (l.map fun b => (b.toNat : Int)) = mkB l := by
  simp only [strOfNums, mkB, List.map_map]
  congr 2
  conv => rhs; rw [← List.map_id l]
  apply List.map_congr_left
  intro b _
  show UInt8.ofNat (Int.toNat (b.toNat : Int)) = b
  rw [Int.toNat_natCast]
  exact UInt8.toNat_inj.1 (by rw [UInt8.toNat_ofNat']; have := b.toNat_lt; omega)
theorem run_conv_rd {P : Program} {w : World} {B : Nat} {A : Option Addr} {acc : List UInt8} (hr : Rd w B 1 A (bytesC acc)) (src e dst : TypeId) (hs : P.underlying src = some (.slice e)) (he : P.underlying e = some (.int .u8)) (hd : P.underlying dst = some .string) (n c : Nat) (hn : acc.length = n) (hA : acc = [] → A = none ∨ ∃ b o, A = some ⟨b, o, none⟩) :
    (convert src dst (.slice A n c)).run P w = .ok (.string (mkB acc)) w := by
  have key : ∀ b o, A = some ⟨b, o, none⟩ → (convert src dst (.slice A n c)).run P w = .ok (.string (mkB acc)) w := by
    rintro b o rfl
    rw [← strOf_map]
    refine run_convert_bytes_arg (P := P) w src e hs he b o n c _ (by simpa using hn) (fun i hi => ?_) dst hd
    have hi' : i < acc.length := by omega
    obtain ⟨b', o', e', _, hc⟩ := hr.at1 (k := i) (v0 := .int .u8 ((acc[i]'hi').toNat : Int)) (by simp [bytesC, hi'])
    injection e' with e'; injection e' with e1 e2; subst e1 e2
    rw [hc]; simp [hi']
  cases hacc : acc with
  | nil =>
    rcases hA hacc with rfl | ⟨b, o, h⟩
    · have := run_convert_bytes_nil (P := P) w src e hs he n c dst hd
      exact this
    · rw [← hacc]; exact key b o h
  | cons x r =>
    obtain ⟨b, o, h, _, _⟩ := hr.2 (by rw [hacc]; simp [bytesC])
    rw [← hacc]; exact key b o h
theorem LexAt.grown {s : ByteArray} {w w' w2 : World} {k k2 n c : Nat} {vO : Value} {done : List Tok} {A : Option Addr} {xs : List (List Value)} {o : Obj} (h : LexAt s w k vO done w') (hs : Own w' (w.heap.size + 1) 5 1 A n c xs)
    (hg : (w'.alloc o).grownBy w2 (A.map Addr.block)) (hb : Below (w.heap.size + 1) (w'.alloc o) w2) (hk : k ≤ k2) (hk2 : k2 ≤ s.size) : LexAt s w k2 vO done w2 := by
  obtain ⟨A', c', e, ho⟩ := h.out
  have hz := h.siz
  refine { le := hk2, small := h.small, few := by have := h.few; omega, bel := (h.bel.alloc (by omega) o).trans (hb.mono (by omega)), tv := (h.tv.alloc hz o).below hb (by omega), siz := by have := hb.size; simp at this; omega, out := ⟨A', c', e, ?_⟩ }
  exact (ho.alloc o).grown hg ((ho.alloc o).ne_ (hs.alloc o) (by decide))
theorem Rd.byte {w : World} {e : TypeId} {b : Nat} (x : UInt8) (hb : b = w.heap.size) : Rd (w.alloc (.cells #[.int .u8 (x.toNat : Int)] e)) (b + 1) 1 (some ⟨b, 0, none⟩) (bytesC [x]) := by
  subst hb
  exact Rd.new w (by simp [bytesC]) _ rfl
theorem one_bytes (l : List UInt8) : ∀ y ∈ bytesC l, ∀ u ∈ y, u.oneCell' = true := by
  intro y hy u hu
  obtain ⟨l, _, rfl⟩ := List.mem_map.1 hy
  simp at hu
  subst hu; rfl
theorem Own.shape {w : World} {base sz n c : Nat} {e : TypeId} {A : Option Addr} {xs : List (List Value)} (h : Own w base e sz A n c xs) : A = none ∨ ∃ b o, A = some ⟨b, o, none⟩ := by
  rcases h.form with ⟨h, _⟩ | ⟨g, h, _⟩
  · exact .inl h
  · exact .inr ⟨g, 0, h⟩
end
section
open Go.RowKit
attribute [local go_sem ↓] Go.wp_at_zero Go.wp_at_succ tok_f0 tok_f2 tok_f3
theorem OwnNods.none_ (w : World) (base : Nat) : OwnNods w base none 0 0 [] := ⟨[], Own.nil_ (by decide), rfl, fun k x hx => by simp at hx⟩
theorem PAt.make {w : World} {A : Option Addr} {c base : Nat} {ts : List Tok} (ho : Own w base 67 4 A ts.length c (toksC ts)) (hne : ts ≠ []) :
    PAt (w.alloc (.cells #[.slice A ts.length c, .int .i64 0, .slice none 0 0] 62)) w.heap.size (none, 0) ⟨ts, 0, []⟩ := by
  have hr := ho.rd
  have hcap := ho.cap
  obtain ⟨b, o, e, hb, _⟩ := hr.2 (by intro h; apply hne; cases ts with | nil => rfl | cons => simp [toksC] at h)
  subst e
  refine ⟨b, o, c, Blk.new w _ _, ?_, hcap.1, hcap.2, OwnNods.none_ _ _⟩
  exact hr.below ((Below.refl _ _).alloc (Nat.le_refl _) _)
theorem OwnNods.lower {w : World} {base base' n c : Nat} {A : Option Addr} {ns : List Nod} (h : OwnNods w base A n c ns) (hb : base' ≤ base) : OwnNods w base' A n c ns := by
  obtain ⟨cs, h1, h2, h3⟩ := h
  refine ⟨cs, h1.lower hb, h2, fun k x hx => ?_⟩
  obtain ⟨Am, cm, An, cn, hy, ho, hp⟩ := h3 k x hx
  exact ⟨Am, cm, An, cn, hy, ho.lower hb, hp.lower hb⟩
end
end Go.Proofs.YtakfnojiaakfpaaGreatDoor
