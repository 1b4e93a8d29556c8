/- How the document reads a query: on, ignoring. -/
import Derived.Test.YtdikmklijpcjdaaRefO
namespace Go.Proofs.Ytdikmklijpcjdaa
open Go.RowKit
attribute [local go_sem ↓] Go.wp_at_zero Go.wp_at_succ tok_f0 tok_f2 tok_f3

section
variable {P : Nat} {T : List Tok} {R : Option Addr × Nat} {O : List Nod} {w w0 : World} {r r0 : Rp PS}
/-- A store into memory made since. -/
theorem TQ.setNew (h : TQ P T R O w0 r w) (h0 : TAt w0 P T R O r0) {N : Nat} (hN : w0.heap.size ≤ N) (j : Nat) (u : Value) : TQ P T R O w0 r (w.setCell ⟨N, j, none⟩ u) := by
  obtain ⟨⟨q, hq, hr, ho⟩, hf⟩ := h
  obtain ⟨q0, hq0, _, ho0⟩ := h0
  have hPN : P ≠ N := by have := hq0.lt; omega
  have hf' : Fr P none w0 (w.setCell ⟨N, j, none⟩ u) := ⟨hf.os, hf.tape, hf.output, by simpa using hf.size, fun b hlt h1 h2 => (Below.heap_setCell w ⟨N, j, none⟩ u b (show b ≠ N by omega)).trans (hf.block b hlt h1 h2)⟩
  exact ⟨⟨q, hq0.re hq (ho.trans ho0.symm) hf hf' (Below.heap_setCell w ⟨N, j, none⟩ u P hPN), hr, ho⟩, hf'⟩
end
def setG (x : Nod) (g : Int) (l : List ByteArray) : Nod := ⟨x.kind, x.op, x.text, x.mat, x.width, x.back, g, l, x.cmp, x.parts⟩
def nodV (x : Nod) (Am : Option Addr) (cm : Nat) (An : Option Addr) (cn : Nat) : Value := .agg (nodC x Am cm An cn).toArray
def groupQ (r : Rp PS) : Rp (PS × Int × List ByteArray) := match r with
  | .ok s => s.group sOn sIgn 3 4
  | .error x => .error x
/-- How 'match' ends. -/
def GroupE (P : Nat) (T : List Tok) (R : Option Addr × Nat) (O : List Nod) (w0 : World) (x : Nod) : Rp (PS × Int × List ByteArray) → Ending → World → Prop
  | .ok (s1, g, l), e, w' => ∃ An cn, e = .returned (nodV (setG x g l) none 0 An cn) ∧ Own w' w0.heap.size 9 1 An l.length cn (textsC l) ∧ TQ P T R O w0 (.ok s1) w'
  | .error z, e, w' => ∃ (y : Nod) (Am : Option Addr) (cm : Nat) (An : Option Addr) (cn : Nat), e = .returned (nodV y Am cm An cn) ∧ TQ P T R O w0 (.error z) w'
section
variable {P : Nat} {T : List Tok} {R : Option Addr × Nat} {O : List Nod} {w : World} {r : Rp PS}
set_option maxRecDepth 100000 in
set_option maxHeartbeats 4000000 in
theorem rmatch_any (h : TAt w P T R O r) (hE : Ends T) (hTs : ∀ t ∈ T, t.text.size ≤ 1000000) (hTl : T.length ≤ 1000000) (x : Nod) (hxm : x.mat = []) (hxn : x.names = []) (hxg : x.grp = 0) :
    Calls Try.prog 54 #[.pointer (some ⟨P, 0, none⟩), .agg #[.int .i64 x.kind, .int .i64 x.op, .string x.text, .slice none x.mat.length 0, .int .i64 x.width, .int .i64 x.back, .int .i64 x.grp, .slice none x.names.length 0, .bool x.cmp, .int .i64 x.parts]] w (GroupE P T R O w x (groupQ r)) := by
  have hP := h.lt
  have H0 := Lib.hid h
  have HXM := Lib.hid hxm
  have HXN := Lib.hid hxn
  have HXG := Lib.hid hxg
  have HW1 := fun (W : World) (h : TAt W P T R O r) (t : ByteArray) => Lib.hid (rword_q (TQ.start h) t)
  have hNP : w.heap.size ≠ P := by omega
  have hRP : w.heap.size + 1 ≠ P := by omega
  clear hxm hxn hxg h
  go_enter Try.func54, Try.ntmps54
  go_wp2_with fail
  generalize hW : World.alloc _ _ = W2
  have hN2 : Blk W2 w.heap.size 37 (nodC x none 0 none 0) ∧ Blk W2 (w.heap.size + 1) 37 [.int .i64 0, .int .i64 0, .string ByteArray.empty, .slice none 0 0, .int .i64 0, .int .i64 0, .int .i64 0, .slice none 0 0, .bool false, .int .i64 0] ∧ Below w.heap.size w W2 := by
    rw [← hW]
    have h1 := (Blk.new w 37 (nodC x none 0 none 0)).alloc (.cells #[.int .i64 0, .int .i64 0, .string ByteArray.empty, .slice none 0 0, .int .i64 0, .int .i64 0, .int .i64 0, .slice none 0 0, .bool false, .int .i64 0] 37)
    have h2 := Blk.new (w.alloc (.cells (nodC x none 0 none 0).toArray 37)) 37 [.int .i64 0, .int .i64 0, .string ByteArray.empty, .slice none 0 0, .int .i64 0, .int .i64 0, .int .i64 0, .slice none 0 0, .bool false, .int .i64 0]
    rw [World.size_alloc] at h2
    exact ⟨h1, h2, ((Below.refl w.heap.size w).alloc (Nat.le_refl _) _).alloc (by simp) _⟩
  obtain ⟨bN, bR, hb2⟩ := hN2
  have Q2 := Lib.hid ((TQ.start H0.out).below hb2)
  clear hW hb2
  refine ((HW1 W2 Q2.out.1 sOn).out).mono ?_
  rintro e w3 ⟨rfl, h3⟩
  have bN3 := bN.keep (h3.2.block w.heap.size bN.lt hNP (by simp))
  have bR3 := bR.keep (h3.2.block (w.heap.size + 1) bR.lt hRP (by simp))
  have Q3 := Lib.hid (Q2.out.next h3)
  clear h3 bN bR Q2
  cases hi : isR r 3 sOn with
  | true =>
    cases r with
    | error z => cases hi
    | ok s =>
      have hi : s.is 3 sOn = true := hi
      have hkk : s.hd.kind ≠ 0 := by rw [is_kind hi]; decide
      have HG0 : groupQ (.ok s) = match s.on.names with | .error e => .error e | .ok (s1, l) => .ok (s1, 3, l) := by rw [groupQ]; (rw [PS.group, if_pos hi]; rfl)
      have HG := Lib.hid HG0
      clear HG0
      have HNx := fun (W : World) (h : TAt W P T R O (.ok s)) => Lib.hid (rnext_any h (fun s' h => by injection h with h; subst h; exact hkk) hE)
      have HNm := fun (W : World) (h : TAt W P T R O (.ok s.on)) => Lib.hid (rnames_any h hE hTs hTl)
      have H5 := Lib.hid (TQ.setNew Q3.out H0.out (Nat.le_refl _) 6 (.int .i64 3))
      have B5 := Lib.hid (bN3.set 6 (.int .i64 3))
      have n6 := bN3.cell (j := 6) rfl
      have fN := bN3.frozen
      clear hkk hi
      go_wp2_with fail
      refine ((HNx _ H5.out.1).out).mono ?_
      rintro e w6 ⟨rfl, h6⟩
      have hN6 := h6.2.block w.heap.size (by rw [World.size_setCell]; exact bN3.lt) hNP (by simp)
      have hR6 := h6.2.block (w.heap.size + 1) (by rw [World.size_setCell]; exact bR3.lt) hRP (by simp)
      have B6 := Lib.hid (B5.out.keep hN6)
      have R6 := Lib.hid ((bR3.other (a := ⟨w.heap.size, 6, none⟩) (by simp) (.int .i64 3)).keep hR6)
      have Q6 := Lib.hid (H5.out.next h6)
      clear h6 hN6 hR6
      go_wp2_with fail
      refine ((HNm _ Q6.out.1).out).mono ?_
      cases hnm : s.on.names with
      | error z =>
        have HG2 : Hid (groupQ (.ok s) = .error z) := by show _ = _; rw [HG.out, hnm]
        have hnq : namesQ (.ok s.on) = .error z := hnm
        rw [hnq]
        rintro e w7 ⟨A, n, c, rfl, h7⟩
        have b7 := B6.out.keep (h7.2.block w.heap.size B6.out.lt hNP (by simp))
        have r7 := R6.out.keep (h7.2.block (w.heap.size + 1) R6.out.lt hRP (by simp))
        have Q7 := Lib.hid (Q6.out.next h7)
        have n7 := b7.cell (j := 7) rfl
        have fN7 := b7.frozen
        have B7 := Lib.hid b7
        have R7 := Lib.hid r7
        clear h7 b7 r7 hnm HG B6 R6 Q6 B5 H5
        go_upto_region 8 with fail
        obtain ⟨Y8, hY8⟩ : ∃ Y : Nod, Y = setG x 3 (List.replicate n ByteArray.empty) := ⟨_, rfl⟩
        have hYn : nodC Y8 none 0 A c = ((nodC x none 0 none 0).set 6 (.int .i64 3)).set 7 (.slice A n c) := by rw [hY8]; simp [nodC, setG]
        have HOW7 : Hid (Own w7 w.heap.size 9 1 none 0 0 []) := Own.nil_ (by decide)
        have hneN : some w.heap.size ≠ (none : Option Addr).map Addr.block := by simp
        have hneR : some (w.heap.size + 1) ≠ (none : Option Addr).map Addr.block := by simp
        generalize hW : World.setCell _ _ _ = W8
        have b8 := B7.out.set 7 (.slice A n c)
        have r8 := R7.out.other (a := ⟨w.heap.size, 7, none⟩) (by simp) (.slice A n c)
        have q8 := Q7.out.setNew H0.out (Nat.le_refl _) 7 (.slice A n c)
        have o8 := HOW7.out.setOther hneN 7 (.slice A n c)
        rw [hW] at b8 r8 q8 o8
        have HO8 := Lib.hid o8
        have e0 := b8.cell (j := 0) rfl
        have e1 := b8.cell (j := 1) rfl
        have e2 := b8.cell (j := 2) rfl
        have e3 := b8.cell (j := 3) rfl
        have e4 := b8.cell (j := 4) rfl
        have e5 := b8.cell (j := 5) rfl
        have e6 := b8.cell (j := 6) rfl
        have e7 := b8.cell (j := 7) rfl
        have e8 := b8.cell (j := 8) rfl
        have e9 := b8.cell (j := 9) rfl
        have z0 := r8.cell (j := 0) rfl
        have z1 := r8.cell (j := 1) rfl
        have z2 := r8.cell (j := 2) rfl
        have z3 := r8.cell (j := 3) rfl
        have z4 := r8.cell (j := 4) rfl
        have z5 := r8.cell (j := 5) rfl
        have z6 := r8.cell (j := 6) rfl
        have z7 := r8.cell (j := 7) rfl
        have z8 := r8.cell (j := 8) rfl
        have z9 := r8.cell (j := 9) rfl
        have fR := r8.frozen
        have Q8 := Lib.hid q8
        have HR8 := Lib.hid r8
        clear hW q8 n7 fN7 B7 R7 Q7 r8 b8 o8 HOW7
        go_wp2_with fail
        generalize hW9 : World.setCell _ _ _ = W9
        have hb9 : Blk W9 (w.heap.size + 1) 37 (nodC Y8 none 0 A c) ∧ TQ P T R O w (.error z) W9 ∧ (Own W9 w.heap.size 9 1 none 0 0 []) := by
          rw [← hW9]
          exact ⟨by rw [hYn]; exact ((((((((((HR8.out.set 0 _).set 1 _).set 2 _).set 3 _).set 4 _).set 5 _).set 6 _).set 7 _).set 8 _).set 9 _), ((((((((((Q8.out.setNew H0.out (show w.heap.size ≤ w.heap.size + 1 by omega) 0 _).setNew H0.out (show w.heap.size ≤ w.heap.size + 1 by omega) 1 _).setNew H0.out (show w.heap.size ≤ w.heap.size + 1 by omega) 2 _).setNew H0.out (show w.heap.size ≤ w.heap.size + 1 by omega) 3 _).setNew H0.out (show w.heap.size ≤ w.heap.size + 1 by omega) 4 _).setNew H0.out (show w.heap.size ≤ w.heap.size + 1 by omega) 5 _).setNew H0.out (show w.heap.size ≤ w.heap.size + 1 by omega) 6 _).setNew H0.out (show w.heap.size ≤ w.heap.size + 1 by omega) 7 _).setNew H0.out (show w.heap.size ≤ w.heap.size + 1 by omega) 8 _).setNew H0.out (show w.heap.size ≤ w.heap.size + 1 by omega) 9 _), ((((((((((HO8.out.setOther hneR 0 _).setOther hneR 1 _).setOther hneR 2 _).setOther hneR 3 _).setOther hneR 4 _).setOther hneR 5 _).setOther hneR 6 _).setOther hneR 7 _).setOther hneR 8 _).setOther hneR 9 _)⟩
        obtain ⟨b9, q9, o9⟩ := hb9
        have O9 := Lib.hid o9
        have d0 := b9.cell (j := 0) rfl
        have d1 := b9.cell (j := 1) rfl
        have d2 := b9.cell (j := 2) rfl
        have d3 := b9.cell (j := 3) rfl
        have d4 := b9.cell (j := 4) rfl
        have d5 := b9.cell (j := 5) rfl
        have d6 := b9.cell (j := 6) rfl
        have d7 := b9.cell (j := 7) rfl
        have d8 := b9.cell (j := 8) rfl
        have d9 := b9.cell (j := 9) rfl
        have Q9 := Lib.hid q9
        clear hW9 b9 q9 o9 e0 z0 e1 z1 e2 z2 e3 z3 e4 z4 e5 z5 e6 z6 e7 z7 e8 z8 e9 z9 fR Q8 HR8
        refine bodyPost_ret (v := nodV Y8 none 0 A c) (by simp [results, Try.results54, go_sem, nodV, nodC, d0, d1, d2, d3, d4, d5, d6, d7, d8, d9]; try rfl) rfl ?_
        rw [HG2.out]
        exact ⟨Y8, none, 0, A, c, rfl, Q9.out⟩
      | ok q7 =>
        obtain ⟨s1, l⟩ := q7
        have HG2 : Hid (groupQ (.ok s) = .ok (s1, 3, l)) := by show _ = _; rw [HG.out, hnm]
        have hnq : namesQ (.ok s.on) = .ok (s1, l) := hnm
        rw [hnq]
        rintro e w7 ⟨A, c, rfl, hO7, h7⟩
        have b7 := B6.out.keep (h7.2.block w.heap.size B6.out.lt hNP (by simp))
        have r7 := R6.out.keep (h7.2.block (w.heap.size + 1) R6.out.lt hRP (by simp))
        have Q7 := Lib.hid (Q6.out.next h7)
        have n7 := b7.cell (j := 7) rfl
        have fN7 := b7.frozen
        have B7 := Lib.hid b7
        have R7 := Lib.hid r7
        have hYn : nodC (setG x 3 l) none 0 A c = ((nodC x none 0 none 0).set 6 (.int .i64 3)).set 7 (.slice A l.length c) := rfl
        have hneN := own_ne_blk hO7 b7 (by decide)
        have hneR := own_ne_blk hO7 r7 (by decide)
        have HOW7 := Lib.hid (hO7.lower (base' := w.heap.size) (by have := Q6.out.2.size; omega))
        clear h7 b7 r7 hnm HG B6 R6 Q6 B5 H5 hO7
        go_upto_region 8 with fail
        generalize hW : World.setCell _ _ _ = W8
        have b8 := B7.out.set 7 (.slice A l.length c)
        have r8 := R7.out.other (a := ⟨w.heap.size, 7, none⟩) (by simp) (.slice A l.length c)
        have q8 := Q7.out.setNew H0.out (Nat.le_refl _) 7 (.slice A l.length c)
        have o8 := HOW7.out.setOther hneN 7 (.slice A l.length c)
        rw [hW] at b8 r8 q8 o8
        have HO8 := Lib.hid o8
        have e0 := b8.cell (j := 0) rfl
        have e1 := b8.cell (j := 1) rfl
        have e2 := b8.cell (j := 2) rfl
        have e3 := b8.cell (j := 3) rfl
        have e4 := b8.cell (j := 4) rfl
        have e5 := b8.cell (j := 5) rfl
        have e6 := b8.cell (j := 6) rfl
        have e7 := b8.cell (j := 7) rfl
        have e8 := b8.cell (j := 8) rfl
        have e9 := b8.cell (j := 9) rfl
        have z0 := r8.cell (j := 0) rfl
        have z1 := r8.cell (j := 1) rfl
        have z2 := r8.cell (j := 2) rfl
        have z3 := r8.cell (j := 3) rfl
        have z4 := r8.cell (j := 4) rfl
        have z5 := r8.cell (j := 5) rfl
        have z6 := r8.cell (j := 6) rfl
        have z7 := r8.cell (j := 7) rfl
        have z8 := r8.cell (j := 8) rfl
        have z9 := r8.cell (j := 9) rfl
        have fR := r8.frozen
        have Q8 := Lib.hid q8
        have HR8 := Lib.hid r8
        clear hW q8 n7 fN7 B7 R7 Q7 r8 b8 o8 HOW7
        go_wp2_with fail
        generalize hW9 : World.setCell _ _ _ = W9
        have hb9 : Blk W9 (w.heap.size + 1) 37 (nodC (setG x 3 l) none 0 A c) ∧ TQ P T R O w (.ok s1) W9 ∧ (Own W9 w.heap.size 9 1 A l.length c (textsC l)) := by
          rw [← hW9]
          exact ⟨by rw [hYn]; exact ((((((((((HR8.out.set 0 _).set 1 _).set 2 _).set 3 _).set 4 _).set 5 _).set 6 _).set 7 _).set 8 _).set 9 _), ((((((((((Q8.out.setNew H0.out (show w.heap.size ≤ w.heap.size + 1 by omega) 0 _).setNew H0.out (show w.heap.size ≤ w.heap.size + 1 by omega) 1 _).setNew H0.out (show w.heap.size ≤ w.heap.size + 1 by omega) 2 _).setNew H0.out (show w.heap.size ≤ w.heap.size + 1 by omega) 3 _).setNew H0.out (show w.heap.size ≤ w.heap.size + 1 by omega) 4 _).setNew H0.out (show w.heap.size ≤ w.heap.size + 1 by omega) 5 _).setNew H0.out (show w.heap.size ≤ w.heap.size + 1 by omega) 6 _).setNew H0.out (show w.heap.size ≤ w.heap.size + 1 by omega) 7 _).setNew H0.out (show w.heap.size ≤ w.heap.size + 1 by omega) 8 _).setNew H0.out (show w.heap.size ≤ w.heap.size + 1 by omega) 9 _), ((((((((((HO8.out.setOther hneR 0 _).setOther hneR 1 _).setOther hneR 2 _).setOther hneR 3 _).setOther hneR 4 _).setOther hneR 5 _).setOther hneR 6 _).setOther hneR 7 _).setOther hneR 8 _).setOther hneR 9 _)⟩
        obtain ⟨b9, q9, o9⟩ := hb9
        have O9 := Lib.hid o9
        have d0 := b9.cell (j := 0) rfl
        have d1 := b9.cell (j := 1) rfl
        have d2 := b9.cell (j := 2) rfl
        have d3 := b9.cell (j := 3) rfl
        have d4 := b9.cell (j := 4) rfl
        have d5 := b9.cell (j := 5) rfl
        have d6 := b9.cell (j := 6) rfl
        have d7 := b9.cell (j := 7) rfl
        have d8 := b9.cell (j := 8) rfl
        have d9 := b9.cell (j := 9) rfl
        have Q9 := Lib.hid q9
        clear hW9 b9 q9 o9 e0 z0 e1 z1 e2 z2 e3 z3 e4 z4 e5 z5 e6 z6 e7 z7 e8 z8 e9 z9 fR Q8 HR8
        refine bodyPost_ret (v := nodV (setG x 3 l) none 0 A c) (by simp [results, Try.results54, go_sem, nodV, nodC, d0, d1, d2, d3, d4, d5, d6, d7, d8, d9]; try rfl) rfl ?_
        rw [HG2.out]
        exact ⟨A, c, rfl, O9.out, Q9.out⟩
  | false =>
    have HI := Lib.hid hi
    clear hi
    go_wp2_with fail
    refine ((HW1 w3 Q3.out.1 sIgn).out).mono ?_
    rintro e w4 ⟨rfl, h4⟩
    have bN4 := bN3.keep (h4.2.block w.heap.size bN3.lt hNP (by simp))
    have bR4 := bR3.keep (h4.2.block (w.heap.size + 1) bR3.lt hRP (by simp))
    have Q4 := Lib.hid (Q3.out.next h4)
    clear h4 bN3 bR3 Q3
    cases hi : isR r 3 sIgn with
    | true =>
      cases r with
      | error z => cases hi
      | ok s =>
        have hi : s.is 3 sIgn = true := hi
        have hno : ¬ s.is 3 sOn = true := by have h : s.is 3 sOn = false := HI.out; rw [h]; decide
        have hkk : s.hd.kind ≠ 0 := by rw [is_kind hi]; decide
        have HG0 : groupQ (.ok s) = match s.on.names with | .error e => .error e | .ok (s1, l) => .ok (s1, 4, l) := by rw [groupQ]; (rw [PS.group, if_neg hno, if_pos hi]; rfl)
        have HG := Lib.hid HG0
        clear HG0
        have HNx := fun (W : World) (h : TAt W P T R O (.ok s)) => Lib.hid (rnext_any h (fun s' h => by injection h with h; subst h; exact hkk) hE)
        have HNm := fun (W : World) (h : TAt W P T R O (.ok s.on)) => Lib.hid (rnames_any h hE hTs hTl)
        have H5 := Lib.hid (TQ.setNew Q4.out H0.out (Nat.le_refl _) 6 (.int .i64 4))
        have B5 := Lib.hid (bN4.set 6 (.int .i64 4))
        have n6 := bN4.cell (j := 6) rfl
        have fN := bN4.frozen
        clear hkk hi
        go_wp2_with fail
        refine ((HNx _ H5.out.1).out).mono ?_
        rintro e w6 ⟨rfl, h6⟩
        have hN6 := h6.2.block w.heap.size (by rw [World.size_setCell]; exact bN4.lt) hNP (by simp)
        have hR6 := h6.2.block (w.heap.size + 1) (by rw [World.size_setCell]; exact bR4.lt) hRP (by simp)
        have B6 := Lib.hid (B5.out.keep hN6)
        have R6 := Lib.hid ((bR4.other (a := ⟨w.heap.size, 6, none⟩) (by simp) (.int .i64 4)).keep hR6)
        have Q6 := Lib.hid (H5.out.next h6)
        clear h6 hN6 hR6
        go_wp2_with fail
        refine ((HNm _ Q6.out.1).out).mono ?_
        cases hnm : s.on.names with
        | error z =>
          have HG2 : Hid (groupQ (.ok s) = .error z) := by show _ = _; rw [HG.out, hnm]
          have hnq : namesQ (.ok s.on) = .error z := hnm
          rw [hnq]
          rintro e w7 ⟨A, n, c, rfl, h7⟩
          have b7 := B6.out.keep (h7.2.block w.heap.size B6.out.lt hNP (by simp))
          have r7 := R6.out.keep (h7.2.block (w.heap.size + 1) R6.out.lt hRP (by simp))
          have Q7 := Lib.hid (Q6.out.next h7)
          have n7 := b7.cell (j := 7) rfl
          have fN7 := b7.frozen
          have B7 := Lib.hid b7
          have R7 := Lib.hid r7
          clear h7 b7 r7 hnm HG B6 R6 Q6 B5 H5
          go_upto_region 8 with fail
          obtain ⟨Y8, hY8⟩ : ∃ Y : Nod, Y = setG x 4 (List.replicate n ByteArray.empty) := ⟨_, rfl⟩
          have hYn : nodC Y8 none 0 A c = ((nodC x none 0 none 0).set 6 (.int .i64 4)).set 7 (.slice A n c) := by rw [hY8]; simp [nodC, setG]
          have HOW7 : Hid (Own w7 w.heap.size 9 1 none 0 0 []) := Own.nil_ (by decide)
          have hneN : some w.heap.size ≠ (none : Option Addr).map Addr.block := by simp
          have hneR : some (w.heap.size + 1) ≠ (none : Option Addr).map Addr.block := by simp
          generalize hW : World.setCell _ _ _ = W8
          have b8 := B7.out.set 7 (.slice A n c)
          have r8 := R7.out.other (a := ⟨w.heap.size, 7, none⟩) (by simp) (.slice A n c)
          have q8 := Q7.out.setNew H0.out (Nat.le_refl _) 7 (.slice A n c)
          have o8 := HOW7.out.setOther hneN 7 (.slice A n c)
          rw [hW] at b8 r8 q8 o8
          have HO8 := Lib.hid o8
          have e0 := b8.cell (j := 0) rfl
          have e1 := b8.cell (j := 1) rfl
          have e2 := b8.cell (j := 2) rfl
          have e3 := b8.cell (j := 3) rfl
          have e4 := b8.cell (j := 4) rfl
          have e5 := b8.cell (j := 5) rfl
          have e6 := b8.cell (j := 6) rfl
          have e7 := b8.cell (j := 7) rfl
          have e8 := b8.cell (j := 8) rfl
          have e9 := b8.cell (j := 9) rfl
          have z0 := r8.cell (j := 0) rfl
          have z1 := r8.cell (j := 1) rfl
          have z2 := r8.cell (j := 2) rfl
          have z3 := r8.cell (j := 3) rfl
          have z4 := r8.cell (j := 4) rfl
          have z5 := r8.cell (j := 5) rfl
          have z6 := r8.cell (j := 6) rfl
          have z7 := r8.cell (j := 7) rfl
          have z8 := r8.cell (j := 8) rfl
          have z9 := r8.cell (j := 9) rfl
          have fR := r8.frozen
          have Q8 := Lib.hid q8
          have HR8 := Lib.hid r8
          clear hW q8 n7 fN7 B7 R7 Q7 r8 b8 o8 HOW7
          go_wp2_with fail
          generalize hW9 : World.setCell _ _ _ = W9
          have hb9 : Blk W9 (w.heap.size + 1) 37 (nodC Y8 none 0 A c) ∧ TQ P T R O w (.error z) W9 ∧ (Own W9 w.heap.size 9 1 none 0 0 []) := by
            rw [← hW9]
            exact ⟨by rw [hYn]; exact ((((((((((HR8.out.set 0 _).set 1 _).set 2 _).set 3 _).set 4 _).set 5 _).set 6 _).set 7 _).set 8 _).set 9 _), ((((((((((Q8.out.setNew H0.out (show w.heap.size ≤ w.heap.size + 1 by omega) 0 _).setNew H0.out (show w.heap.size ≤ w.heap.size + 1 by omega) 1 _).setNew H0.out (show w.heap.size ≤ w.heap.size + 1 by omega) 2 _).setNew H0.out (show w.heap.size ≤ w.heap.size + 1 by omega) 3 _).setNew H0.out (show w.heap.size ≤ w.heap.size + 1 by omega) 4 _).setNew H0.out (show w.heap.size ≤ w.heap.size + 1 by omega) 5 _).setNew H0.out (show w.heap.size ≤ w.heap.size + 1 by omega) 6 _).setNew H0.out (show w.heap.size ≤ w.heap.size + 1 by omega) 7 _).setNew H0.out (show w.heap.size ≤ w.heap.size + 1 by omega) 8 _).setNew H0.out (show w.heap.size ≤ w.heap.size + 1 by omega) 9 _), ((((((((((HO8.out.setOther hneR 0 _).setOther hneR 1 _).setOther hneR 2 _).setOther hneR 3 _).setOther hneR 4 _).setOther hneR 5 _).setOther hneR 6 _).setOther hneR 7 _).setOther hneR 8 _).setOther hneR 9 _)⟩
          obtain ⟨b9, q9, o9⟩ := hb9
          have O9 := Lib.hid o9
          have d0 := b9.cell (j := 0) rfl
          have d1 := b9.cell (j := 1) rfl
          have d2 := b9.cell (j := 2) rfl
          have d3 := b9.cell (j := 3) rfl
          have d4 := b9.cell (j := 4) rfl
          have d5 := b9.cell (j := 5) rfl
          have d6 := b9.cell (j := 6) rfl
          have d7 := b9.cell (j := 7) rfl
          have d8 := b9.cell (j := 8) rfl
          have d9 := b9.cell (j := 9) rfl
          have Q9 := Lib.hid q9
          clear hW9 b9 q9 o9 e0 z0 e1 z1 e2 z2 e3 z3 e4 z4 e5 z5 e6 z6 e7 z7 e8 z8 e9 z9 fR Q8 HR8
          refine bodyPost_ret (v := nodV Y8 none 0 A c) (by simp [results, Try.results54, go_sem, nodV, nodC, d0, d1, d2, d3, d4, d5, d6, d7, d8, d9]; try rfl) rfl ?_
          rw [HG2.out]
          exact ⟨Y8, none, 0, A, c, rfl, Q9.out⟩
        | ok q7 =>
          obtain ⟨s1, l⟩ := q7
          have HG2 : Hid (groupQ (.ok s) = .ok (s1, 4, l)) := by show _ = _; rw [HG.out, hnm]
          have hnq : namesQ (.ok s.on) = .ok (s1, l) := hnm
          rw [hnq]
          rintro e w7 ⟨A, c, rfl, hO7, h7⟩
          have b7 := B6.out.keep (h7.2.block w.heap.size B6.out.lt hNP (by simp))
          have r7 := R6.out.keep (h7.2.block (w.heap.size + 1) R6.out.lt hRP (by simp))
          have Q7 := Lib.hid (Q6.out.next h7)
          have n7 := b7.cell (j := 7) rfl
          have fN7 := b7.frozen
          have B7 := Lib.hid b7
          have R7 := Lib.hid r7
          have hYn : nodC (setG x 4 l) none 0 A c = ((nodC x none 0 none 0).set 6 (.int .i64 4)).set 7 (.slice A l.length c) := rfl
          have hneN := own_ne_blk hO7 b7 (by decide)
          have hneR := own_ne_blk hO7 r7 (by decide)
          have HOW7 := Lib.hid (hO7.lower (base' := w.heap.size) (by have := Q6.out.2.size; omega))
          clear h7 b7 r7 hnm HG B6 R6 Q6 B5 H5 hO7
          go_upto_region 8 with fail
          generalize hW : World.setCell _ _ _ = W8
          have b8 := B7.out.set 7 (.slice A l.length c)
          have r8 := R7.out.other (a := ⟨w.heap.size, 7, none⟩) (by simp) (.slice A l.length c)
          have q8 := Q7.out.setNew H0.out (Nat.le_refl _) 7 (.slice A l.length c)
          have o8 := HOW7.out.setOther hneN 7 (.slice A l.length c)
          rw [hW] at b8 r8 q8 o8
          have HO8 := Lib.hid o8
          have e0 := b8.cell (j := 0) rfl
          have e1 := b8.cell (j := 1) rfl
          have e2 := b8.cell (j := 2) rfl
          have e3 := b8.cell (j := 3) rfl
          have e4 := b8.cell (j := 4) rfl
          have e5 := b8.cell (j := 5) rfl
          have e6 := b8.cell (j := 6) rfl
          have e7 := b8.cell (j := 7) rfl
          have e8 := b8.cell (j := 8) rfl
          have e9 := b8.cell (j := 9) rfl
          have z0 := r8.cell (j := 0) rfl
          have z1 := r8.cell (j := 1) rfl
          have z2 := r8.cell (j := 2) rfl
          have z3 := r8.cell (j := 3) rfl
          have z4 := r8.cell (j := 4) rfl
          have z5 := r8.cell (j := 5) rfl
          have z6 := r8.cell (j := 6) rfl
          have z7 := r8.cell (j := 7) rfl
          have z8 := r8.cell (j := 8) rfl
          have z9 := r8.cell (j := 9) rfl
          have fR := r8.frozen
          have Q8 := Lib.hid q8
          have HR8 := Lib.hid r8
          clear hW q8 n7 fN7 B7 R7 Q7 r8 b8 o8 HOW7
          go_wp2_with fail
          generalize hW9 : World.setCell _ _ _ = W9
          have hb9 : Blk W9 (w.heap.size + 1) 37 (nodC (setG x 4 l) none 0 A c) ∧ TQ P T R O w (.ok s1) W9 ∧ (Own W9 w.heap.size 9 1 A l.length c (textsC l)) := by
            rw [← hW9]
            exact ⟨by rw [hYn]; exact ((((((((((HR8.out.set 0 _).set 1 _).set 2 _).set 3 _).set 4 _).set 5 _).set 6 _).set 7 _).set 8 _).set 9 _), ((((((((((Q8.out.setNew H0.out (show w.heap.size ≤ w.heap.size + 1 by omega) 0 _).setNew H0.out (show w.heap.size ≤ w.heap.size + 1 by omega) 1 _).setNew H0.out (show w.heap.size ≤ w.heap.size + 1 by omega) 2 _).setNew H0.out (show w.heap.size ≤ w.heap.size + 1 by omega) 3 _).setNew H0.out (show w.heap.size ≤ w.heap.size + 1 by omega) 4 _).setNew H0.out (show w.heap.size ≤ w.heap.size + 1 by omega) 5 _).setNew H0.out (show w.heap.size ≤ w.heap.size + 1 by omega) 6 _).setNew H0.out (show w.heap.size ≤ w.heap.size + 1 by omega) 7 _).setNew H0.out (show w.heap.size ≤ w.heap.size + 1 by omega) 8 _).setNew H0.out (show w.heap.size ≤ w.heap.size + 1 by omega) 9 _), ((((((((((HO8.out.setOther hneR 0 _).setOther hneR 1 _).setOther hneR 2 _).setOther hneR 3 _).setOther hneR 4 _).setOther hneR 5 _).setOther hneR 6 _).setOther hneR 7 _).setOther hneR 8 _).setOther hneR 9 _)⟩
          obtain ⟨b9, q9, o9⟩ := hb9
          have O9 := Lib.hid o9
          have d0 := b9.cell (j := 0) rfl
          have d1 := b9.cell (j := 1) rfl
          have d2 := b9.cell (j := 2) rfl
          have d3 := b9.cell (j := 3) rfl
          have d4 := b9.cell (j := 4) rfl
          have d5 := b9.cell (j := 5) rfl
          have d6 := b9.cell (j := 6) rfl
          have d7 := b9.cell (j := 7) rfl
          have d8 := b9.cell (j := 8) rfl
          have d9 := b9.cell (j := 9) rfl
          have Q9 := Lib.hid q9
          clear hW9 b9 q9 o9 e0 z0 e1 z1 e2 z2 e3 z3 e4 z4 e5 z5 e6 z6 e7 z7 e8 z8 e9 z9 fR Q8 HR8
          refine bodyPost_ret (v := nodV (setG x 4 l) none 0 A c) (by simp [results, Try.results54, go_sem, nodV, nodC, d0, d1, d2, d3, d4, d5, d6, d7, d8, d9]; try rfl) rfl ?_
          rw [HG2.out]
          exact ⟨A, c, rfl, O9.out, Q9.out⟩
    | false =>
      have b8 := bN4
      have r8 := bR4
      have Q8 := Q4
      have HI2 := Lib.hid hi
      clear hi bN4 bR4
      have e0 := b8.cell (j := 0) rfl
      have e1 := b8.cell (j := 1) rfl
      have e2 := b8.cell (j := 2) rfl
      have e3 := b8.cell (j := 3) rfl
      have e4 := b8.cell (j := 4) rfl
      have e5 := b8.cell (j := 5) rfl
      have e6 := b8.cell (j := 6) rfl
      have e7 := b8.cell (j := 7) rfl
      have e8 := b8.cell (j := 8) rfl
      have e9 := b8.cell (j := 9) rfl
      have z0 := r8.cell (j := 0) rfl
      have z1 := r8.cell (j := 1) rfl
      have z2 := r8.cell (j := 2) rfl
      have z3 := r8.cell (j := 3) rfl
      have z4 := r8.cell (j := 4) rfl
      have z5 := r8.cell (j := 5) rfl
      have z6 := r8.cell (j := 6) rfl
      have z7 := r8.cell (j := 7) rfl
      have z8 := r8.cell (j := 8) rfl
      have z9 := r8.cell (j := 9) rfl
      have fR := r8.frozen
      have HR8 := Lib.hid r8
      clear r8 b8
      go_wp2_with fail
      generalize hW9 : World.setCell _ _ _ = W9
      have hb9 : Blk W9 (w.heap.size + 1) 37 (nodC x none 0 none 0) ∧ TQ P T R O w r W9 := by
        rw [← hW9]
        exact ⟨((((((((((HR8.out.set 0 _).set 1 _).set 2 _).set 3 _).set 4 _).set 5 _).set 6 _).set 7 _).set 8 _).set 9 _), ((((((((((Q8.out.setNew H0.out (show w.heap.size ≤ w.heap.size + 1 by omega) 0 _).setNew H0.out (show w.heap.size ≤ w.heap.size + 1 by omega) 1 _).setNew H0.out (show w.heap.size ≤ w.heap.size + 1 by omega) 2 _).setNew H0.out (show w.heap.size ≤ w.heap.size + 1 by omega) 3 _).setNew H0.out (show w.heap.size ≤ w.heap.size + 1 by omega) 4 _).setNew H0.out (show w.heap.size ≤ w.heap.size + 1 by omega) 5 _).setNew H0.out (show w.heap.size ≤ w.heap.size + 1 by omega) 6 _).setNew H0.out (show w.heap.size ≤ w.heap.size + 1 by omega) 7 _).setNew H0.out (show w.heap.size ≤ w.heap.size + 1 by omega) 8 _).setNew H0.out (show w.heap.size ≤ w.heap.size + 1 by omega) 9 _)⟩
      obtain ⟨b9, q9⟩ := hb9
      have d0 := b9.cell (j := 0) rfl
      have d1 := b9.cell (j := 1) rfl
      have d2 := b9.cell (j := 2) rfl
      have d3 := b9.cell (j := 3) rfl
      have d4 := b9.cell (j := 4) rfl
      have d5 := b9.cell (j := 5) rfl
      have d6 := b9.cell (j := 6) rfl
      have d7 := b9.cell (j := 7) rfl
      have d8 := b9.cell (j := 8) rfl
      have d9 := b9.cell (j := 9) rfl
      have Q9 := Lib.hid q9
      clear hW9 b9 q9 e0 z0 e1 z1 e2 z2 e3 z3 e4 z4 e5 z5 e6 z6 e7 z7 e8 z8 e9 z9 fR Q8 HR8
      refine bodyPost_ret (v := nodV x none 0 none 0) (by simp [results, Try.results54, go_sem, nodV, nodC, d0, d1, d2, d3, d4, d5, d6, d7, d8, d9]; try rfl) rfl ?_
      cases r with
      | error z => exact ⟨x, none, 0, none, 0, rfl, Q9.out⟩
      | ok s =>
        have h1 : s.is 3 sOn = false := HI.out
        have h2 : s.is 3 sIgn = false := HI2.out
        have hg : groupQ (.ok s) = .ok (s, 0, []) := by rw [groupQ, PS.group, h1, h2]; rfl
        rw [hg]
        refine ⟨none, 0, ?_, Own.nil_ (by decide), Q9.out⟩
        have hx : nodC (setG x 0 []) none 0 none 0 = nodC x none 0 none 0 := by simp [nodC, setG, HXN.out, HXG.out]
        rw [nodV, nodV, hx]
end
end Go.Proofs.Ytdikmklijpcjdaa
