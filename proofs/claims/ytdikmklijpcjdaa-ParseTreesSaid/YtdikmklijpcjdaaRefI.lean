/- How the document reads a query: an expression in brackets. -/
import Derived.Test.YtdikmklijpcjdaaRefG
import Derived.Test.YtdikmklijpcjdaaParQ
namespace Go.Proofs.Ytdikmklijpcjdaa
section
/-! ## RefH -/
open Go.RowKit
attribute [local go_sem ↓] Go.wp_at_zero Go.wp_at_succ tok_f0 tok_f2 tok_f3

def setM (x : Nod) (ms : List Mat) : Nod := ⟨x.kind, x.op, x.text, ms, x.width, x.back, x.grp, x.names, x.cmp, x.parts⟩
def matcherQ (r : Rp PS) (ms : List Mat) (m : Mat) : Rp (PS × List Mat) := match r with
  | .ok s => if matCode (ms ++ [m]) = 0 then .ok (s.on, ms ++ [m]) else .error (183, (s.hd.at_ : Int))
  | .error z => .error z
/-- How 'matcher' ends. -/
def MatE (P : Nat) (T : List Tok) (R : Option Addr × Nat) (O : List Nod) (w0 w : World) (Am : Option Addr) (x : Nod) : Rp (PS × List Mat) → Ending → World → Prop
  | .ok (s1, ms), e, w' => ∃ A c, e = .returned (nodV (setM x ms) A c none 0) ∧ Own w' w0.heap.size 45 3 A ms.length c (matsC ms) ∧ TQ P T R O w0 (.ok s1) w' ∧ Fr P Am w w' ∧ Mv Am A w
  | .error z, e, w' => ∃ (y : Nod) (A : Option Addr) (c : Nat), e = .returned (nodV y A c none 0) ∧ TQ P T R O w0 (.error z) w' ∧ Fr P Am w w'
theorem Fr.setNewB {P : Nat} {A : Option Addr} {w w' : World} (h : Fr P A w w') {N : Nat} (hN : w.heap.size ≤ N) (j : Nat) (u : Value) : Fr P A w (w'.setCell ⟨N, j, none⟩ u) :=
  ⟨h.os, h.tape, h.output, by simpa using h.size, fun b hlt h1 h2 => (Below.heap_setCell w' ⟨N, j, none⟩ u b (show b ≠ N by omega)).trans (h.block b hlt h1 h2)⟩
section
variable {P : Nat} {T : List Tok} {R : Option Addr × Nat} {O : List Nod} {w w0 : World} {r r0 : Rp PS}
set_option maxRecDepth 100000 in
set_option maxHeartbeats 4000000 in
theorem rmatcher_any (h0 : TAt w0 P T R O r0) (h : TQ P T R O w0 r w) (hk : ∀ s, r = .ok s → s.hd.kind ≠ 0) (hE : Ends T) (x : Nod) (hxn : x.names = []) (Am : Option Addr) (cm : Nat) (hm : ∀ s, r = .ok s → Own w w0.heap.size 45 3 Am x.mat.length cm (matsC x.mat)) (hl : x.mat.length ≤ 1000) (m : Mat) (hms : ∀ y ∈ x.mat ++ [m], y.name.size ≤ maxLen) :
    Calls Try.prog 83 #[.pointer (some ⟨P, 0, none⟩), .agg #[.int .i64 x.kind, .int .i64 x.op, .string x.text, .slice Am x.mat.length cm, .int .i64 x.width, .int .i64 x.back, .int .i64 x.grp, .slice none x.names.length 0, .bool x.cmp, .int .i64 x.parts], .agg #[.int .i64 m.kind, .string m.name, .string m.val]] w (MatE P T R O w0 w Am x (matcherQ r x.mat m)) := by
  have hP := h.1.lt
  have H0 := Lib.hid h0
  have HXN := Lib.hid hxn
  have hNP : w.heap.size ≠ P := by omega
  have hMP : w.heap.size + 1 ≠ P := by omega
  have hRP : w.heap.size + 2 ≠ P := by omega
  have hw0 := h.2.size
  clear hxn h0
  go_enter Try.func83, Try.ntmps83
  go_upto_region 1 with fail
  generalize hW : World.alloc _ _ = W2
  have hN2 : Blk W2 w.heap.size 37 (nodC x Am cm none 0) ∧ Blk W2 (w.heap.size + 1) 45 [.int .i64 m.kind, .string m.name, .string m.val] ∧ Blk W2 (w.heap.size + 2) 37 [.int .i64 0, .int .i64 0, .string ByteArray.empty, .slice none 0 0, .int .i64 0, .int .i64 0, .int .i64 0, .slice none 0 0, .bool false, .int .i64 0] ∧ Below w.heap.size w W2 := by
    rw [← hW]
    have h1 := ((Blk.new w 37 (nodC x Am cm none 0)).alloc (.cells #[.int .i64 m.kind, .string m.name, .string m.val] 45)).alloc (.cells #[.int .i64 0, .int .i64 0, .string ByteArray.empty, .slice none 0 0, .int .i64 0, .int .i64 0, .int .i64 0, .slice none 0 0, .bool false, .int .i64 0] 37)
    have h2 := (Blk.new (w.alloc (.cells (nodC x Am cm none 0).toArray 37)) 45 [.int .i64 m.kind, .string m.name, .string m.val]).alloc (.cells #[.int .i64 0, .int .i64 0, .string ByteArray.empty, .slice none 0 0, .int .i64 0, .int .i64 0, .int .i64 0, .slice none 0 0, .bool false, .int .i64 0] 37)
    have h3 := Blk.new ((w.alloc (.cells (nodC x Am cm none 0).toArray 37)).alloc (.cells #[.int .i64 m.kind, .string m.name, .string m.val] 45)) 37 [.int .i64 0, .int .i64 0, .string ByteArray.empty, .slice none 0 0, .int .i64 0, .int .i64 0, .int .i64 0, .slice none 0 0, .bool false, .int .i64 0]
    rw [World.size_alloc] at h2
    rw [World.size_alloc, World.size_alloc] at h3
    exact ⟨h1, h2, h3, (((Below.refl w.heap.size w).alloc (Nat.le_refl _) _).alloc (by simp) _).alloc (by simp; omega) _⟩
  obtain ⟨bN, bM, bR, hb2⟩ := hN2
  have q2 := h.below hb2
  have hm2 := fun s hs => (hm s hs).belowAll hb2
  have HB2 := Lib.hid hb2
  have HF2 : Hid (Fr P Am w W2) := Fr.of_below hb2
  clear hW hb2 hm h
  obtain ⟨⟨q, hq, hr, ho⟩, hf2⟩ := q2
  have Q2 : Hid (TQ P T R O w0 r W2) := ⟨⟨q, hq, hr, ho⟩, hf2⟩
  obtain ⟨b, o, ct, tk, hT, c0, hat, hbP, hbw, t0, t1, t2, t3, c1, c2, c3, c4, c5, hct, hcm, hfz⟩ := hq.head
  clear hq hf2 ho hT c0 c1 c2 c3 c5 t0 t1 t2 t3 hfz
  cases r with
  | error z =>
    have hc : (q.code != 0) = true := by rw [bne_iff_ne, hr.1]; exact hr.2.1
    have bN6 := bN
    have bR6 := bR
    have Q6 := Q2
    have F6 := HF2
    have O6 : Hid (Own W2 w0.heap.size 45 3 none 0 0 []) := Own.nil_ (by decide)
    have hneR6 : some (w.heap.size + 2) ≠ (none : Option Addr).map Addr.block := by simp
    clear hr bN bR Q2 hm2 hk bM
    have e0 := bN6.cell (j := 0) rfl
    have e1 := bN6.cell (j := 1) rfl
    have e2 := bN6.cell (j := 2) rfl
    have e3 := bN6.cell (j := 3) rfl
    have e4 := bN6.cell (j := 4) rfl
    have e5 := bN6.cell (j := 5) rfl
    have e6 := bN6.cell (j := 6) rfl
    have e7 := bN6.cell (j := 7) rfl
    have e8 := bN6.cell (j := 8) rfl
    have e9 := bN6.cell (j := 9) rfl
    have z0 := bR6.cell (j := 0) rfl
    have z1 := bR6.cell (j := 1) rfl
    have z2 := bR6.cell (j := 2) rfl
    have z3 := bR6.cell (j := 3) rfl
    have z4 := bR6.cell (j := 4) rfl
    have z5 := bR6.cell (j := 5) rfl
    have z6 := bR6.cell (j := 6) rfl
    have z7 := bR6.cell (j := 7) rfl
    have z8 := bR6.cell (j := 8) rfl
    have z9 := bR6.cell (j := 9) rfl
    have fR := bR6.frozen
    have HR6 := Lib.hid bR6
    have hR0 : w0.heap.size ≤ w.heap.size + 2 := by omega
    clear bN6 bR6
    go_wp2_with fail
    generalize hW9 : World.setCell _ _ _ = W9
    have hb9 : Blk W9 (w.heap.size + 2) 37 (nodC x Am cm none 0) ∧ TQ P T R O w0 (.error z) W9 ∧ Fr P Am w W9 ∧ (Own W9 w0.heap.size 45 3 none 0 0 []) := by
      rw [← hW9]
      exact ⟨by rw [(show nodC x Am cm none 0 = nodC x Am cm none 0 from rfl)]; exact ((((((((((HR6.out.set 0 _).set 1 _).set 2 _).set 3 _).set 4 _).set 5 _).set 6 _).set 7 _).set 8 _).set 9 _), ((((((((((Q6.out.setNew H0.out hR0 0 _).setNew H0.out hR0 1 _).setNew H0.out hR0 2 _).setNew H0.out hR0 3 _).setNew H0.out hR0 4 _).setNew H0.out hR0 5 _).setNew H0.out hR0 6 _).setNew H0.out hR0 7 _).setNew H0.out hR0 8 _).setNew H0.out hR0 9 _), ((((((((((F6.out.setNewB (show w.heap.size ≤ w.heap.size + 2 by omega) 0 _).setNewB (show w.heap.size ≤ w.heap.size + 2 by omega) 1 _).setNewB (show w.heap.size ≤ w.heap.size + 2 by omega) 2 _).setNewB (show w.heap.size ≤ w.heap.size + 2 by omega) 3 _).setNewB (show w.heap.size ≤ w.heap.size + 2 by omega) 4 _).setNewB (show w.heap.size ≤ w.heap.size + 2 by omega) 5 _).setNewB (show w.heap.size ≤ w.heap.size + 2 by omega) 6 _).setNewB (show w.heap.size ≤ w.heap.size + 2 by omega) 7 _).setNewB (show w.heap.size ≤ w.heap.size + 2 by omega) 8 _).setNewB (show w.heap.size ≤ w.heap.size + 2 by omega) 9 _), ((((((((((O6.out.setOther hneR6 0 _).setOther hneR6 1 _).setOther hneR6 2 _).setOther hneR6 3 _).setOther hneR6 4 _).setOther hneR6 5 _).setOther hneR6 6 _).setOther hneR6 7 _).setOther hneR6 8 _).setOther hneR6 9 _)⟩
    obtain ⟨b9, q9, f9, o9⟩ := hb9
    have d0 := b9.cell (j := 0) rfl
    have d1 := b9.cell (j := 1) rfl
    have d2 := b9.cell (j := 2) rfl
    have d3 := b9.cell (j := 3) rfl
    have d4 := b9.cell (j := 4) rfl
    have d5 := b9.cell (j := 5) rfl
    have d6 := b9.cell (j := 6) rfl
    have d7 := b9.cell (j := 7) rfl
    have d8 := b9.cell (j := 8) rfl
    have d9 := b9.cell (j := 9) rfl
    have Q9 := Lib.hid q9
    have F9 := Lib.hid f9
    have O9 := Lib.hid o9
    clear hW9 b9 q9 f9 o9 e0 z0 e1 z1 e2 z2 e3 z3 e4 z4 e5 z5 e6 z6 e7 z7 e8 z8 e9 z9 fR Q6 F6 HR6 O6
    refine bodyPost_ret (v := nodV x Am cm none 0) (by simp [results, Try.results83, go_sem, nodV, nodC, d0, d1, d2, d3, d4, d5, d6, d7, d8, d9]; try rfl) rfl ?_
    exact ⟨x, Am, cm, rfl, Q9.out, F9.out⟩
  | ok s =>
    have hc : (q.code != 0) = false := by rw [hr.1]; rfl
    have hO := hm2 s rfl
    have hkk := hk s rfl
    have n3 := bN.cell (j := 3) rfl
    have m0 := bM.cell (j := 0) rfl
    have m1 := bM.cell (j := 1) rfl
    have m2 := bM.cell (j := 2) rfl
    have fN := bN.frozen
    have hneN := own_ne_blk hO bN (by decide)
    have hneR := own_ne_blk hO bR (by decide)
    have HO := Lib.hid (hO.alloc (.cells #[.int .i64 m.kind, .string m.name, .string m.val] 45))
    have HX : Hid (Rd (W2.alloc (.cells #[.int .i64 m.kind, .string m.name, .string m.val] 45)) (W2.heap.size + 1) 3 (some ⟨W2.heap.size, 0, none⟩) (matsC [m])) := Rd.new W2 (matsC_sz _) _ rfl
    have hlt2 : w0.heap.size ≤ W2.heap.size := Nat.le_trans hw0 HB2.out.size
    clear hr hO hm2 hk
    go_wp2_with (at_builtin; refine wpList_append_rd _ rfl (.tmp 14) (.tmp 16) _ rfl eiMat rfl HO.out rfl HX.out rfl (one_mats [m]) (by simp only [maxLen]; omega) (by omega) (by simp; omega) ?_; intro A' c' w4 ho4 hg4 hat4 hb4; have bN4 := (bN.alloc (.cells #[.int .i64 m.kind, .string m.name, .string m.val] 45)).grown hg4 hneN; have n34 := bN4.cell (j := 3) rfl; have fN4 := bN4.frozen)
    have qa := Q2.out.below ((Below.refl _ _).alloc (Nat.le_refl _) (.cells #[.int .i64 m.kind, .string m.name, .string m.val] 45))
    have q4 := qa.grownX H0.out HO.out hg4 (by decide)
    have q5 := q4.setNew H0.out hw0 3 (.slice A' (x.mat.length + 1) c')
    have f5 := ((HF2.out.alloc (.cells #[.int .i64 m.kind, .string m.name, .string m.val] 45)).grown hg4).setNewB (Nat.le_refl _) 3 (.slice A' (x.mat.length + 1) c')
    have hmv : Mv Am A' w := by
      rcases hat4 with h | h
      · exact .inl h
      · refine .inr ⟨_, h, ?_⟩
        rw [World.size_alloc]
        exact Nat.le_succ_of_le HB2.out.size
    have HMv := Lib.hid hmv
    clear hmv
    have hne4 := own_ne_blk ho4 bN4 (by decide)
    have ho5 := ho4.setOther hne4 3 (.slice A' (x.mat.length + 1) c')
    have bN5 := bN4.set 3 (.slice A' (x.mat.length + 1) c')
    have bR4 := (bR.alloc (.cells #[.int .i64 m.kind, .string m.name, .string m.val] 45)).grown hg4 hneR
    have hneR4 := own_ne_blk ho4 bR4 (by decide)
    have bR5 := bR4.other (a := ⟨w.heap.size, 3, none⟩) (by simp) (.slice A' (x.mat.length + 1) c')
    have hmc : matsC x.mat ++ matsC [m] = matsC (x.mat ++ [m]) := by simp [matsC]
    rw [hmc] at ho5
    generalize hW5 : World.setCell w4 _ _ = W5 at *
    have HCk := Lib.hid (rmatCheck_any (x.mat ++ [m]) A' (x.mat.length + 1) c' W5.heap.size W5 ho5.rd (by simp) (by simp only [maxLen]; omega) hms)
    have Q5 := Lib.hid q5
    have F5 := Lib.hid f5
    have BN5 := Lib.hid bN5
    have BR5 := Lib.hid bR5
    have O5 := Lib.hid ho5
    have hyy : nodC (setM x (x.mat ++ [m])) A' c' none 0 = (nodC x Am cm none 0).set 3 (.slice A' (x.mat.length + 1) c') := by simp [nodC, setM]
    clear qa q4 q5 f5 hne4 ho5 bN5 bR4 bR5 hmc hW5 bN4 n34 fN4 ho4 hg4 hat4 hb4 bN bM bR n3 m0 m1 m2 fN hneN hneR HO HX Q2 HF2
    refine (HCk.out).mono ?_
    rintro e w5 ⟨rfl, rfl⟩
    by_cases hcode : matCode (x.mat ++ [m]) = 0
    · have hcb : (matCode (x.mat ++ [m]) != 0) = false := by rw [hcode]; rfl
      have HQ : Hid (matcherQ (.ok s) x.mat m = .ok (s.on, x.mat ++ [m])) := by show _ = _; rw [matcherQ, if_pos hcode]
      have HNx := Lib.hid (rnext_any Q5.out.1 (fun s' h => by injection h with h; subst h; exact hkk) hE)
      clear hcode hkk
      go_wp2_with fail
      refine (HNx.out).mono ?_
      rintro e w6 ⟨rfl, h6⟩
      have bN6 := BN5.out.keep (h6.2.block w.heap.size BN5.out.lt hNP (by simp))
      have bR6 := BR5.out.keep (h6.2.block (w.heap.size + 2) BR5.out.lt hRP (by simp))
      have Q6 : Hid (TQ P T R O w0 (.ok s.on) w6) := Q5.out.next h6
      have F6 : Hid (Fr P Am w w6) := F5.out.trans (Mv.refl _ _) h6.2.weak
      have O6 := Lib.hid (O5.out.frQ Q5.out.1 h6.2 (by decide))
      have hneR6 := own_ne_blk O6.out bR6 (by decide)
      clear h6 BN5 BR5 Q5 F5 O5 HNx
      have e0 := bN6.cell (j := 0) rfl
      have e1 := bN6.cell (j := 1) rfl
      have e2 := bN6.cell (j := 2) rfl
      have e3 := bN6.cell (j := 3) rfl
      have e4 := bN6.cell (j := 4) rfl
      have e5 := bN6.cell (j := 5) rfl
      have e6 := bN6.cell (j := 6) rfl
      have e7 := bN6.cell (j := 7) rfl
      have e8 := bN6.cell (j := 8) rfl
      have e9 := bN6.cell (j := 9) rfl
      have z0 := bR6.cell (j := 0) rfl
      have z1 := bR6.cell (j := 1) rfl
      have z2 := bR6.cell (j := 2) rfl
      have z3 := bR6.cell (j := 3) rfl
      have z4 := bR6.cell (j := 4) rfl
      have z5 := bR6.cell (j := 5) rfl
      have z6 := bR6.cell (j := 6) rfl
      have z7 := bR6.cell (j := 7) rfl
      have z8 := bR6.cell (j := 8) rfl
      have z9 := bR6.cell (j := 9) rfl
      have fR := bR6.frozen
      have HR6 := Lib.hid bR6
      have hR0 : w0.heap.size ≤ w.heap.size + 2 := by omega
      clear bN6 bR6
      go_wp2_with fail
      generalize hW9 : World.setCell _ _ _ = W9
      have hb9 : Blk W9 (w.heap.size + 2) 37 (nodC (setM x (x.mat ++ [m])) A' c' none 0) ∧ TQ P T R O w0 (.ok s.on) W9 ∧ Fr P Am w W9 ∧ (Own W9 w0.heap.size 45 3 A' (x.mat.length + 1) c' (matsC (x.mat ++ [m]))) := by
        rw [← hW9]
        exact ⟨by rw [hyy]; exact ((((((((((HR6.out.set 0 _).set 1 _).set 2 _).set 3 _).set 4 _).set 5 _).set 6 _).set 7 _).set 8 _).set 9 _), ((((((((((Q6.out.setNew H0.out hR0 0 _).setNew H0.out hR0 1 _).setNew H0.out hR0 2 _).setNew H0.out hR0 3 _).setNew H0.out hR0 4 _).setNew H0.out hR0 5 _).setNew H0.out hR0 6 _).setNew H0.out hR0 7 _).setNew H0.out hR0 8 _).setNew H0.out hR0 9 _), ((((((((((F6.out.setNewB (show w.heap.size ≤ w.heap.size + 2 by omega) 0 _).setNewB (show w.heap.size ≤ w.heap.size + 2 by omega) 1 _).setNewB (show w.heap.size ≤ w.heap.size + 2 by omega) 2 _).setNewB (show w.heap.size ≤ w.heap.size + 2 by omega) 3 _).setNewB (show w.heap.size ≤ w.heap.size + 2 by omega) 4 _).setNewB (show w.heap.size ≤ w.heap.size + 2 by omega) 5 _).setNewB (show w.heap.size ≤ w.heap.size + 2 by omega) 6 _).setNewB (show w.heap.size ≤ w.heap.size + 2 by omega) 7 _).setNewB (show w.heap.size ≤ w.heap.size + 2 by omega) 8 _).setNewB (show w.heap.size ≤ w.heap.size + 2 by omega) 9 _), ((((((((((O6.out.setOther hneR6 0 _).setOther hneR6 1 _).setOther hneR6 2 _).setOther hneR6 3 _).setOther hneR6 4 _).setOther hneR6 5 _).setOther hneR6 6 _).setOther hneR6 7 _).setOther hneR6 8 _).setOther hneR6 9 _)⟩
      obtain ⟨b9, q9, f9, o9⟩ := hb9
      have d0 := b9.cell (j := 0) rfl
      have d1 := b9.cell (j := 1) rfl
      have d2 := b9.cell (j := 2) rfl
      have d3 := b9.cell (j := 3) rfl
      have d4 := b9.cell (j := 4) rfl
      have d5 := b9.cell (j := 5) rfl
      have d6 := b9.cell (j := 6) rfl
      have d7 := b9.cell (j := 7) rfl
      have d8 := b9.cell (j := 8) rfl
      have d9 := b9.cell (j := 9) rfl
      have Q9 := Lib.hid q9
      have F9 := Lib.hid f9
      have O9 := Lib.hid o9
      clear hW9 b9 q9 f9 o9 e0 z0 e1 z1 e2 z2 e3 z3 e4 z4 e5 z5 e6 z6 e7 z7 e8 z8 e9 z9 fR Q6 F6 HR6 O6
      refine bodyPost_ret (v := nodV (setM x (x.mat ++ [m])) A' c' none 0) (by simp [results, Try.results83, go_sem, nodV, nodC, d0, d1, d2, d3, d4, d5, d6, d7, d8, d9]; try rfl) rfl ?_
      rw [HQ.out]
      exact ⟨A', c', rfl, by rw [List.length_append]; exact O9.out, Q9.out, F9.out, HMv.out⟩
    · have hcb : (matCode (x.mat ++ [m]) != 0) = true := by rw [bne_iff_ne]; exact hcode
      have HQ : Hid (matcherQ (.ok s) x.mat m = .error (183, (s.hd.at_ : Int))) := by show _ = _; rw [matcherQ, if_neg hcode]
      have HF : Hid (failR (.ok s) 183 = .error (183, (s.hd.at_ : Int))) := by show _ = _; rw [failR, if_neg hkk]
      have HX := Lib.hid (rfail_any Q5.out.1 183 (by decide))
      have HNx := fun (W : World) (h : TAt W P T R O (failR (.ok s) 183)) => Lib.hid (rnext_any h (fun s' h => absurd h (failR_err _ _ _)) hE)
      clear hcode hkk
      go_wp2_with fail
      refine (HX.out).mono ?_
      rintro e w6 ⟨rfl, h6⟩
      have B6 := Lib.hid (BN5.out.keep (h6.2.block w.heap.size BN5.out.lt hNP (by simp)))
      have R6 := Lib.hid (BR5.out.keep (h6.2.block (w.heap.size + 2) BR5.out.lt hRP (by simp)))
      have Q6a := Lib.hid (Q5.out.next h6)
      have F6a := Lib.hid (F5.out.trans (Mv.refl _ _) h6.2.weak)
      have O6a := Lib.hid (O5.out.frQ Q5.out.1 h6.2 (by decide))
      clear h6 BN5 BR5 Q5 F5 O5 HX
      go_wp2_with fail
      refine ((HNx _ Q6a.out.1).out).mono ?_
      rintro e w7 ⟨rfl, h7⟩
      have bN6 := B6.out.keep (h7.2.block w.heap.size B6.out.lt hNP (by simp))
      have bR6 := R6.out.keep (h7.2.block (w.heap.size + 2) R6.out.lt hRP (by simp))
      have q7 := Q6a.out.next h7
      rw [onR_fail, HF.out] at q7
      have Q6 := Lib.hid q7
      have F6 := Lib.hid (F6a.out.trans (Mv.refl _ _) h7.2.weak)
      have O6 := Lib.hid (O6a.out.frQ Q6a.out.1 h7.2 (by decide))
      have hneR6 := own_ne_blk O6.out bR6 (by decide)
      clear h7 q7 B6 R6 Q6a F6a O6a HNx
      have e0 := bN6.cell (j := 0) rfl
      have e1 := bN6.cell (j := 1) rfl
      have e2 := bN6.cell (j := 2) rfl
      have e3 := bN6.cell (j := 3) rfl
      have e4 := bN6.cell (j := 4) rfl
      have e5 := bN6.cell (j := 5) rfl
      have e6 := bN6.cell (j := 6) rfl
      have e7 := bN6.cell (j := 7) rfl
      have e8 := bN6.cell (j := 8) rfl
      have e9 := bN6.cell (j := 9) rfl
      have z0 := bR6.cell (j := 0) rfl
      have z1 := bR6.cell (j := 1) rfl
      have z2 := bR6.cell (j := 2) rfl
      have z3 := bR6.cell (j := 3) rfl
      have z4 := bR6.cell (j := 4) rfl
      have z5 := bR6.cell (j := 5) rfl
      have z6 := bR6.cell (j := 6) rfl
      have z7 := bR6.cell (j := 7) rfl
      have z8 := bR6.cell (j := 8) rfl
      have z9 := bR6.cell (j := 9) rfl
      have fR := bR6.frozen
      have HR6 := Lib.hid bR6
      have hR0 : w0.heap.size ≤ w.heap.size + 2 := by omega
      clear bN6 bR6
      go_wp2_with fail
      generalize hW9 : World.setCell _ _ _ = W9
      have hb9 : Blk W9 (w.heap.size + 2) 37 (nodC (setM x (x.mat ++ [m])) A' c' none 0) ∧ TQ P T R O w0 (.error (183, (s.hd.at_ : Int))) W9 ∧ Fr P Am w W9 ∧ (Own W9 w0.heap.size 45 3 A' (x.mat.length + 1) c' (matsC (x.mat ++ [m]))) := by
        rw [← hW9]
        exact ⟨by rw [hyy]; exact ((((((((((HR6.out.set 0 _).set 1 _).set 2 _).set 3 _).set 4 _).set 5 _).set 6 _).set 7 _).set 8 _).set 9 _), ((((((((((Q6.out.setNew H0.out hR0 0 _).setNew H0.out hR0 1 _).setNew H0.out hR0 2 _).setNew H0.out hR0 3 _).setNew H0.out hR0 4 _).setNew H0.out hR0 5 _).setNew H0.out hR0 6 _).setNew H0.out hR0 7 _).setNew H0.out hR0 8 _).setNew H0.out hR0 9 _), ((((((((((F6.out.setNewB (show w.heap.size ≤ w.heap.size + 2 by omega) 0 _).setNewB (show w.heap.size ≤ w.heap.size + 2 by omega) 1 _).setNewB (show w.heap.size ≤ w.heap.size + 2 by omega) 2 _).setNewB (show w.heap.size ≤ w.heap.size + 2 by omega) 3 _).setNewB (show w.heap.size ≤ w.heap.size + 2 by omega) 4 _).setNewB (show w.heap.size ≤ w.heap.size + 2 by omega) 5 _).setNewB (show w.heap.size ≤ w.heap.size + 2 by omega) 6 _).setNewB (show w.heap.size ≤ w.heap.size + 2 by omega) 7 _).setNewB (show w.heap.size ≤ w.heap.size + 2 by omega) 8 _).setNewB (show w.heap.size ≤ w.heap.size + 2 by omega) 9 _), ((((((((((O6.out.setOther hneR6 0 _).setOther hneR6 1 _).setOther hneR6 2 _).setOther hneR6 3 _).setOther hneR6 4 _).setOther hneR6 5 _).setOther hneR6 6 _).setOther hneR6 7 _).setOther hneR6 8 _).setOther hneR6 9 _)⟩
      obtain ⟨b9, q9, f9, o9⟩ := hb9
      have d0 := b9.cell (j := 0) rfl
      have d1 := b9.cell (j := 1) rfl
      have d2 := b9.cell (j := 2) rfl
      have d3 := b9.cell (j := 3) rfl
      have d4 := b9.cell (j := 4) rfl
      have d5 := b9.cell (j := 5) rfl
      have d6 := b9.cell (j := 6) rfl
      have d7 := b9.cell (j := 7) rfl
      have d8 := b9.cell (j := 8) rfl
      have d9 := b9.cell (j := 9) rfl
      have Q9 := Lib.hid q9
      have F9 := Lib.hid f9
      have O9 := Lib.hid o9
      clear hW9 b9 q9 f9 o9 e0 z0 e1 z1 e2 z2 e3 z3 e4 z4 e5 z5 e6 z6 e7 z7 e8 z8 e9 z9 fR Q6 F6 HR6 O6
      refine bodyPost_ret (v := nodV (setM x (x.mat ++ [m])) A' c' none 0) (by simp [results, Try.results83, go_sem, nodV, nodC, d0, d1, d2, d3, d4, d5, d6, d7, d8, d9]; try rfl) rfl ?_
      rw [HQ.out]
      exact ⟨_, A', c', rfl, Q9.out, F9.out⟩
end
end
section
/-! ## RefI -/
open Go.RowKit
attribute [local go_sem ↓] Go.wp_at_zero Go.wp_at_succ tok_f0 tok_f2 tok_f3

def bindR (r : Rp PS) (p : PS → Rp PS) : Rp PS := match r with
  | .ok s => p s
  | .error x => .error x
/-- What a part of the grammar is, in the document's reader. -/
def PartQ (P : Nat) (T : List Tok) (M : Nat) (f : FuncId) (args : Array Value) (p : PS → Rp PS) : Prop :=
  ∀ (M' : Nat) (R : Option Addr × Nat) (O : List Nod) (r : Rp PS) (w : World), M' ≤ M → (∀ s, r = .ok s → PGood M' s) → TAt w P T R O r → Calls Try.prog f args w fun e w' => e = .returned (.tuple #[]) ∧ TSt P T R w (bindR r p) w'
section
variable {P : Nat} {T : List Tok} {R R0 : Option Addr × Nat} {O : List Nod} {w w' w0 : World} {r r' : Rp PS}
theorem TSt.next (h : TSt P T R0 w0 r w) (k : ∀ R O, TAt w P T R O r → Fr P R0.1 w0 w → Mv R0.1 R.1 w0 → TSt P T R w r' w') : TSt P T R0 w0 r' w' := by
  obtain ⟨R, O, h1, h2, h3⟩ := h
  obtain ⟨R', O', k1, k2, k3⟩ := k R O h1 h2 h3
  exact ⟨R', O', k1, h2.trans h3 k2, h3.trans k3 h2.size⟩
/-- One less that nests. -/
def lessR (r : Rp PS) : Rp PS := match r with
  | .ok s => .ok ⟨s.toks, s.deep - 1, s.out⟩
  | .error x => .error x
theorem TAt.less (h : TAt w P T R O r) (hd : ∀ s, r = .ok s → 1 ≤ s.deep) : ∃ z : Int, w.cell? ⟨P, 3, none⟩ = some (.int .i64 z) ∧ (∀ j, w.frozen? ⟨P, j, none⟩ = false) ∧ (∀ s, r = .ok s → z = s.deep) ∧ ∀ y : Int, (∀ s, r = .ok s → y = z - 1) → TQ P T R O w (lessR r) (w.setCell ⟨P, 3, none⟩ (.int .i64 y)) := by
  obtain ⟨q, hq, hr, ho⟩ := h
  obtain ⟨b, o, ct, tk, hT, c0, hat, hbP, hbw, t0, t1, t2, t3, c1, c2, c3, c4, c5, hct, hcm, hfz⟩ := hq.head
  refine ⟨q.nest, c3, hfz, fun s hs => by subst hs; exact hr.2.2.2, fun y hy => ?_⟩
  refine ⟨⟨⟨q.at_, q.out, y, q.code, q.place⟩, hq.set 3 (.int .i64 y) ⟨q.at_, q.out, y, q.code, q.place⟩ hat rfl (fun _ _ _ => rfl), ?_, ho⟩, (Fr.refl P none w).setP 3 _⟩
  cases r with
  | error x => exact hr
  | ok s =>
    have h1 := hy s rfl
    have h2 := hd s rfl
    have h3 : q.nest = s.deep := hr.2.2.2
    exact ⟨hr.1, hr.2.1, hr.2.2.1, by show y = ((s.deep - 1 : Nat) : Int); omega⟩
end
/-- What stands in brackets, step by step. -/
theorem bracket_steps {p : PS → Rp PS} {s : PS} (hi : s.is 5 sO = true) : bracketP p s = wantR (lessR (bindR (openR (.ok s)) p)) sC := by
  rw [bracketP, if_pos hi, openP, openR]
  split
  · rfl
  · show _ = wantR (lessR (p ⟨s.toks.tail, s.deep + 1, s.out⟩)) sC
    rw [innerP]
    cases hp : p ⟨s.toks.tail, s.deep + 1, s.out⟩ with
    | error x => rfl
    | ok s1 =>
      dsimp only
      have e1 : PS.is ⟨s1.toks, s1.deep - 1, s1.out⟩ 5 sC = s1.is 5 sC := rfl
      show _ = PS.sign ⟨s1.toks, s1.deep - 1, s1.out⟩ sC
      unfold PS.sign
      rw [e1]
      by_cases hc : s1.is 5 sC = true
      · rw [if_pos hc, if_pos hc]; rfl
      · rw [if_neg hc, if_neg hc]; rfl
theorem bracket_no {p : PS → Rp PS} {r : Rp PS} (hi : isR r 5 sO = false) : bindR r (bracketP p) = failR r 181 := by
  cases r with
  | error x => rfl
  | ok s =>
    have hi : s.is 5 sO = false := hi
    show bracketP p s = _
    rw [bracketP, hi, if_neg (by decide)]
    rfl
theorem open_good {M : Nat} {s : PS} (h : PGood M s) (hk : s.hd.kind ≠ 0) : ∀ s', openR (.ok s) = .ok s' → PGood (M - 1) s' ∧ s'.deep = s.deep + 1 ∧ s.deep < 64 := by
  intro s' hs
  rw [openR] at hs
  split at hs
  · cases hs
  · rename_i hd
    injection hs with hs
    subst hs
    have g := h.on1 hk
    have hdl := h.deep
    exact ⟨⟨g.ends, g.room, by show s.deep + 1 ≤ 64; omega, g.text⟩, rfl, by omega⟩
set_option maxRecDepth 100000 in
set_option maxHeartbeats 2000000 in
theorem rinner_any {P : Nat} {T : List Tok} {M : Nat} {p : PS → Rp PS} (hb : PartQ P T (M - 1) 23 #[.pointer (some ⟨P, 0, none⟩), .int .i64 1] p) (hpd : PartOk p) (hE : Ends T) : PartQ P T M 76 #[.pointer (some ⟨P, 0, none⟩)] (bracketP p) := by
  intro M' R O r w hM' hg h
  have HS := Lib.hid (rsign_q (TQ.start h) sO)
  cases hi : isR r 5 sO with
  | false =>
    rw [hi] at HS
    have HT := Lib.hid (bracket_no (p := p) hi)
    have HF := fun (W : World) (h : TQ P T R O w r W) => Lib.hid (rfail_q h 181 (by decide))
    clear hi h hg
    go_enter Try.func76, Try.ntmps76
    go_wp2_with fail
    refine (HS.out).mono ?_
    rintro e w1 ⟨rfl, h1⟩
    go_wp2_with fail
    refine ((HF _ h1).out).mono ?_
    rintro e w2 ⟨rfl, h2⟩
    go_wp2_with fail
    first | go_end0 | refine bodyPost_ret (results_none rfl _ _ _) rfl ?_
    rw [HT.out]
    exact ⟨rfl, h2.st⟩
  | true =>
    cases r with
    | error x => cases hi
    | ok s =>
      rw [hi] at HS
      have hi' : s.is 5 sO = true := hi
      have hk : s.hd.kind ≠ 0 := by rw [is_kind hi']; decide
      have hgs := hg s rfl
      have HT : Hid (bindR (.ok s) (bracketP p) = wantR (lessR (bindR (openR (.ok s)) p)) sC) := bracket_steps hi'
      have hog := open_good hgs hk
      have HO := fun (W : World) (h : TQ P T R O w (.ok s) W) => Lib.hid (ropen_q h (fun s' hs => by injection hs with hs; subst hs; exact ⟨hk, hgs.deep⟩) hE)
      have HB := fun (W : World) (h : TAt W P T R O (openR (.ok s))) => Lib.hid (hb (M' - 1) R O (openR (.ok s)) W (by omega) (fun s' hs => (hog s' hs).1) h)
      have HD : Hid (∀ s', bindR (openR (.ok s)) p = .ok s' → 1 ≤ s'.deep ∧ s'.deep ≤ 64) := by
        intro s' hs
        cases ho : openR (.ok s) with
        | error x => rw [ho] at hs; cases hs
        | ok s2 =>
          rw [ho] at hs
          obtain ⟨_, a2, a3⟩ := hog s2 ho
          have := (hpd _ _ hs).1
          omega
      clear hi hi' h hg hgs hog hk hb hpd
      go_enter Try.func76, Try.ntmps76
      go_wp2_with fail
      refine (HS.out).mono ?_
      rintro e w1 ⟨rfl, h1⟩
      go_wp2_with fail
      refine ((HO _ h1).out).mono ?_
      rintro e w2 ⟨rfl, h2⟩
      go_wp2_with fail
      refine ((HB _ h2.1).out).mono ?_
      rintro e w3 ⟨rfl, R3, O3, t3, f3, m3⟩
      have F2 := Lib.hid ((h2.2.weak (A := R.1)).trans (Mv.refl _ _) f3)
      have M2 := Lib.hid ((Mv.refl R.1 w).trans m3 h2.2.size)
      obtain ⟨z, c3, fz, hz, hset⟩ := t3.less (fun s' hs => (HD.out s' hs).1)
      have HSet := Lib.hid (hset (wrap64 (z - 1)) (fun s' hs => by
        have h1 := hz s' hs
        have h2 := HD.out s' hs
        unfold wrap64
        omega))
      have HW := fun (W : World) (h : TAt W P T R3 O3 (lessR (bindR (openR (.ok s)) p))) => Lib.hid (rwant_q (TQ.start h) sC hE)
      clear h1 h2 f3 m3 hz hset t3
      go_wp2_with fail
      refine ((HW (w3.setCell ⟨P, 3, none⟩ (.int .i64 (wrap64 (z - 1)))) HSet.out.1).out).mono ?_
      rintro e w5 ⟨rfl, h5⟩
      go_wp2_with fail
      first | go_end0 | refine bodyPost_ret (results_none rfl _ _ _) rfl ?_
      rw [HT.out]
      exact ⟨rfl, R3, O3, h5.1, F2.out.trans M2.out (HSet.out.2.transN h5.2).weak, M2.out⟩
theorem unary_steps {n : Nat} {s : PS} (hi : s.is 5 sMinus = true) : unaryP (n + 1) s = layR (lessR (bindR (openR (.ok s)) (unaryP n))) negN := by
  rw [unaryP, if_pos hi, openP, openR]
  by_cases h64 : s.deep = 64
  · rw [if_pos h64, if_pos h64]; rfl
  · rw [if_neg h64, if_neg h64]
    show _ = layR (lessR (unaryP n ⟨s.toks.tail, s.deep + 1, s.out⟩)) negN
    cases hp : unaryP n ⟨s.toks.tail, s.deep + 1, s.out⟩ with
    | error x => rfl
    | ok s1 => rfl
theorem unary_no {n : Nat} {r : Rp PS} (hi : isR r 5 sMinus = false) : bindR r (unaryP (n + 1)) = bindR r (oneP (orP (unaryP n))) := by
  cases r with
  | error x => rfl
  | ok s =>
    have hi : s.is 5 sMinus = false := hi
    show unaryP (n + 1) s = _
    rw [unaryP, hi, if_neg (by decide)]
    rfl
set_option maxRecDepth 100000 in
set_option maxHeartbeats 2000000 in
theorem runary_step {P : Nat} {T : List Tok} {n M : Nat} (hM6 : M ≤ 1000000) (hone : PartQ P T M 64 #[.pointer (some ⟨P, 0, none⟩)] (oneP (orP (unaryP n)))) (hun : PartQ P T (M - 1) 50 #[.pointer (some ⟨P, 0, none⟩)] (unaryP n)) (hE : Ends T) :
    PartQ P T M 50 #[.pointer (some ⟨P, 0, none⟩)] (unaryP (n + 1)) := by
  intro M' R O r w hM' hg h
  have HS := Lib.hid (rsign_q (TQ.start h) sMinus)
  cases hi : isR r 5 sMinus with
  | false =>
    rw [hi] at HS
    have HT := Lib.hid (unary_no (n := n) hi)
    have HN := fun (W : World) (h : TAt W P T R O r) => Lib.hid (hone M' R O r W hM' hg h)
    clear hi h hg hone hun
    go_enter Try.func50, Try.ntmps50
    go_wp2_with fail
    refine (HS.out).mono ?_
    rintro e w1 ⟨rfl, h1⟩
    go_wp2_with fail
    refine ((HN _ h1.1).out).mono ?_
    rintro e w2 ⟨rfl, R2, O2, t2, f2, m2⟩
    go_wp2_with fail
    first | go_end0 | refine bodyPost_ret (results_none rfl _ _ _) rfl ?_
    rw [HT.out]
    exact ⟨rfl, R2, O2, t2, (h1.2.weak (A := R.1)).trans (Mv.refl _ _) f2, (Mv.refl R.1 w).trans m2 h1.2.size⟩
  | true =>
    cases r with
    | error x => cases hi
    | ok s =>
      rw [hi] at HS
      have hi' : s.is 5 sMinus = true := hi
      have hk : s.hd.kind ≠ 0 := by rw [is_kind hi']; decide
      have hgs := hg s rfl
      have HT : Hid (bindR (.ok s) (unaryP (n + 1)) = layR (lessR (bindR (openR (.ok s)) (unaryP n))) negN) := unary_steps hi'
      have hog := open_good hgs hk
      have HO := fun (W : World) (h : TQ P T R O w (.ok s) W) => Lib.hid (ropen_q h (fun s' hs => by injection hs with hs; subst hs; exact ⟨hk, hgs.deep⟩) hE)
      have HB := fun (W : World) (h : TAt W P T R O (openR (.ok s))) => Lib.hid (hun (M' - 1) R O (openR (.ok s)) W (by omega) (fun s' hs => (hog s' hs).1) h)
      have HD : Hid (∀ s', bindR (openR (.ok s)) (unaryP n) = .ok s' → (1 ≤ s'.deep ∧ s'.deep ≤ 64) ∧ s'.out.length ≤ 1000000) := by
        intro s' hs
        cases ho : openR (.ok s) with
        | error x => rw [ho] at hs; cases hs
        | ok s2 =>
          rw [ho] at hs
          obtain ⟨a1, a2, a3⟩ := hog s2 ho
          obtain ⟨b1, b2⟩ := unaryP_ok n _ _ hs
          have b3 := (b2 _ a1).1.room
          omega
      clear hi hi' h hg hgs hog hk hun hone
      go_enter Try.func50, Try.ntmps50
      go_wp2_with fail
      refine (HS.out).mono ?_
      rintro e w1 ⟨rfl, h1⟩
      go_wp2_with fail
      refine ((HO _ h1).out).mono ?_
      rintro e w2 ⟨rfl, h2⟩
      go_wp2_with fail
      refine ((HB _ h2.1).out).mono ?_
      rintro e w3 ⟨rfl, R3, O3, t3, f3, m3⟩
      have F2 := Lib.hid ((h2.2.weak (A := R.1)).trans (Mv.refl _ _) f3)
      have M2 := Lib.hid ((Mv.refl R.1 w).trans m3 h2.2.size)
      obtain ⟨z, c3, fz, hz, hset⟩ := t3.less (fun s' hs => (HD.out s' hs).1.1)
      have HSet := Lib.hid (hset (wrap64 (z - 1)) (fun s' hs => by
        have h1 := hz s' hs
        have h2 := HD.out s' hs
        unfold wrap64
        omega))
      have HL := fun (W : World) (h : TAt W P T R3 O3 (lessR (bindR (openR (.ok s)) (unaryP n)))) => Lib.hid (rlay_any h negN none none 0 0 (fun _ _ => Own.nil_ (by decide)) (fun _ _ => Own.nil_ (by decide)) (fun s' hs => by
        have h6 := ((show TAt W P T R3 O3 (.ok s') from hs ▸ h).toks hE).2.2.2.2
        rw [← h6]
        cases hb : bindR (openR (.ok s)) (unaryP n) with
        | error x => rw [hb] at hs; cases hs
        | ok s4 =>
          have h5 := (HD.out s4 hb).2
          rw [hb] at hs
          injection hs with hs
          subst hs
          exact h5))
      clear h1 h2 f3 m3 hz hset t3
      go_wp2_with fail
      refine ((HL (w3.setCell ⟨P, 3, none⟩ (.int .i64 (wrap64 (z - 1)))) HSet.out.1).out).mono ?_
      rintro e w5 ⟨rfl, R5, O5, t5, f5, m5⟩
      go_wp2_with fail
      first | go_end0 | refine bodyPost_ret (results_none rfl _ _ _) rfl ?_
      rw [HT.out]
      exact ⟨rfl, R5, O5, t5, (F2.out.trans M2.out HSet.out.2.weak).trans M2.out f5, M2.out.trans m5 (F2.out.trans M2.out HSet.out.2.weak).size⟩
end
end Go.Proofs.Ytdikmklijpcjdaa
