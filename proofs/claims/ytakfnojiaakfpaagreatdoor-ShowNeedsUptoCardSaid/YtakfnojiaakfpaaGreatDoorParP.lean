/- How a query is read: by which labels is grouped. -/
import Derived.Test.YtakfnojiaakfpaaGreatDoorPQuery
import Derived.Test.YtakfnojiaakfpaaGreatDoorNodC
import Derived.Test.YtakfnojiaakfpaaGreatDoorTypSrc
import Derived.Deep.RegionHeld3
import Derived.Deep.RegionLaw
import Derived.Deep.DrawnRows
namespace Go.Proofs.YtakfnojiaakfpaaGreatDoor
section
/-! ## ParW -/
open Go.RowKit

theorem tok_f0 (a b c d : Value) (w : World) : (Instr.field 67 (.agg #[a, b, c, d]) 0).run Tryz.prog w = .ok a w := by kernel_rfl
theorem tok_f2 (a b c d : Value) (w : World) : (Instr.field 67 (.agg #[a, b, c, d]) 2).run Tryz.prog w = .ok c w := by kernel_rfl
theorem tok_f3 (a b c d : Value) (w : World) : (Instr.field 67 (.agg #[a, b, c, d]) 3).run Tryz.prog w = .ok d w := by kernel_rfl
attribute [local go_sem ↓] tok_f0 tok_f2 tok_f3
/-- The reader in block P: what is left to read lies below it, what is laid above it. -/
def PAt (w : World) (P : Nat) (R : Option Addr × Nat) (s : PS) : Prop :=
  ∃ b o ct, Blk w P 62 [.slice (some ⟨b, o, none⟩) s.toks.length ct, .int .i64 s.deep, .slice R.1 s.out.length R.2] ∧ Rd w P 4 (some ⟨b, o, none⟩) (toksC s.toks) ∧ s.toks.length ≤ ct ∧ ct ≤ maxLen ∧ OwnNods w (P + 1) R.1 s.out.length R.2 s.out
/-- All that was there reads as before, but for the reader's block and the row of what is laid. -/
structure Fr (P : Nat) (A : Option Addr) (w w' : World) : Prop where
  os : w'.os = w.os
  tape : w'.tape = w.tape
  output : w'.output = w.output
  size : w.heap.size ≤ w'.heap.size
  block : ∀ b, b < w.heap.size → b ≠ P → A.map Addr.block ≠ some b → w'.heap[b]? = w.heap[b]?
/-- Where the row lies: where it lay, or in new memory. -/
def Mv (A A' : Option Addr) (w : World) : Prop := A'.map Addr.block = A.map Addr.block ∨ ∃ g, A'.map Addr.block = some g ∧ w.heap.size ≤ g
theorem Mv.refl (A : Option Addr) (w : World) : Mv A A w := .inl rfl
theorem Mv.trans {A A1 A2 : Option Addr} {w w1 : World} (h : Mv A A1 w) (k : Mv A1 A2 w1) (hz : w.heap.size ≤ w1.heap.size) : Mv A A2 w := by
  rcases k with k | ⟨g, k, hg⟩
  · rcases h with h | ⟨g, h, hg⟩
    · exact .inl (k.trans h)
    · exact .inr ⟨g, k.trans h, hg⟩
  · exact .inr ⟨g, k, Nat.le_trans hz hg⟩
theorem Fr.refl (P : Nat) (A : Option Addr) (w : World) : Fr P A w w := ⟨rfl, rfl, rfl, Nat.le_refl _, fun _ _ _ _ => rfl⟩
theorem Fr.of_below {P : Nat} {A : Option Addr} {w w' : World} (h : Below w.heap.size w w') : Fr P A w w' := ⟨h.os, h.tape, h.output, h.size, fun b hb _ _ => h.block b hb⟩
theorem Fr.trans {P : Nat} {A A1 : Option Addr} {w w1 w2 : World} (h : Fr P A w w1) (hm : Mv A A1 w) (k : Fr P A1 w1 w2) : Fr P A w w2 :=
  ⟨k.os.trans h.os, k.tape.trans h.tape, k.output.trans h.output, Nat.le_trans h.size k.size, fun b hb h1 h2 => by
    rw [k.block b (Nat.lt_of_lt_of_le hb h.size) h1 ?_, h.block b hb h1 h2]
    rcases hm with hm | ⟨g, hm, hg⟩
    · rw [hm]; exact h2
    · rw [hm]; intro e; injection e with e; omega⟩
theorem Fr.below {P : Nat} {A : Option Addr} {w w' : World} (h : Fr P A w w') (hA : ∀ b, A.map Addr.block = some b → P < b) (hP : P < w.heap.size) : Below P w w' :=
  ⟨h.os, h.tape, h.output, h.size, fun b hb => h.block b (by omega) (by omega) (fun e => by have := hA b e; omega)⟩
section
variable {w w' w0 : World} {P : Nat} {R : Option Addr × Nat} {s s0 : PS}
theorem PAt.lt (h : PAt w P R s) : P < w.heap.size := by
  obtain ⟨b, o, ct, h1, _⟩ := h
  exact h1.lt
theorem PAt.above (h : PAt w P R s) {b : Nat} (hb : R.1.map Addr.block = some b) : P < b ∧ b < w.heap.size := by
  obtain ⟨_, _, _, _, _, _, _, cs, h5, _⟩ := h
  have := h5.block hb
  omega
theorem PAt.below (h : PAt w P R s) (hb : Below w.heap.size w w') : PAt w' P R s := by
  have hlt := h.lt
  obtain ⟨b, o, ct, h1, h2, h3, h4, h5⟩ := h
  exact ⟨b, o, ct, h1.below hb h1.lt, h2.below (hb.mono (by omega)), h3, h4, h5.belowAll hb⟩
theorem PAt.frame (h : PAt w P R s) (hf : Fr P R.1 w w') : Below P w w' := hf.below (fun _ hb => (h.above hb).1) h.lt
/-- A row is as it was where its block is. -/
theorem Own.same {base sz n c : Nat} {e : TypeId} {A : Option Addr} {xs : List (List Value)} (h : Own w base e sz A n c xs) (hk : ∀ b, A.map Addr.block = some b → w'.heap[b]? = w.heap[b]?) : Own w' base e sz A n c xs := by
  refine ⟨h.1, h.2.1, h.2.2.1, h.2.2.2.1, ?_⟩
  rcases h.2.2.2.2 with hn | ⟨g, cap, cur, hv, hbg, hg, rest⟩
  · exact .inl hn
  · refine .inr ⟨g, cap, cur, hv, hbg, ?_, rest⟩
    injection hv with h1
    rw [hk g (by rw [h1]; rfl)]
    exact hg
theorem OwnNods.same {base n c : Nat} {A : Option Addr} {ns : List Nod} {cs0 : List Value} (h : OwnNods w base A n c ns) (hP : Blk w P 62 cs0) (hk : ∀ b, b < w.heap.size → b ≠ P → w'.heap[b]? = w.heap[b]?) : OwnNods w' base A n c ns := by
  obtain ⟨cs, h1, h2, h3⟩ := h
  have key : ∀ {base sz n c : Nat} {e : TypeId} {A : Option Addr} {xs : List (List Value)}, Own w base e sz A n c xs → e ≠ 62 → Own w' base e sz A n c xs := fun ho he => ho.same fun b hb => hk b (ho.block hb).2 (fun e => own_ne_blk ho hP he (by rw [← e]; exact hb.symm))
  refine ⟨cs, key h1 (by decide), h2, fun k x hx => ?_⟩
  obtain ⟨Am, cm, An, cn, hy, ho, hp⟩ := h3 k x hx
  exact ⟨Am, cm, An, cn, hy, key ho (by decide), key hp (by decide)⟩
/-- The reader laid anew: what is laid is as it was at w0, the reader's own block as at w. -/
theorem PAt.re (h0 : PAt w0 P R s0) (hw : PAt w P R s) (hout : s.out = s0.out) (hf : Fr P none w0 w) (hf' : Fr P none w0 w') (hblk : w'.heap[P]? = w.heap[P]?) : PAt w' P R s := by
  obtain ⟨b0, o0, ct0, g1, g2, g3, g4, g5⟩ := h0
  obtain ⟨b, o, ct, h1, h2, h3, h4, h5⟩ := hw
  refine ⟨b, o, ct, h1.keep hblk, ?_, h3, h4, ?_⟩
  · exact h2.keep fun q oq hq => by
      have hlt := g1.lt
      have e1 := hf.block q (by omega) (by omega) (by simp)
      have e2 := hf'.block q (by omega) (by omega) (by simp)
      exact World.cell?_of_block (e2.trans e1.symm)
  · rw [hout]
    exact g5.same g1 fun q hq hne => hf'.block q hq hne (by simp)
end
theorem Fr.weak {P : Nat} {A : Option Addr} {w w' : World} (h : Fr P none w w') : Fr P A w w' := ⟨h.os, h.tape, h.output, h.size, fun b hb h1 _ => h.block b hb h1 (by simp)⟩
theorem Fr.transN {P : Nat} {w w1 w2 : World} (h : Fr P none w w1) (k : Fr P none w1 w2) : Fr P none w w2 := h.trans (Mv.refl _ _) k
/-- How a method ends that lays nothing. -/
def OkP (P : Nat) (R : Option Addr × Nat) (w : World) (s' : PS) (v : Value) (e : Ending) (w' : World) : Prop := e = .returned v ∧ PAt w' P R s' ∧ Fr P none w w'
def stopV (x : Int × Int) : List PanicEntry := [{ v := .iface 64 (.agg #[.int .i64 x.1, .int .i64 x.2]), recovered := false }]
section
variable {P : Nat} {R : Option Addr × Nat} {w : World} {s : PS} {M : Nat}
theorem PAt.head (h : PAt w P R s) (hg : PGood M s) : ∃ b o ct, w.cell? ⟨P, 0, none⟩ = some (.slice (some ⟨b, o, none⟩) s.toks.length ct) ∧ 0 < s.toks.length ∧ b < P ∧ w.cell? ⟨b, o, none⟩ = some (.int .i64 s.hd.kind) ∧ w.cell? ⟨b, o + 1, none⟩ = some (.int .i64 s.hd.at_) ∧ w.cell? ⟨b, o + 2, none⟩ = some (.string s.hd.text) ∧ w.cell? ⟨b, o + 3, none⟩ = some (.int .i64 s.hd.span) ∧
    w.cell? ⟨P, 1, none⟩ = some (.int .i64 s.deep) ∧ w.cell? ⟨P, 2, none⟩ = some (.slice R.1 s.out.length R.2) ∧ s.toks.length ≤ ct ∧ ct ≤ maxLen ∧ (∀ j, w.frozen? ⟨P, j, none⟩ = false) := by
  obtain ⟨b, o, ct, h1, h2, h3, h4, _⟩ := h
  have hc := hg.cons
  have h0 : (toksC s.toks)[0]? = some (tokC s.hd) := by rw [hc]; simp [toksC, PS.hd]
  obtain ⟨b', o', e, hb, hcell⟩ := h2.2 (by intro e; rw [e] at h0; simp at h0)
  injection e with e
  injection e with e1 e2
  subst e1 e2
  have hp := hg.pos
  exact ⟨b, o, ct, h1.cell rfl, by omega, hb, by simpa using hcell 0 _ 0 _ h0 rfl, by simpa using hcell 0 _ 1 _ h0 rfl, by simpa using hcell 0 _ 2 _ h0 rfl, by simpa using hcell 0 _ 3 _ h0 rfl, h1.cell rfl, h1.cell rfl, h3, h4, h1.frozen⟩
end
set_option maxHeartbeats 1000000 in
theorem now_any (P : Nat) (R : Option Addr × Nat) (s : PS) (M : Nat) (w : World) (hg : PGood M s) (h : PAt w P R s) :
    Calls Tryz.prog 29 #[.pointer (some ⟨P, 0, none⟩)] w fun e w' => e = .returned (.agg #[.int .i64 s.hd.kind, .int .i64 s.hd.at_, .string s.hd.text, .int .i64 s.hd.span]) ∧ Below w.heap.size w w' := by
  obtain ⟨b, o, ct, c0, hl, hbP, t0, t1, t2, t3, c1, c2, hct, hcm, hfz⟩ := h.head hg
  have hlt := h.lt
  have hlI : (0 : Int) < s.toks.length := by omega
  have hbs : b < w.heap.size := by omega
  unfold maxLen at hcm
  go_enter Tryz.func29, Tryz.ntmps29
  go_wp2_with fail
  exact bodyPost_ret (v := .agg #[.int .i64 s.hd.kind, .int .i64 s.hd.at_, .string s.hd.text, .int .i64 s.hd.span]) (by simp [results, Tryz.results29, go_sem]; try rfl) rfl ⟨rfl, by repeat (first | exact Below.refl _ _ | refine Below.alloc ?_ (by first | exact Nat.le_refl _ | (simp; done) | (simp; omega)) _ | refine Below.setCell ?_ (by first | exact Nat.le_refl _ | (simp; done) | (simp; omega)) _ | refine Below.drew ?_)⟩
set_option maxRecDepth 100000 in
set_option maxHeartbeats 1000000 in
theorem is_any (P : Nat) (R : Option Addr × Nat) (s : PS) (M : Nat) (w : World) (hg : PGood M s) (h : PAt w P R s) (k : Int) (t : ByteArray) :
    Calls Tryz.prog 94 #[.pointer (some ⟨P, 0, none⟩), .int .i64 k, .string t] w fun e w' => e = .returned (.bool (s.is k t)) ∧ Below w.heap.size w w' := by
  have HN := Lib.hid (now_any P R s M w hg h)
  by_cases hk : s.hd.kind = k
  · have HT : Hid (s.is k t = decide (s.hd.text = t)) := by show _ = _; simp [PS.is, hk]
    have hkb : (s.hd.kind == k) = true := by rw [beq_iff_eq]; exact hk
    clear hk
    go_enter Tryz.func94, Tryz.ntmps94
    go_wp2_with fail
    refine (HN.out).mono ?_
    rintro e w1 ⟨rfl, hb1⟩
    have HN1 := Lib.hid (now_any P R s M w1 hg (h.below hb1))
    have HB1 := Lib.hid hb1
    clear hb1
    go_wp2_with fail
    refine (HN1.out).mono ?_
    rintro e w2 ⟨rfl, hb2⟩
    go_wp2_with fail
    go_ret
    exact ⟨by rw [HT.out, ← beq_toList]; rfl, HB1.out.trans (hb2.mono HB1.out.size)⟩
  · have HT : Hid (s.is k t = false) := by show _ = _; simp [PS.is, hk]
    have hkb : (s.hd.kind == k) = false := by rw [beq_eq_false_iff_ne]; exact hk
    clear hk
    go_enter Tryz.func94, Tryz.ntmps94
    go_wp2_with fail
    refine (HN.out).mono ?_
    rintro e w1 ⟨rfl, hb1⟩
    go_wp2_with fail
    go_ret
    exact ⟨by rw [HT.out]; rfl, hb1⟩
set_option maxHeartbeats 1000000 in
theorem fail_any (P : Nat) (why : Int) (t : Tok) (w : World) :
    Calls Tryz.prog 63 #[.pointer (some ⟨P, 0, none⟩), .int .i64 why, .agg #[.int .i64 t.kind, .int .i64 t.at_, .string t.text, .int .i64 t.span]] w fun e w' => e = .panicked (stopV (why, t.at_)) ∧ Below w.heap.size w w' := by
  go_enter Tryz.func63, Tryz.ntmps63
  go_wp2_with fail
  exact ⟨rfl, rfl, by repeat (first | exact Below.refl _ _ | refine Below.alloc ?_ (by first | exact Nat.le_refl _ | (simp; done) | (simp; omega)) _ | refine Below.setCell ?_ (by first | exact Nat.le_refl _ | (simp; done) | (simp; omega)) _ | refine Below.drew ?_)⟩
theorem Rd.tail1 {w : World} {B sz b o : Nat} {x : List Value} {xs : List (List Value)} (h : Rd w B sz (some ⟨b, o, none⟩) (x :: xs)) : Rd w B sz (some ⟨b, o + sz, none⟩) xs := by
  refine ⟨fun y hy => h.1 y (List.mem_cons_of_mem _ hy), fun hne => ?_⟩
  obtain ⟨b', o', e, hb, hc⟩ := h.2 (by simp)
  injection e with e
  injection e with e1 e2
  subst e1 e2
  refine ⟨b, _, rfl, hb, fun k y j v hk hv => ?_⟩
  have := hc (k + 1) y j v (by simpa using hk) hv
  rw [Nat.add_mul, Nat.one_mul] at this
  rw [show o + sz + k * sz + j = o + (k * sz + sz) + j from by omega]
  exact this
theorem OwnNods.setLow {w : World} {base n c : Nat} {A : Option Addr} {ns : List Nod} (h : OwnNods w base A n c ns) {a : Addr} (ha : a.block < base) (u : Value) : OwnNods (w.setCell a u) base A n c ns := by
  obtain ⟨cs, h1, h2, h3⟩ := h
  refine ⟨cs, h1.setLow ha u, h2, fun k x hx => ?_⟩
  obtain ⟨Am, cm, An, cn, hy, ho, hp⟩ := h3 k x hx
  exact ⟨Am, cm, An, cn, hy, ho.setLow ha u, hp.setLow ha u⟩
/-- A store into the reader's block. -/
theorem Fr.setP {P : Nat} {A : Option Addr} {w w' : World} (h : Fr P A w w') (j : Nat) (u : Value) : Fr P A w (w'.setCell ⟨P, j, none⟩ u) :=
  ⟨h.os, h.tape, h.output, by simpa using h.size, fun b hb h1 h2 => (Below.heap_setCell w' ⟨P, j, none⟩ u b h1).trans (h.block b hb h1 h2)⟩
theorem Fr.alloc {P : Nat} {A : Option Addr} {w w' : World} (h : Fr P A w w') (o : Obj) : Fr P A w (w'.alloc o) :=
  ⟨h.os, h.tape, h.output, by simpa using Nat.le_succ_of_le h.size, fun b hb h1 h2 => (Below.heap_alloc w' o b (Nat.lt_of_lt_of_le hb h.size)).trans (h.block b hb h1 h2)⟩
theorem Fr.belowAll {P : Nat} {A : Option Addr} {w w1 w2 : World} (h : Fr P A w w1) (hb : Below w1.heap.size w1 w2) : Fr P A w w2 :=
  ⟨hb.os.trans h.os, hb.tape.trans h.tape, hb.output.trans h.output, Nat.le_trans h.size hb.size, fun b hlt h1 h2 => (hb.block b (Nat.lt_of_lt_of_le hlt h.size)).trans (h.block b hlt h1 h2)⟩
set_option maxHeartbeats 1000000 in
theorem on_any (P : Nat) (R : Option Addr × Nat) (s : PS) (M : Nat) (w : World) (hg : PGood M s) (h : PAt w P R s) (hk : s.hd.kind ≠ 0) :
    Calls Tryz.prog 93 #[.pointer (some ⟨P, 0, none⟩)] w (OkP P R w s.on (.agg #[.int .i64 s.hd.kind, .int .i64 s.hd.at_, .string s.hd.text, .int .i64 s.hd.span])) := by
  obtain ⟨b, o, ct, c0, hl, hbP, t0, t1, t2, t3, c1, c2, hct, hcm, hfz⟩ := h.head hg
  have hlt := h.lt
  have hl2 := hg.on_len
  have hl3 := (hg.on hk).pos
  have H := Lib.hid h
  have C0 := Lib.hid c0
  have HBB : Hid (Below (w.setCell ⟨P, 0, none⟩ (.slice (some ⟨b, o + 4, none⟩) (s.toks.length - 1) (ct - 1))).heap.size (w.setCell ⟨P, 0, none⟩ (.slice (some ⟨b, o + 4, none⟩) (s.toks.length - 1) (ct - 1))) (((w.setCell ⟨P, 0, none⟩ (.slice (some ⟨b, o + 4, none⟩) (s.toks.length - 1) (ct - 1))).alloc (.cells #[.int .i64 s.hd.kind, .int .i64 s.hd.at_, .string s.hd.text, .int .i64 s.hd.span] 67)).alloc (.cells #[.int .i64 s.hd.kind, .int .i64 s.hd.at_, .string s.hd.text, .int .i64 s.hd.span] 67))) := ((Below.refl _ _).alloc (Nat.le_refl _) _).alloc (by simp) _
  have hlI : (0 : Int) < s.toks.length := by omega
  have hlJ : (1 : Int) ≤ s.toks.length := by omega
  have hlK : (s.toks.length : Int) ≤ ct := by omega
  have hbs : b < w.heap.size := by omega
  unfold maxLen at hcm
  go_enter Tryz.func93, Tryz.ntmps93
  go_wp2_with fail
  refine bodyPost_ret (v := .agg #[.int .i64 s.hd.kind, .int .i64 s.hd.at_, .string s.hd.text, .int .i64 s.hd.span]) (by simp [results, Tryz.results93, go_sem]; try rfl) rfl ⟨rfl, PAt.below ?_ HBB.out, (((Fr.refl P none w).setP 0 _).belowAll HBB.out)⟩
  obtain ⟨b', o', ct', h1, h2, h3, h4, h5⟩ := H.out
  have c0' := h1.cell (j := 0) rfl
  rw [C0.out] at c0'
  injection c0' with c0'
  injection c0' with e1 e2 e3
  injection e1 with e1
  injection e1 with e1 e4
  subst e1 e4 e3
  have hc := hg.cons
  refine ⟨b, o + 4, ct - 1, ?_, ?_, ?_, by omega, ?_⟩
  · have := h1.set 0 (.slice (some ⟨b, o + 4, none⟩) (s.toks.length - 1) (ct - 1))
    rw [show s.toks.length - 1 = s.on.toks.length from by omega] at this ⊢
    exact this
  · rw [hc] at h2
    have := Rd.tail1 h2
    exact this.keep fun q oq hq => by
      have hne : q ≠ P := by omega
      exact World.cell?_of_block (Below.heap_setCell w ⟨P, 0, none⟩ _ q hne)
  · omega
  · exact h5.setLow (by simp) _
set_option maxHeartbeats 1000000 in
theorem stuck_any (P : Nat) (R : Option Addr × Nat) (s : PS) (M : Nat) (w : World) (hg : PGood M s) (h : PAt w P R s) :
    Calls Tryz.prog 30 #[.pointer (some ⟨P, 0, none⟩)] w fun e w' => e = .panicked (stopV s.stuck) ∧ Below w.heap.size w w' := by
  have HN := Lib.hid (now_any P R s M w hg h)
  have HF := fun (why : Int) (W : World) => Lib.hid (fail_any P why s.hd W)
  by_cases hk : s.hd.kind = 0
  · have HT : Hid (s.stuck = (180, (s.hd.at_ : Int))) := by show _ = _; simp [PS.stuck, hk]
    have hkb : (s.hd.kind == 0) = true := by rw [beq_iff_eq]; exact hk
    clear hk
    go_enter Tryz.func30, Tryz.ntmps30
    go_wp2_with fail
    refine (HN.out).mono ?_
    rintro e w1 ⟨rfl, hb1⟩
    have HN1 := Lib.hid (now_any P R s M w1 hg (h.below hb1))
    have HB1 := Lib.hid hb1
    clear hb1
    go_wp2_with fail
    refine (HN1.out).mono ?_
    rintro e w2 ⟨rfl, hb2⟩
    go_wp2_with fail
    refine ((HF _ _).out).mono ?_
    rintro e w3 ⟨rfl, hb3⟩
    go_wp2_with fail
    exact ⟨rfl, by rw [HT.out], HB1.out.trans ((hb2.mono HB1.out.size).trans (hb3.mono (Nat.le_trans HB1.out.size hb2.size)))⟩
  · have HT : Hid (s.stuck = (181, (s.hd.at_ : Int))) := by show _ = _; simp [PS.stuck, hk]
    have hkb : (s.hd.kind == 0) = false := by rw [beq_eq_false_iff_ne]; exact hk
    clear hk
    go_enter Tryz.func30, Tryz.ntmps30
    go_wp2_with fail
    refine (HN.out).mono ?_
    rintro e w1 ⟨rfl, hb1⟩
    have HN1 := Lib.hid (now_any P R s M w1 hg (h.below hb1))
    have HB1 := Lib.hid hb1
    clear hb1
    go_wp2_with fail
    refine (HN1.out).mono ?_
    rintro e w2 ⟨rfl, hb2⟩
    go_wp2_with fail
    refine ((HF _ _).out).mono ?_
    rintro e w3 ⟨rfl, hb3⟩
    go_wp2_with fail
    exact ⟨rfl, by rw [HT.out], HB1.out.trans ((hb2.mono HB1.out.size).trans (hb3.mono (Nat.le_trans HB1.out.size hb2.size)))⟩
/-- The reader behind w, where nothing has been laid since. -/
def StQ (P : Nat) (R : Option Addr × Nat) (w0 : World) (s : PS) (w : World) : Prop := PAt w P R s ∧ Fr P none w0 w
section
variable {P : Nat} {R : Option Addr × Nat} {w0 w w' : World} {s s' : PS}
theorem StQ.start (h : PAt w P R s) : StQ P R w s w := ⟨h, Fr.refl _ _ _⟩
theorem StQ.below (h : StQ P R w0 s w) (hb : Below w.heap.size w w') : StQ P R w0 s w' := ⟨h.1.below hb, h.2.belowAll hb⟩
theorem StQ.next (h : StQ P R w0 s w) (k : StQ P R w s' w') : StQ P R w0 s' w' := ⟨k.1, h.2.transN k.2⟩
end
/-- The reader as it stands behind w0, where the row lay at R0. -/
def St (P : Nat) (R0 : Option Addr × Nat) (w0 : World) (R : Option Addr × Nat) (s : PS) (w : World) : Prop := PAt w P R s ∧ Fr P R0.1 w0 w ∧ Mv R0.1 R.1 w0
section
variable {P : Nat} {R0 R : Option Addr × Nat} {w0 w w' : World} {s s' : PS} {x : Int × Int}
theorem St.start (h : PAt w P R s) : St P R w R s w := ⟨h, Fr.refl _ _ _, Mv.refl _ _⟩
theorem St.below (h : St P R0 w0 R s w) (hb : Below w.heap.size w w') : St P R0 w0 R s w' := ⟨h.1.below hb, h.2.1.belowAll hb, h.2.2⟩
theorem St.next {R1 : Option Addr × Nat} (h : St P R0 w0 R s w) (k : St P R w R1 s' w') : St P R0 w0 R1 s' w' := ⟨k.1, h.2.1.trans h.2.2 k.2.1, h.2.2.trans k.2.2 h.2.1.size⟩
theorem St.fail (h : St P R0 w0 R s w) (k : Fr P R.1 w w') : Fr P R0.1 w0 w' := h.2.1.trans h.2.2 k
theorem St.failB (h : St P R0 w0 R s w) (hb : Below w.heap.size w w') : Fr P R0.1 w0 w' := h.2.1.belowAll hb
theorem StQ.st (h : StQ P R w s' w') : St P R w R s' w' := ⟨h.1, h.2.weak, Mv.refl _ _⟩
theorem St.quiet (h : St P R0 w0 R s w) (k : StQ P R w s' w') : St P R0 w0 R s' w' := h.next k.st
theorem St.failQ (h : St P R0 w0 R s w) (k : Fr P none w w') : Fr P R0.1 w0 w' := h.fail k.weak
end
/-- How a method ends that lays nothing and has no result. -/
def ResQ (P : Nat) (R : Option Addr × Nat) (w0 : World) : Rp PS → Ending → World → Prop
  | .ok s', e, w' => e = .returned (.tuple #[]) ∧ StQ P R w0 s' w'
  | .error x, e, w' => e = .panicked (stopV x) ∧ Fr P none w0 w'
/-- How a part of the grammar ends. -/
def ResS (P : Nat) (R0 : Option Addr × Nat) (w0 : World) : Rp PS → Ending → World → Prop
  | .ok s', e, w' => e = .returned (.tuple #[]) ∧ ∃ R', St P R0 w0 R' s' w'
  | .error x, e, w' => e = .panicked (stopV x) ∧ Fr P R0.1 w0 w'
theorem ResS.st {P : Nat} {R0 R : Option Addr × Nat} {w0 w : World} {s : PS} {r : Rp PS} {e : Ending} {w' : World} (hS : St P R0 w0 R s w) (h : ResS P R w r e w') : ResS P R0 w0 r e w' := by
  cases r with
  | ok s' =>
    obtain ⟨h1, R', h2⟩ := h
    exact ⟨h1, R', hS.next h2⟩
  | error x =>
    obtain ⟨h1, h2⟩ := h
    exact ⟨h1, hS.fail h2⟩
/-- What a part of the grammar is: the method f reads as p says. -/
def PartC (P M : Nat) (f : FuncId) (args : Array Value) (p : PS → Rp PS) (q : PS → Prop) : Prop :=
  ∀ (M' : Nat) (R : Option Addr × Nat) (s : PS) (w : World), M' ≤ M → PGood M' s → q s → PAt w P R s → Calls Tryz.prog f args w (ResS P R w (p s))
theorem PartC.st {P M : Nat} {f : FuncId} {args : Array Value} {p : PS → Rp PS} {q : PS → Prop} (h : PartC P M f args p q) {M' : Nat} {R0 R : Option Addr × Nat} {s : PS} {w0 w : World} (hM : M' ≤ M) (hg : PGood M' s) (hq : q s) (hS : St P R0 w0 R s w) :
    Calls Tryz.prog f args w (ResS P R0 w0 (p s)) := (h M' R s w hM hg hq hS.1).mono fun _ _ hr => ResS.st hS hr
section
variable {P M : Nat} {R : Option Addr × Nat} {w0 w : World} {s : PS}
theorem is_st (hg : PGood M s) (h : StQ P R w0 s w) (k : Int) (t : ByteArray) :
    Calls Tryz.prog 94 #[.pointer (some ⟨P, 0, none⟩), .int .i64 k, .string t] w fun e w' => e = .returned (.bool (s.is k t)) ∧ StQ P R w0 s w' := (is_any P R s M w hg h.1 k t).mono fun _ _ ⟨h1, h2⟩ => ⟨h1, h.below h2⟩
theorem now_st (hg : PGood M s) (h : StQ P R w0 s w) :
    Calls Tryz.prog 29 #[.pointer (some ⟨P, 0, none⟩)] w fun e w' => e = .returned (.agg #[.int .i64 s.hd.kind, .int .i64 s.hd.at_, .string s.hd.text, .int .i64 s.hd.span]) ∧ StQ P R w0 s w' := (now_any P R s M w hg h.1).mono fun _ _ ⟨h1, h2⟩ => ⟨h1, h.below h2⟩
theorem stuck_st (hg : PGood M s) (h : StQ P R w0 s w) :
    Calls Tryz.prog 30 #[.pointer (some ⟨P, 0, none⟩)] w fun e w' => e = .panicked (stopV s.stuck) ∧ Fr P none w0 w' := (stuck_any P R s M w hg h.1).mono fun _ _ ⟨h1, h2⟩ => ⟨h1, h.2.belowAll h2⟩
theorem fail_st (h : StQ P R w0 s w) (why : Int) (t : Tok) :
    Calls Tryz.prog 63 #[.pointer (some ⟨P, 0, none⟩), .int .i64 why, .agg #[.int .i64 t.kind, .int .i64 t.at_, .string t.text, .int .i64 t.span]] w fun e w' => e = .panicked (stopV (why, t.at_)) ∧ Fr P none w0 w' := (fail_any P why t w).mono fun _ _ ⟨h1, h2⟩ => ⟨h1, h.2.belowAll h2⟩
theorem on_st (hg : PGood M s) (h : StQ P R w0 s w) (hk : s.hd.kind ≠ 0) :
    Calls Tryz.prog 93 #[.pointer (some ⟨P, 0, none⟩)] w fun e w' => e = .returned (.agg #[.int .i64 s.hd.kind, .int .i64 s.hd.at_, .string s.hd.text, .int .i64 s.hd.span]) ∧ StQ P R w0 s.on w' := (on_any P R s M w hg h.1 hk).mono fun _ _ ⟨h1, h2, h3⟩ => ⟨h1, h.next ⟨h2, h3⟩⟩
set_option maxHeartbeats 1000000 in
theorem psign_st (hg : PGood M s) (h : StQ P R w0 s w) (t : ByteArray) :
    Calls Tryz.prog 134 #[.pointer (some ⟨P, 0, none⟩), .string t] w (ResQ P R w0 (s.sign t)) := by
  have HI := Lib.hid (is_st hg h 5 t)
  by_cases hi : s.is 5 t = true
  · have HT : Hid (s.sign t = .ok s.on) := by show _ = _; rw [PS.sign, if_pos hi]
    have hk : s.hd.kind ≠ 0 := by rw [is_kind hi]; decide
    rw [hi] at HI
    have HO := fun (W : World) (h : StQ P R w0 s W) => Lib.hid (on_st hg h hk)
    clear hi hk
    go_enter Tryz.func134, Tryz.ntmps134
    go_wp2_with fail
    refine (HI.out).mono ?_
    rintro e w1 ⟨rfl, hS⟩
    go_wp2_with fail
    refine ((HO _ hS).out).mono ?_
    rintro e w2 ⟨rfl, hS2⟩
    go_wp2_with fail
    go_end0
    rw [HT.out]
    exact ⟨rfl, hS2⟩
  · have HT : Hid (s.sign t = .error s.stuck) := by show _ = _; rw [PS.sign, if_neg hi]
    rw [Bool.not_eq_true] at hi
    rw [hi] at HI
    have HK := fun (W : World) (h : StQ P R w0 s W) => Lib.hid (stuck_st hg h)
    clear hi
    go_enter Tryz.func134, Tryz.ntmps134
    go_wp2_with fail
    refine (HI.out).mono ?_
    rintro e w1 ⟨rfl, hS⟩
    go_wp2_with fail
    refine ((HK _ hS).out).mono ?_
    rintro e w2 ⟨rfl, hS2⟩
    go_wp2_with fail
    refine ⟨rfl, ?_⟩
    rw [HT.out]
    exact ⟨rfl, hS2⟩
end
end
section
/-! ## ParX -/
open Go.RowKit
attribute [local go_sem ↓] Go.wp_at_zero Go.wp_at_succ tok_f0 tok_f2 tok_f3

theorem PAt.parts {w : World} {P : Nat} {R : Option Addr × Nat} {s : PS} (h : PAt w P R s) : ∃ b o ct cs, Blk w P 62 [.slice (some ⟨b, o, none⟩) s.toks.length ct, .int .i64 s.deep, .slice R.1 s.out.length R.2] ∧ Rd w P 4 (some ⟨b, o, none⟩) (toksC s.toks) ∧ s.toks.length ≤ ct ∧ ct ≤ maxLen ∧ Own w (P + 1) 41 10 R.1 s.out.length R.2 cs ∧ s.out.length = s.out.length ∧
    ∀ (k : Nat) (x : Nod), s.out[k]? = some x → ∃ Am cm An cn, cs[k]? = some (nodC x Am cm An cn) ∧ Own w (P + 1) 37 3 Am x.mat.length cm (matsC x.mat) ∧ Own w (P + 1) 9 1 An x.names.length cn (textsC x.names) := by
  obtain ⟨b, o, ct, h1, h2, h3, h4, cs, h5, h6, h7⟩ := h
  exact ⟨b, o, ct, cs, h1, h2, h3, h4, h5, h6, h7⟩
theorem Fr.grown {P : Nat} {A : Option Addr} {w w1 w2 : World} (h : Fr P A w w1) (hg : w1.grownBy w2 (A.map Addr.block)) : Fr P A w w2 :=
  ⟨hg.os.trans h.os, hg.tape.trans h.tape, hg.output.trans h.output, Nat.le_trans h.size hg.size, fun b hlt h1 h2 => (hg.block b (Nat.lt_of_lt_of_le hlt h.size) (Ne.symm h2)).trans (h.block b hlt h1 h2)⟩
theorem lay_end {P : Nat} {A A' : Option Addr} {s : PS} {w W1 w3 : World} {x : Nod} {Am An : Option Addr} {cm cn b o ct co c' : Nat} {cs : List (List Value)} (hB : Below w.heap.size w W1) (_hP : P < w.heap.size)
    (bP : Blk W1 P 62 [.slice (some ⟨b, o, none⟩) s.toks.length ct, .int .i64 s.deep, .slice A s.out.length co]) (hT : Rd W1 P 4 (some ⟨b, o, none⟩) (toksC s.toks)) (hct : s.toks.length ≤ ct) (hcm : ct ≤ maxLen)
    (hO : Own W1 (P + 1) 41 10 A s.out.length co cs) (h7 : ∀ (k : Nat) (x : Nod), s.out[k]? = some x → ∃ Am cm An cn, cs[k]? = some (nodC x Am cm An cn) ∧ Own W1 (P + 1) 37 3 Am x.mat.length cm (matsC x.mat) ∧ Own W1 (P + 1) 9 1 An x.names.length cn (textsC x.names))
    (hm : Own W1 (P + 1) 37 3 Am x.mat.length cm (matsC x.mat)) (hn : Own W1 (P + 1) 9 1 An x.names.length cn (textsC x.names))
    (ho : Own w3 (P + 1) 41 10 A' (s.out.length + 1) c' (cs ++ [nodC x Am cm An cn])) (hg : W1.grownBy w3 (A.map Addr.block)) (hat : A'.map Addr.block = A.map Addr.block ∨ A'.map Addr.block = some W1.heap.size) (hb : Below (P + 1) W1 w3) (hne : some P ≠ A.map Addr.block) :
    St P (A, co) w (A', c') (s.lay x) (w3.setCell ⟨P, 2, none⟩ (.slice A' (s.out.length + 1) c')) := by
  have hl : (s.lay x).out.length = s.out.length + 1 := by simp [PS.lay]
  refine ⟨⟨b, o, ct, ?_, ?_, hct, hcm, ?_⟩, ((Fr.of_below hB).grown hg).setP 2 _, ?_⟩
  · rw [hl]
    exact (bP.grown hg hne).set 2 _
  · exact (hT.below (hb.mono (by omega))).keep fun q oq hq => World.cell?_of_block (Below.heap_setCell w3 ⟨P, 2, none⟩ _ q (show q ≠ P by omega))
  · rw [hl]
    exact (OwnNods.snoc rfl h7 hO ho hm hn hg).setLow (by simp) _
  · rcases hat with hat | hat
    · exact .inl hat
    · exact .inr ⟨_, hat, hB.size⟩
theorem Own.drew' {w : World} {base sz n c : Nat} {e : TypeId} {A : Option Addr} {xs : List (List Value)} (h : Own w base e sz A n c xs) (o : Obj) : Own (w.drew.alloc o) base e sz A n c xs := h.drew.alloc o
set_option maxRecDepth 100000 in
set_option maxHeartbeats 2000000 in
theorem pnode_any (P : Nat) (R : Option Addr × Nat) (s : PS) (w : World) (h : PAt w P R s) (x : Nod) (Am An : Option Addr) (cm cn : Nat) (hm : Own w (P + 1) 37 3 Am x.mat.length cm (matsC x.mat)) (hn : Own w (P + 1) 9 1 An x.names.length cn (textsC x.names)) (hl : s.out.length ≤ 1000000) :
    Calls Tryz.prog 96 #[.pointer (some ⟨P, 0, none⟩), .agg #[.int .i64 x.kind, .int .i64 x.op, .string x.text, .slice Am x.mat.length cm, .int .i64 x.width, .int .i64 x.back, .int .i64 x.grp, .slice An x.names.length cn, .bool x.cmp, .int .i64 x.parts]] w fun e w' => e = .returned (.tuple #[]) ∧ ∃ R', St P R w R' (s.lay x) w' := by
  obtain ⟨A, co⟩ := R
  go_enter Tryz.func96, Tryz.ntmps96
  go_wp2_with fail
  generalize hW : World.alloc _ _ = W0
  have bX : Blk W0 w.heap.size 41 (nodC x Am cm An cn) := by rw [← hW]; exact Blk.new w _ _
  have hb0 : Below w.heap.size w W0 := by rw [← hW]; exact (Below.refl _ _).alloc (Nat.le_refl _) _
  clear hW
  have hPlt := h.lt
  have h0 := h.below hb0
  have hm0 := hm.belowAll hb0
  have hn0 := hn.belowAll hb0
  have hA := fun b (hb : A.map Addr.block = some b) => h.above hb
  have HB0 := Lib.hid hb0
  clear hm hn h hb0
  obtain ⟨b, o, ct, cs, bP, hT, hct, hcm, hO, h6, h7⟩ := h0.parts
  simp only at bP hO
  have hz0 := bX.lt
  have hPX : P ≠ w.heap.size := by omega
  have hX : Rd ((W0.drew).alloc (.cells #[.int .i64 x.kind, .int .i64 x.op, .string x.text, .slice Am x.mat.length cm, .int .i64 x.width, .int .i64 x.back, .int .i64 x.grp, .slice An x.names.length cn, .bool x.cmp, .int .i64 x.parts] 41)) (W0.heap.size + 1) 10 (some ⟨W0.heap.size, 0, none⟩) [nodC x Am cm An cn] := Rd.nod x Am cm An cn rfl
  have HO := Lib.hid hO
  have H7 := Lib.hid h7
  have HT := Lib.hid hT
  have HX := Lib.hid hX
  have HM := Lib.hid hm0
  have HNn := Lib.hid hn0
  have hne : some P ≠ A.map Addr.block := fun e => by have := hA P e.symm; omega
  have hneX : some w.heap.size ≠ A.map Addr.block := fun e => by have := hA _ e.symm; omega
  clear hO h7 hT hX hm0 hn0 h0
  have p2 := bP.cell (j := 2) rfl
  have hfz := bP.frozen
  have hPl := bP.lt
  have x0 := bX.cell (j := 0) rfl
  have x1 := bX.cell (j := 1) rfl
  have x2 := bX.cell (j := 2) rfl
  have x3 := bX.cell (j := 3) rfl
  have x4 := bX.cell (j := 4) rfl
  have x5 := bX.cell (j := 5) rfl
  have x6 := bX.cell (j := 6) rfl
  have x7 := bX.cell (j := 7) rfl
  have x8 := bX.cell (j := 8) rfl
  have x9 := bX.cell (j := 9) rfl
  go_region_law ((refine step_append_rd _ (by rfl) _ _ _ (by rfl) eiNod (by rfl) (HO.out.drew.alloc _) (m := 1) (by rfl) HX.out rfl (one_nod x Am cm An cn) (by simp only [maxLen]; omega) (by omega) (by simp; omega) ?_; intro A' c' w3 ho3 hg3 hat3 hb3; have bP3 := ((bP.drewN 1).alloc _).grown hg3 hne; have hfz3 := bP3.frozen; have hp3 := bP3.cell (j := 2) rfl))
  all_goals
    go_end0
    exact ⟨rfl, (A', c'), lay_end ((HB0.out.drew).alloc (by have := HB0.out.size; simpa using this) _) hPlt ((bP.drewN 1).alloc _) ((show Rd W0.drew P 4 _ _ from HT.out).below ((Below.refl _ _).alloc (by simp; omega) _)) hct hcm (HO.out.drew' _) (fun k y hy => by
      obtain ⟨a1, a2, a3, a4, h1, h2, h3⟩ := H7.out k y hy
      exact ⟨a1, a2, a3, a4, h1, h2.drew' _, h3.drew' _⟩) (HM.out.drew' _) (HNn.out.drew' _) ho3 hg3 hat3 hb3 hne⟩
end
section
/-! ## ParN -/
open Go.RowKit

theorem numF_at {w : ByteArray} : ∀ (l : List ByteArray) (st k : Nat) (x : ByteArray), (∀ j y, j < k → l[j]? = some y → ¬ (y = w ∧ w ≠ ByteArray.empty)) → l[k]? = some x → x = w → w ≠ ByteArray.empty → numF st l w = ((st + k : Nat) : Int)
  | [], st, k, x, _, hx, _, _ => by simp at hx
  | y :: r, st, 0, x, _, hx, he, hw => by
    simp at hx
    subst hx
    rw [numF, if_pos ⟨he, hw⟩]
    simp
  | y :: r, st, k + 1, x, hb, hx, he, hw => by
    rw [numF, if_neg (hb 0 y (by omega) rfl), numF_at r (st + 1) k x (fun j z hj hz => hb (j + 1) z (by omega) (by simpa using hz)) (by simpa using hx) he hw]
    congr 1
    omega
theorem numF_none {w : ByteArray} : ∀ (l : List ByteArray) (st : Nat), (∀ j y, j < l.length → l[j]? = some y → ¬ (y = w ∧ w ≠ ByteArray.empty)) → numF st l w = 0
  | [], _, _ => rfl
  | y :: r, st, hb => by
    rw [numF, if_neg (hb 0 y (by simp) rfl)]
    exact numF_none r (st + 1) fun j z hj hz => hb (j + 1) z (Nat.succ_lt_succ hj) (by simpa using hz)
theorem num_step {l : List ByteArray} {w : ByteArray} {k : Nat} {x : ByteArray} (hb : Hid (∀ j y, j < k → l[j]? = some y → ¬ (y = w ∧ w ≠ ByteArray.empty))) (h : l[k]? = some x) (he : ¬ (x = w ∧ w ≠ ByteArray.empty)) : Hid (∀ j y, j < k + 1 → l[j]? = some y → ¬ (y = w ∧ w ≠ ByteArray.empty)) := by
  intro j y hj hy
  by_cases e : j = k
  · subst e
    rw [h] at hy
    injection hy with hy
    subst hy
    exact he
  · exact hb j y (by omega) hy
theorem empty_size {w : ByteArray} : w = ByteArray.empty ↔ ¬ 1 ≤ w.size := by
  constructor
  · rintro rfl; decide
  · intro h
    apply WideShapes.bytes_inj
    have : w.data.toList = [] := by
      apply List.eq_nil_of_length_eq_zero
      have := Lib.size_eq w
      omega
    rw [this]
    rfl
set_option maxHeartbeats 1000000 in
theorem number_any_p (l : List ByteArray) (wd : ByteArray) (A : Option Addr) (n c B : Nat) (w : World) (hr : Rd w B 1 A (textsC l)) (hn : l.length = n) (hm : n ≤ maxLen) :
    Calls Tryz.prog 91 #[.slice A n c, .string wd] w fun e w' => e = .returned (.int .i64 (numW l wd)) ∧ w = w' := by
  unfold maxLen at hm
  have Hn := Lib.hid hn
  clear hn
  by_cases hw : 1 ≤ wd.size
  · have hwe : wd.toList.isEmpty = false := isEmpty_no hw
    have hwn : wd ≠ ByteArray.empty := fun e => empty_size.1 e hw
    have HW := Lib.hid hwn
    clear hwn
    go_enter Tryz.func91, Tryz.ntmps91
    go_wp2_with fail
    go_loop [9] (fun i => ∃ k : Nat, i = .int .i64 k ∧ k ≤ n ∧ Hid (∀ j y, j < k → l[j]? = some y → ¬ (y = wd ∧ wd ≠ ByteArray.empty))) (fun i => n - (intOf i).toNat)
    case atStart => exact ⟨0, rfl, by omega, fun j m hj => by omega⟩
    case round =>
      obtain ⟨k, rfl, hk, HA⟩ := hrel
      by_cases hlt : k < n
      · obtain ⟨x, hl⟩ := get_lt Hn hlt
        obtain ⟨b, o, rfl, hbB, g0⟩ := hr.at1 (textsC_at hl)
        have hltI : (k : Int) < (n : Int) := by omega
        by_cases he : x = wd
        · have HT : Hid (numW l wd = (k : Int)) := by show _ = _; rw [numW, numF_at l 0 k x HA.out hl he HW.out]; simp
          have heb : (x.toList == wd.toList) = true := by rw [beq_toList]; exact decide_eq_true he
          clear hl he HA
          go_wp2_with fail
          go_ret
          exact ⟨ret_int HT.out.symm, rfl⟩
        · have heb : (x.toList == wd.toList) = false := by rw [beq_toList]; exact decide_eq_false he
          have HA2 := num_step HA hl (fun h => he h.1)
          clear hl he HA
          go_wp2_with fail
          go_round
          case rel => exact ⟨k + 1, by go_num, by omega, HA2⟩
          case measure => simp [intOf]; omega
      · have hkn : k = n := by omega
        subst hkn
        have HT : Hid (numW l wd = 0) := numF_none l 0 (fun j y hj hy => HA.out j y (by have := Hn.out; omega) hy)
        go_wp2_with fail
        go_ret
        exact ⟨ret_int HT.out.symm, rfl⟩
  · have hwe : wd.toList.isEmpty = true := isEmpty_yes hw
    have hw0 := empty_size.2 hw
    have HT : Hid (numW l wd = 0) := numF_none l 0 (fun j y hj hy h => h.2 hw0)
    clear hw0
    go_enter Tryz.func91, Tryz.ntmps91
    go_wp2_with fail
    go_loop [9] (fun i => ∃ k : Nat, i = .int .i64 k ∧ k ≤ n) (fun i => n - (intOf i).toNat)
    case atStart => exact ⟨0, rfl, by omega⟩
    case round =>
      obtain ⟨k, rfl, hk⟩ := hrel
      by_cases hlt : k < n
      · obtain ⟨x, hl⟩ := get_lt Hn hlt
        obtain ⟨b, o, rfl, hbB, g0⟩ := hr.at1 (textsC_at hl)
        have hltI : (k : Int) < (n : Int) := by omega
        clear hl
        by_cases he : x = wd
        · have heb : (x.toList == wd.toList) = true := by rw [beq_toList]; exact decide_eq_true he
          clear he
          go_wp2_with fail
          go_round
          case rel => exact ⟨k + 1, by go_num, by omega⟩
          case measure => simp [intOf]; omega
        · have heb : (x.toList == wd.toList) = false := by rw [beq_toList]; exact decide_eq_false he
          clear he
          go_wp2_with fail
          go_round
          case rel => exact ⟨k + 1, by go_num, by omega⟩
          case measure => simp [intOf]; omega
      · have hkn : k = n := by omega
        subst hkn
        go_wp2_with fail
        go_ret
        exact ⟨ret_int HT.out.symm, rfl⟩
/-- A list of words, newly made. -/
def WordsOut (l : List ByteArray) (n : Nat) (w : World) (e : Ending) (w' : World) : Prop := e = .returned (.slice (some ⟨w.heap.size, 0, none⟩) n n) ∧ Rd w' (w.heap.size + 1) 1 (some ⟨w.heap.size, 0, none⟩) (textsC l) ∧ Below w.heap.size w w'
set_option maxHeartbeats 1000000 in
theorem pops_any (w : World) : Calls Tryz.prog 92 #[] w (WordsOut opsL 14 w) := by
  go_enter Tryz.func92, Tryz.ntmps92
  go_wp2_with fail
  go_ret
  exact ⟨rfl, Rd.new w (textsC_sz _) _ rfl, (Below.refl _ _).alloc (Nat.le_refl _) _⟩
set_option maxHeartbeats 1000000 in
theorem pfuncs_any (w : World) : Calls Tryz.prog 83 #[] w (WordsOut funcsL 13 w) := by
  go_enter Tryz.func83, Tryz.ntmps83
  go_wp2_with fail
  go_ret
  exact ⟨rfl, Rd.new w (textsC_sz _) _ rfl, (Below.refl _ _).alloc (Nat.le_refl _) _⟩
set_option maxHeartbeats 1000000 in
theorem paggs_any (w : World) : Calls Tryz.prog 112 #[] w (WordsOut aggsL 6 w) := by
  go_enter Tryz.func112, Tryz.ntmps112
  go_wp2_with fail
  go_ret
  exact ⟨rfl, Rd.new w (textsC_sz _) _ rfl, (Below.refl _ _).alloc (Nat.le_refl _) _⟩
theorem numops_any (wd : ByteArray) (w : World) (g : Nat) (hr : Rd w (g + 1) 1 (some ⟨g, 0, none⟩) (textsC opsL)) :
    Calls Tryz.prog 91 #[.slice (some ⟨g, 0, none⟩) 14 14, .string wd] w fun e w' => e = .returned (.int .i64 (numW opsL wd)) ∧ w = w' := number_any_p opsL wd (some ⟨g, 0, none⟩) 14 14 (g + 1) w hr rfl (by simp [maxLen])
theorem numfuncs_any (wd : ByteArray) (w : World) (g : Nat) (hr : Rd w (g + 1) 1 (some ⟨g, 0, none⟩) (textsC funcsL)) :
    Calls Tryz.prog 91 #[.slice (some ⟨g, 0, none⟩) 13 13, .string wd] w fun e w' => e = .returned (.int .i64 (numW funcsL wd)) ∧ w = w' := number_any_p funcsL wd (some ⟨g, 0, none⟩) 13 13 (g + 1) w hr rfl (by simp [maxLen])
theorem numaggs_any (wd : ByteArray) (w : World) (g : Nat) (hr : Rd w (g + 1) 1 (some ⟨g, 0, none⟩) (textsC aggsL)) :
    Calls Tryz.prog 91 #[.slice (some ⟨g, 0, none⟩) 6 6, .string wd] w fun e w' => e = .returned (.int .i64 (numW aggsL wd)) ∧ w = w' := number_any_p aggsL wd (some ⟨g, 0, none⟩) 6 6 (g + 1) w hr rfl (by simp [maxLen])
theorem numF_nonneg (w : ByteArray) : ∀ (l : List ByteArray) (st : Nat), 0 ≤ numF st l w
  | [], _ => by simp [numF]
  | x :: r, st => by
    rw [numF]
    split
    · omega
    · exact numF_nonneg w r (st + 1)
theorem numF_le (w : ByteArray) : ∀ (l : List ByteArray) (st : Nat), numF st l w ≤ ((st + l.length : Nat) : Int)
  | [], st => by simp [numF]
  | x :: r, st => by
    rw [numF]
    split
    · simp only [List.length_cons]; omega
    · have := numF_le w r (st + 1)
      simp only [List.length_cons]
      omega
theorem numW_bd (l : List ByteArray) (w : ByteArray) : 0 ≤ numW l w ∧ numW l w ≤ l.length := by
  have := numF_le w l 0
  exact ⟨numF_nonneg w l 0, by rw [numW]; simpa using this⟩
end
section
/-! ## ParM -/
open Go.RowKit
attribute [local go_sem ↓] tok_f0 tok_f2 tok_f3

theorem lit_toList (l : List UInt8) : (⟨l.toArray⟩ : ByteArray).toList = l := by rw [Lib.toList_data]
theorem beq_lit (t : ByteArray) (l : List UInt8) (h : ¬ t = ⟨l.toArray⟩) : (t.toList == l) = false := by
  have h1 := beq_toList (a := t) (b := ⟨l.toArray⟩)
  rw [decide_eq_false h] at h1
  have e := lit_toList l
  rw [e] at h1
  exact h1
theorem keptB_in {w : ByteArray} (h : w ∈ keptL) : keptB w = true := by
  have : keptL.any (fun x => decide (w = x)) = true := by
    rw [List.any_eq_true]
    exact ⟨w, h, by simp⟩
  simp [keptB, this]
theorem keptB_out {w : ByteArray} (h : w ∉ keptL) : keptB w = (decide (0 < numW funcsL w) || decide (0 < numW aggsL w)) := by
  have : keptL.any (fun x => decide (w = x)) = false := by
    rw [List.any_eq_false]
    intro x hx
    simp only [decide_eq_true_eq]
    rintro rfl
    exact h hx
  simp [keptB, this]
set_option maxHeartbeats 2000000 in
theorem kept_any (t : ByteArray) (w : World) : Calls Tryz.prog 79 #[.string t] w fun e w' => e = .returned (.bool (keptB t)) ∧ Below w.heap.size w w' := by
  by_cases eor : t = ⟨#[111, 114]⟩
  · subst eor
    have HT : Hid (keptB ⟨#[111, 114]⟩ = true) := keptB_in (by simp [keptL, sOr, sAnd, sUnless, sBool, sOn, sIgn, sBy, sWithout, sOffset])
    go_enter Tryz.func79, Tryz.ntmps79
    go_wp2_with fail
    go_ret
    exact ⟨ret_bool HT.out.symm, Below.refl _ _⟩
  by_cases eand : t = ⟨#[97, 110, 100]⟩
  · subst eand
    have HT : Hid (keptB ⟨#[97, 110, 100]⟩ = true) := keptB_in (by simp [keptL, sOr, sAnd, sUnless, sBool, sOn, sIgn, sBy, sWithout, sOffset])
    go_enter Tryz.func79, Tryz.ntmps79
    go_wp2_with fail
    go_ret
    exact ⟨ret_bool HT.out.symm, Below.refl _ _⟩
  by_cases eunless : t = ⟨#[117, 110, 108, 101, 115, 115]⟩
  · subst eunless
    have HT : Hid (keptB ⟨#[117, 110, 108, 101, 115, 115]⟩ = true) := keptB_in (by simp [keptL, sOr, sAnd, sUnless, sBool, sOn, sIgn, sBy, sWithout, sOffset])
    go_enter Tryz.func79, Tryz.ntmps79
    go_wp2_with fail
    go_ret
    exact ⟨ret_bool HT.out.symm, Below.refl _ _⟩
  by_cases ebool : t = ⟨#[98, 111, 111, 108]⟩
  · subst ebool
    have HT : Hid (keptB ⟨#[98, 111, 111, 108]⟩ = true) := keptB_in (by simp [keptL, sOr, sAnd, sUnless, sBool, sOn, sIgn, sBy, sWithout, sOffset])
    go_enter Tryz.func79, Tryz.ntmps79
    go_wp2_with fail
    go_ret
    exact ⟨ret_bool HT.out.symm, Below.refl _ _⟩
  by_cases eon : t = ⟨#[111, 110]⟩
  · subst eon
    have HT : Hid (keptB ⟨#[111, 110]⟩ = true) := keptB_in (by simp [keptL, sOr, sAnd, sUnless, sBool, sOn, sIgn, sBy, sWithout, sOffset])
    go_enter Tryz.func79, Tryz.ntmps79
    go_wp2_with fail
    go_ret
    exact ⟨ret_bool HT.out.symm, Below.refl _ _⟩
  by_cases eignoring : t = ⟨#[105, 103, 110, 111, 114, 105, 110, 103]⟩
  · subst eignoring
    have HT : Hid (keptB ⟨#[105, 103, 110, 111, 114, 105, 110, 103]⟩ = true) := keptB_in (by simp [keptL, sOr, sAnd, sUnless, sBool, sOn, sIgn, sBy, sWithout, sOffset])
    go_enter Tryz.func79, Tryz.ntmps79
    go_wp2_with fail
    go_ret
    exact ⟨ret_bool HT.out.symm, Below.refl _ _⟩
  by_cases eby : t = ⟨#[98, 121]⟩
  · subst eby
    have HT : Hid (keptB ⟨#[98, 121]⟩ = true) := keptB_in (by simp [keptL, sOr, sAnd, sUnless, sBool, sOn, sIgn, sBy, sWithout, sOffset])
    go_enter Tryz.func79, Tryz.ntmps79
    go_wp2_with fail
    go_ret
    exact ⟨ret_bool HT.out.symm, Below.refl _ _⟩
  by_cases ewithout : t = ⟨#[119, 105, 116, 104, 111, 117, 116]⟩
  · subst ewithout
    have HT : Hid (keptB ⟨#[119, 105, 116, 104, 111, 117, 116]⟩ = true) := keptB_in (by simp [keptL, sOr, sAnd, sUnless, sBool, sOn, sIgn, sBy, sWithout, sOffset])
    go_enter Tryz.func79, Tryz.ntmps79
    go_wp2_with fail
    go_ret
    exact ⟨ret_bool HT.out.symm, Below.refl _ _⟩
  by_cases eoffset : t = ⟨#[111, 102, 102, 115, 101, 116]⟩
  · subst eoffset
    have HT : Hid (keptB ⟨#[111, 102, 102, 115, 101, 116]⟩ = true) := keptB_in (by simp [keptL, sOr, sAnd, sUnless, sBool, sOn, sIgn, sBy, sWithout, sOffset])
    go_enter Tryz.func79, Tryz.ntmps79
    go_wp2_with fail
    go_ret
    exact ⟨ret_bool HT.out.symm, Below.refl _ _⟩
  have HT := Lib.hid (keptB_out (w := t) (by simp only [keptL, List.mem_cons, List.not_mem_nil, or_false, not_or]; exact ⟨eor, eand, eunless, ebool, eon, eignoring, eby, ewithout, eoffset⟩))
  have bor : (t.toList == [111, 114]) = false := beq_lit t _ eor
  have band : (t.toList == [97, 110, 100]) = false := beq_lit t _ eand
  have bunless : (t.toList == [117, 110, 108, 101, 115, 115]) = false := beq_lit t _ eunless
  have bbool : (t.toList == [98, 111, 111, 108]) = false := beq_lit t _ ebool
  have bon : (t.toList == [111, 110]) = false := beq_lit t _ eon
  have bignoring : (t.toList == [105, 103, 110, 111, 114, 105, 110, 103]) = false := beq_lit t _ eignoring
  have bby : (t.toList == [98, 121]) = false := beq_lit t _ eby
  have bwithout : (t.toList == [119, 105, 116, 104, 111, 117, 116]) = false := beq_lit t _ ewithout
  have boffset : (t.toList == [111, 102, 102, 115, 101, 116]) = false := beq_lit t _ eoffset
  clear eor eand eunless ebool eon eignoring eby ewithout eoffset
  have HF := fun (W : World) => Lib.hid (pfuncs_any W)
  have HA := fun (W : World) => Lib.hid (paggs_any W)
  have hbf := numW_bd funcsL t
  have hba := numW_bd aggsL t
  by_cases hf : 0 < numW funcsL t
  · have HNf := fun (W : World) (g : Nat) (h : Rd W (g + 1) 1 (some ⟨g, 0, none⟩) (textsC funcsL)) => Lib.hid (numfuncs_any t W g h)
    have HTT : Hid (keptB t = true) := by show _ = _; rw [HT.out, decide_eq_true hf, Bool.true_or]
    generalize numW funcsL t = f at *
    go_enter Tryz.func79, Tryz.ntmps79
    go_wp2_with (first | (go_at_call 83; refine ((HF _).out).mono ?_; rintro e w1 ⟨rfl, hr1, hb1⟩) | (go_at_call 91; refine ((HNf _ _ hr1).out).mono ?_; rintro e w2 ⟨rfl, rfl⟩))
    go_ret
    exact ⟨ret_bool HTT.out.symm, hb1⟩
  · have hf0 : numW funcsL t = 0 := by omega
    have HNf : ∀ (W : World) (g : Nat) (h : Rd W (g + 1) 1 (some ⟨g, 0, none⟩) (textsC funcsL)), Hid (Calls Tryz.prog 91 #[.slice (some ⟨g, 0, none⟩) 13 13, .string t] W fun e w' => e = .returned (.int .i64 0) ∧ W = w') := fun W g h => by
      have := numfuncs_any t W g h
      rw [hf0] at this
      exact this
    have HNa := fun (W : World) (g : Nat) (h : Rd W (g + 1) 1 (some ⟨g, 0, none⟩) (textsC aggsL)) => Lib.hid (numaggs_any t W g h)
    have HTT : Hid (keptB t = decide (0 < numW aggsL t)) := by show _ = _; rw [HT.out, decide_eq_false hf, Bool.false_or]
    clear hf hf0 hbf
    generalize numW aggsL t = a at *
    go_enter Tryz.func79, Tryz.ntmps79
    go_wp2_with (first | (go_at_call 83; refine ((HF _).out).mono ?_; rintro e w1 ⟨rfl, hr1, hb1⟩) | (go_at_call 112; refine ((HA _).out).mono ?_; rintro e w3 ⟨rfl, hr3, hb3⟩) | (go_at_call 91; with_reducible refine ((HNf _ _ hr1).out).mono ?_; rintro e w2 ⟨rfl, rfl⟩) | (go_at_call 91; with_reducible refine ((HNa _ _ hr3).out).mono ?_; rintro e w4 ⟨rfl, rfl⟩))
    go_ret
    exact ⟨by rw [HTT.out]; rfl, hb1.trans (hb3.mono hb1.size)⟩
end
section
/-! ## ParO -/
open Go.RowKit
attribute [local go_sem ↓] tok_f0 tok_f2 tok_f3

/-- How a method with a result ends. -/
def ResV {α : Type} (P : Nat) (R : Option Addr × Nat) (w0 : World) (val : α → Value) : Rp (PS × α) → Ending → World → Prop
  | .ok (s', v), e, w' => e = .returned (val v) ∧ StQ P R w0 s' w'
  | .error x, e, w' => e = .panicked (stopV x) ∧ Fr P none w0 w'
set_option maxHeartbeats 1000000 in
theorem pname_any {P M : Nat} {R : Option Addr × Nat} {w0 w : World} {s : PS} (hg : PGood M s) (h : StQ P R w0 s w) :
    Calls Tryz.prog 135 #[.pointer (some ⟨P, 0, none⟩)] w (ResV P R w0 Value.string s.name) := by
  have HN := fun (W : World) (h : StQ P R w0 s W) => Lib.hid (now_st hg h)
  have HK := fun (W : World) (h : StQ P R w0 s W) => Lib.hid (stuck_st hg h)
  have ht := hg.hd_text
  have HL := fun (W : World) => Lib.hid (lname_any s.hd.text W (by simp only [maxLen]; omega))
  by_cases hk : s.hd.kind = 3
  · have hkb : (s.hd.kind != 3) = false := by rw [hk]; rfl
    have HO := fun (W : World) (h : StQ P R w0 s W) => Lib.hid (on_st hg h (by rw [hk]; decide))
    cases hn : nameB s.hd.text with
    | true =>
      have HT : Hid (s.name = .ok (s.on, s.hd.text)) := by show _ = _; rw [PS.name, if_pos ⟨hk, hn⟩]
      rw [hn] at HL
      clear hk hn
      go_enter Tryz.func135, Tryz.ntmps135
      go_wp2_with fail
      refine ((HN _ h).out).mono ?_
      rintro e w1 ⟨rfl, h1⟩
      go_wp2_with fail
      refine ((HN _ h1).out).mono ?_
      rintro e w2 ⟨rfl, h2⟩
      go_wp2_with fail
      refine ((HL _).out).mono ?_
      rintro e w3 ⟨rfl, rfl⟩
      go_wp2_with fail
      refine ((HO _ h2).out).mono ?_
      rintro e w4 ⟨rfl, h4⟩
      go_wp2_with fail
      go_ret
      rw [HT.out]
      exact ⟨rfl, h4⟩
    | false =>
      have HT : Hid (s.name = .error s.stuck) := by show _ = _; rw [PS.name, if_neg (by simp [hn])]
      rw [hn] at HL
      clear hk hn
      go_enter Tryz.func135, Tryz.ntmps135
      go_wp2_with fail
      refine ((HN _ h).out).mono ?_
      rintro e w1 ⟨rfl, h1⟩
      go_wp2_with fail
      refine ((HN _ h1).out).mono ?_
      rintro e w2 ⟨rfl, h2⟩
      go_wp2_with fail
      refine ((HL _).out).mono ?_
      rintro e w3 ⟨rfl, rfl⟩
      go_wp2_with fail
      refine ((HK _ h2).out).mono ?_
      rintro e w4 ⟨rfl, h4⟩
      go_wp2_with fail
      rw [HT.out]
      exact ⟨rfl, rfl, h4⟩
  · have hkb : (s.hd.kind != 3) = true := by rw [bne_iff_ne]; exact hk
    have HT : Hid (s.name = .error s.stuck) := by show _ = _; rw [PS.name, if_neg (fun h => hk h.1)]
    clear hk
    go_enter Tryz.func135, Tryz.ntmps135
    go_wp2_with fail
    refine ((HN _ h).out).mono ?_
    rintro e w1 ⟨rfl, h1⟩
    go_wp2_with fail
    refine ((HK _ h1).out).mono ?_
    rintro e w4 ⟨rfl, h4⟩
    go_wp2_with fail
    rw [HT.out]
    exact ⟨rfl, rfl, h4⟩
set_option maxHeartbeats 1000000 in
theorem pspan_any {P M : Nat} {R : Option Addr × Nat} {w0 w : World} {s : PS} (hg : PGood M s) (h : StQ P R w0 s w) :
    Calls Tryz.prog 175 #[.pointer (some ⟨P, 0, none⟩)] w (ResV P R w0 (Value.int .i64) s.span) := by
  have HN := fun (W : World) (h : StQ P R w0 s W) => Lib.hid (now_st hg h)
  have HK := fun (W : World) (h : StQ P R w0 s W) => Lib.hid (stuck_st hg h)
  by_cases hk : s.hd.kind = 2
  · have hkb : (s.hd.kind != 2) = false := by rw [hk]; rfl
    have HO := fun (W : World) (h : StQ P R w0 s W) => Lib.hid (on_st hg h (by rw [hk]; decide))
    have HT : Hid (s.span = .ok (s.on, (s.hd.span : Int))) := by show _ = _; rw [PS.span, if_pos hk]
    clear hk
    go_enter Tryz.func175, Tryz.ntmps175
    go_wp2_with fail
    refine ((HN _ h).out).mono ?_
    rintro e w1 ⟨rfl, h1⟩
    go_wp2_with fail
    refine ((HO _ h1).out).mono ?_
    rintro e w4 ⟨rfl, h4⟩
    go_wp2_with fail
    go_ret
    rw [HT.out]
    exact ⟨rfl, h4⟩
  · have hkb : (s.hd.kind != 2) = true := by rw [bne_iff_ne]; exact hk
    have HT : Hid (s.span = .error s.stuck) := by show _ = _; rw [PS.span, if_neg hk]
    clear hk
    go_enter Tryz.func175, Tryz.ntmps175
    go_wp2_with fail
    refine ((HN _ h).out).mono ?_
    rintro e w1 ⟨rfl, h1⟩
    go_wp2_with fail
    refine ((HK _ h1).out).mono ?_
    rintro e w4 ⟨rfl, h4⟩
    go_wp2_with fail
    rw [HT.out]
    exact ⟨rfl, rfl, h4⟩
/-- A row of another kind stays as it is. -/
theorem Own.fr {w w' : World} {P : Nat} {X : Option Addr} {R : Option Addr × Nat} {s : PS} {base sz n c : Nat} {e : TypeId} {xs : List (List Value)} (h : Own w base e sz X n c xs) (hP : PAt w P R s) (hf : Fr P none w w') (h1 : e ≠ 62) : Own w' base e sz X n c xs := by
  obtain ⟨b, o, ct, cs, bP, _⟩ := hP.parts
  exact h.same fun b hb => hf.block b (h.block hb).2 (fun e => own_ne_blk h bP h1 (by rw [← e]; exact hb.symm)) (by simp)
def lenAt (P : Nat) (w : World) : Nat := match w.cell? ⟨P, 0, none⟩ with
  | some (.slice _ n _) => n
  | _ => 0
theorem PAt.lenAt {w : World} {P : Nat} {R : Option Addr × Nat} {s : PS} (h : PAt w P R s) : lenAt P w = s.toks.length := by
  obtain ⟨b, o, ct, h1, _⟩ := h
  have := h1.cell (j := 0) rfl
  simp [Go.Proofs.YtakfnojiaakfpaaGreatDoor.lenAt, this]
/-- A row of the call's own grows. -/
theorem StQ.grownX {P : Nat} {R : Option Addr × Nat} {X : Option Addr} {w0 w w' : World} {s s0 : PS} {sz n c : Nat} {e : TypeId} {xs : List (List Value)} (h : StQ P R w0 s w) (h0 : PAt w0 P R s0) (hout : s.out = s0.out) (hO : Own w w0.heap.size e sz X n c xs) (hg : w.grownBy w' (X.map Addr.block)) (h1 : e ≠ 62) : StQ P R w0 s w' := by
  obtain ⟨b, o, ct, cs, bP, _⟩ := h.1.parts
  have hne := own_ne_blk hO bP h1
  have hf : Fr P none w0 w' := ⟨hg.os.trans h.2.os, hg.tape.trans h.2.tape, hg.output.trans h.2.output, Nat.le_trans h.2.size hg.size, fun b hlt h1 h2 =>
    (hg.block b (Nat.lt_of_lt_of_le hlt h.2.size) (fun e => by have := (hO.block e.symm).1; omega)).trans (h.2.block b hlt h1 h2)⟩
  exact ⟨h0.re h.1 hout h.2 hf (hg.block P h.1.lt hne), hf⟩
/-- Names that are being read. -/
def NmAt (P : Nat) (R : Option Addr × Nat) (s0 : PS) (w0 : World) (r : Rp (PS × List ByteArray)) (M L : Nat) (v : Value) (w : World) : Prop :=
  ∃ s acc X c m, v = .slice X acc.length c ∧ StQ P R w0 s w ∧ Own w w0.heap.size 9 1 X acc.length c (textsC acc) ∧ PGood M s ∧ s.toks.length ≤ m ∧ acc.length + s.toks.length ≤ L ∧ s.deep = s0.deep ∧ s.out = s0.out ∧ namesF m s acc = r
def ResN (P : Nat) (R : Option Addr × Nat) (w0 : World) : Rp (PS × List ByteArray) → Ending → World → Prop
  | .ok (s', l), e, w' => ∃ X c, e = .returned (.slice X l.length c) ∧ Own w' w0.heap.size 9 1 X l.length c (textsC l) ∧ StQ P R w0 s' w'
  | .error x, e, w' => e = .panicked (stopV x) ∧ Fr P none w0 w'
theorem NmAt.start {P M L : Nat} {R : Option Addr × Nat} {w0 w : World} {s s0 : PS} (h : StQ P R w0 s w) (hg : PGood M s) (hL : s.toks.length ≤ L) (hd : s.deep = s0.deep) (ho : s.out = s0.out) : NmAt P R s0 w0 (namesF s.toks.length s []) M L (.slice none 0 0) w :=
  ⟨s, [], none, 0, s.toks.length, rfl, h, Own.nil_ (by omega), hg, Nat.le_refl _, by simpa using hL, hd, ho, rfl⟩
set_option maxRecDepth 100000 in
set_option maxHeartbeats 4000000 in
theorem pnames_any {P M : Nat} {R : Option Addr × Nat} {w : World} {s : PS} (hM : M ≤ 1000000) (hg : PGood M s) (h : PAt w P R s) :
    Calls Tryz.prog 119 #[.pointer (some ⟨P, 0, none⟩)] w (ResN P R w s.names) := by
  have HS := Lib.hid (psign_st hg (StQ.start h) sO)
  have H0 := Lib.hid h
  have hPl := h.lt
  go_enter Tryz.func119, Tryz.ntmps119
  go_wp2_with fail
  refine (HS.out).mono ?_
  intro e w1 hres
  cases hsg : s.sign sO with
  | error x =>
    have HT : Hid (s.names = .error x) := by show _ = _; rw [PS.names, hsg]
    rw [hsg] at hres
    obtain ⟨rfl, hf⟩ := hres
    clear hsg
    go_wp2_with fail
    rw [HT.out]
    exact ⟨rfl, rfl, hf⟩
  | ok s1 =>
    have HT : Hid (s.names = namesF s1.toks.length s1 []) := by show _ = _; rw [PS.names, hsg]
    rw [hsg] at hres
    obtain ⟨rfl, h1⟩ := hres
    have hst := (sign_step hsg).2.2
    have hg1 := (hst.good M hg).more (M' := M) (by omega)
    have hl1 := hst.len M hg
    have hroom := hg.room
    have HI := Lib.hid (NmAt.start h1 hg1 (L := 1000000) (by omega) hst.deep hst.out)
    generalize namesF s1.toks.length s1 [] = r at *
    have HTN := Lib.hid HT.out
    clear hsg hst h1 hg1 hl1 hroom HT HS h hg
    go_wp2_with fail
    go_loopw [3] (fun v wr => Hid (NmAt P R s w r M 1000000 v wr)) (fun _ wr => lenAt P wr)
    case atStart => exact HI
    case round =>
      clear HI
      obtain ⟨s2, acc, X, c, m, rfl, h2, hO, hg2, hm, hL, hd2, ho2, hr⟩ := hrel
      have hpos := hg2.pos
      obtain ⟨m, rfl⟩ : ∃ m', m = m' + 1 := ⟨m - 1, by omega⟩
      have HLen := Lib.hid h2.1.lenAt
      have HIs := Lib.hid (is_st hg2 (StQ.start h2.1) 5 sC)
      have HH := Lib.hid h2
      have HO := Lib.hid hO
      have HR := Lib.hid hr
      have Hd2 := Lib.hid hd2
      have Ho2 := Lib.hid ho2
      clear hO hr hd2 ho2
      cases hi : s2.is 5 sC with
      | true =>
        have HT : Hid (r = .ok (s2.on, acc)) := by show _ = _; rw [← HR.out, namesF, if_pos hi]
        have hk : s2.hd.kind ≠ 0 := by rw [is_kind hi]; decide
        rw [hi] at HIs
        clear hi h2
        go_wp2_with fail
        refine (HIs.out).mono ?_
        rintro e w3 ⟨rfl, k3⟩
        have HO3 := Lib.hid (HO.out.fr HH.out.1 k3.2 (by decide))
        have H3 := Lib.hid (HH.out.next k3)
        have HOn := Lib.hid (on_st hg2 (StQ.start k3.1) hk)
        clear k3
        go_wp2_with fail
        refine (HOn.out).mono ?_
        rintro e w4 ⟨rfl, k4⟩
        have hO4 := HO3.out.fr H3.out.1 k4.2 (by decide)
        have h4 := H3.out.next k4
        go_wp2_with fail
        go_ret
        rw [HTN.out, HT.out]
        exact ⟨X, c, rfl, hO4, h4⟩
      | false =>
        rw [hi] at HIs
        have HI := Lib.hid hi
        clear hi h2
        go_wp2_with fail
        refine (HIs.out).mono ?_
        rintro e w3 ⟨rfl, k3⟩
        have HO3 := Lib.hid (HO.out.fr HH.out.1 k3.2 (by decide))
        have H3 := Lib.hid (HH.out.next k3)
        clear k3 HIs HO HH
        by_cases ha : acc = []
        · have HC : Hid ((match s2.name with | .error e => .error e | .ok (s4, x) => namesF m s4 (acc ++ [x])) = r) := by
            show _ = _
            rw [← HR.out, namesF, if_neg (by rw [HI.out]; decide)]
            subst ha
            rfl
          have hlenI : ¬ (0 : Int) < acc.length := by subst ha; simp
          clear ha HR HI
          go_wp2_with fail
          refine (pname_any hg2 (StQ.start H3.out.1)).mono ?_
          intro e w6 hres
          cases hnm : s2.name with
          | error x =>
            have HT : Hid (r = .error x) := by show _ = _; rw [← HC.out, hnm]
            rw [hnm] at hres
            obtain ⟨rfl, hf⟩ := hres
            have hf2 := H3.out.2.transN hf
            clear hnm
            go_wp2_with fail
            refine ⟨rfl, ?_⟩
            rw [HTN.out, HT.out]
            exact ⟨rfl, hf2⟩
          | ok q =>
            obtain ⟨s6, x⟩ := q
            have HR6 : Hid (namesF m s6 (acc ++ [x]) = r) := by show _ = _; rw [← HC.out, hnm]
            rw [hnm] at hres
            obtain ⟨rfl, k6⟩ := hres
            have hst := (name_step hnm).2.2.2.2
            have hg6 := (hst.good M hg2).more (M' := M) (by omega)
            have hl6 := hst.len M hg2
            have hd6 := hst.deep
            have ho6 := hst.out
            have HO6 := Lib.hid (HO3.out.fr H3.out.1 k6.2 (by decide))
            have H6 := Lib.hid (H3.out.next k6)
            have hP6 := H6.out.1.lt
            have hz6 := H6.out.2.size
            clear hnm hst k6 HC
            go_wp2_with (at_builtin; refine wpList_append_rd (ys := textsC [x]) _ rfl (.tmp 14) (.tmp 17) _ rfl eiTexts rfl (HO6.out.alloc _) rfl (Rd.new (xs := textsC [x]) w6 (textsC_sz _) _ rfl) rfl (textsC_one _) (by simp only [maxLen]; omega) (by omega) (by simp; omega) ?_; intro X7 c7 w7 ho7 hg7 hat7 hb7)
            have H7 : Hid (StQ P R w s6 w7) := by
              have hb1 : Below w6.heap.size w6 (w6.alloc (.cells #[.string x] 9)) := (Below.refl _ _).alloc (Nat.le_refl _) _
              exact (H6.out.below hb1).grownX H0.out (by rw [ho6]; exact Ho2.out) (HO6.out.alloc _) hg7 (by decide)
            go_roundw
            case rel => exact ⟨s6, acc ++ [x], X7, c7, m, by simp, H7.out, by simpa [textsC] using ho7, hg6, by omega, by simp only [List.length_append, List.length_cons, List.length_nil]; omega, by rw [hd6]; exact Hd2.out, by rw [ho6]; exact Ho2.out, HR6.out⟩
            case measure => rw [H7.out.1.lenAt, HLen.out]; omega
        · have ha0 : 0 < acc.length := List.length_pos_iff.2 ha
          have hlenI : (0 : Int) < acc.length := by omega
          have hie : acc.isEmpty = false := by cases acc with | nil => exact absurd rfl ha | cons => rfl
          have HC0 : Hid ((match s2.sign sComma with | .error e => .error e | .ok s1 => match s1.name with | .error e => .error e | .ok (s4, x) => namesF m s4 (acc ++ [x])) = r) := by
            show _ = _
            rw [← HR.out, namesF, if_neg (by rw [HI.out]; decide), PS.comma, hie, if_neg (by decide)]
            rfl
          have HSg := Lib.hid (psign_st hg2 (StQ.start H3.out.1) sComma)
          clear ha HR HI hie
          go_wp2_with fail
          refine (HSg.out).mono ?_
          intro e w5 hres
          cases hsg : s2.sign sComma with
          | error x =>
            have HT : Hid (r = .error x) := by show _ = _; rw [← HC0.out, hsg]
            rw [hsg] at hres
            obtain ⟨rfl, hf⟩ := hres
            have hf2 := H3.out.2.transN hf
            clear hsg
            go_wp2_with fail
            refine ⟨rfl, ?_⟩
            rw [HTN.out, HT.out]
            exact ⟨rfl, hf2⟩
          | ok s5 =>
            have HC : Hid ((match s5.name with | .error e => .error e | .ok (s4, x) => namesF m s4 (acc ++ [x])) = r) := by show _ = _; rw [← HC0.out, hsg]
            rw [hsg] at hres
            obtain ⟨rfl, k5⟩ := hres
            have hst := (sign_step hsg).2.2
            have hg5 := (hst.good M hg2).more (M' := M) (by omega)
            have hl5 := hst.len M hg2
            have Hd5 := Lib.hid hst.deep
            have Ho5 := Lib.hid hst.out
            have HO5 := Lib.hid (HO3.out.fr H3.out.1 k5.2 (by decide))
            have H5 := Lib.hid (H3.out.next k5)
            clear hsg hst k5 HSg HC0
            go_wp2_with fail
            refine (pname_any hg5 (StQ.start H5.out.1)).mono ?_
            intro e w6 hres
            cases hnm : s5.name with
            | error x =>
              have HT : Hid (r = .error x) := by show _ = _; rw [← HC.out, hnm]
              rw [hnm] at hres
              obtain ⟨rfl, hf⟩ := hres
              have hf2 := H5.out.2.transN hf
              clear hnm
              go_wp2_with fail
              refine ⟨rfl, ?_⟩
              rw [HTN.out, HT.out]
              exact ⟨rfl, hf2⟩
            | ok q =>
              obtain ⟨s6, x⟩ := q
              have HR6 : Hid (namesF m s6 (acc ++ [x]) = r) := by show _ = _; rw [← HC.out, hnm]
              rw [hnm] at hres
              obtain ⟨rfl, k6⟩ := hres
              have hst := (name_step hnm).2.2.2.2
              have hg6 := (hst.good M hg5).more (M' := M) (by omega)
              have hl6 := hst.len M hg5
              have hd6 := hst.deep
              have ho6 := hst.out
              have HO6 := Lib.hid (HO5.out.fr H5.out.1 k6.2 (by decide))
              have H6 := Lib.hid (H5.out.next k6)
              have hP6 := H6.out.1.lt
              have hz6 := H6.out.2.size
              clear hnm hst k6 HC
              go_wp2_with (at_builtin; refine wpList_append_rd (ys := textsC [x]) _ rfl (.tmp 14) (.tmp 17) _ rfl eiTexts rfl (HO6.out.alloc _) rfl (Rd.new (xs := textsC [x]) w6 (textsC_sz _) _ rfl) rfl (textsC_one _) (by simp only [maxLen]; omega) (by omega) (by simp; omega) ?_; intro X7 c7 w7 ho7 hg7 hat7 hb7)
              have H7 : Hid (StQ P R w s6 w7) := by
                have hb1 : Below w6.heap.size w6 (w6.alloc (.cells #[.string x] 9)) := (Below.refl _ _).alloc (Nat.le_refl _) _
                exact (H6.out.below hb1).grownX H0.out (by rw [ho6]; exact (Ho5.out.trans Ho2.out)) (HO6.out.alloc _) hg7 (by decide)
              go_roundw
              case rel => exact ⟨s6, acc ++ [x], X7, c7, m, by simp, H7.out, by simpa [textsC] using ho7, hg6, by omega, by simp only [List.length_append, List.length_cons, List.length_nil]; omega, by rw [hd6]; exact (Hd5.out.trans Hd2.out), by rw [ho6]; exact (Ho5.out.trans Ho2.out), HR6.out⟩
              case measure => rw [H7.out.1.lenAt, HLen.out]; omega
end
section
/-! ## ParP -/
open Go.RowKit
attribute [local go_sem ↓] Go.wp_at_zero Go.wp_at_succ tok_f0 tok_f2 tok_f3

theorem str2_i0 (a b : Value) (w : World) : (Instr.index 111 (.agg #[a, b]) (.int .i64 0)).run Tryz.prog w = .ok a w := by kernel_rfl
theorem str2_i1 (a b : Value) (w : World) : (Instr.index 111 (.agg #[a, b]) (.int .i64 1)).run Tryz.prog w = .ok b w := by kernel_rfl
attribute [local go_sem ↓] str2_i0 str2_i1
/-- How the reading of a group ends: the node in block N is told of it. -/
def ResG (P : Nat) (R : Option Addr × Nat) (w0 : World) (N : Nat) (x : Nod) : Rp (PS × Int × List ByteArray) → Ending → World → Prop
  | .ok (s', g, l), e, w' => e = .returned (.tuple #[]) ∧ StQ P R w0 s' w' ∧ ∃ An cn, Blk w' N 41 (nodC { x with grp := g, names := l } none 0 An cn) ∧ Own w' w0.heap.size 9 1 An l.length cn (textsC l)
  | .error x, e, w' => e = .panicked (stopV x) ∧ Fr P none w0 w'
theorem StQ.setN {P N : Nat} {R : Option Addr × Nat} {w0 w : World} {s s0 : PS} (h : StQ P R w0 s w) (h0 : PAt w0 P R s0) (hout : s.out = s0.out) (hN : w0.heap.size ≤ N) (j : Nat) (u : Value) : StQ P R w0 s (w.setCell ⟨N, j, none⟩ u) := by
  have hP := h0.lt
  have hf : Fr P none w0 (w.setCell ⟨N, j, none⟩ u) := ⟨h.2.os, h.2.tape, h.2.output, by simpa using h.2.size, fun b hb h1 h2 => (Below.heap_setCell w ⟨N, j, none⟩ u b (show b ≠ N by omega)).trans (h.2.block b hb h1 h2)⟩
  exact ⟨h0.re h.1 hout h.2 hf (Below.heap_setCell w ⟨N, j, none⟩ u P (show P ≠ N by omega)), hf⟩
theorem Fr.undrew {P : Nat} {A : Option Addr} {w w' : World} (h : Fr P A w.drew w') : Fr P A w w' := ⟨h.os, h.tape, h.output, h.size, h.block⟩
theorem Blk.fr {w w' : World} {P N : Nat} {e : TypeId} {cs : List Value} (h : Blk w N e cs) (hf : Fr P none w w') (hne : N ≠ P) : Blk w' N e cs := h.keep (hf.block N h.lt hne (by simp))
set_option maxRecDepth 100000 in
set_option maxHeartbeats 4000000 in
theorem pgroup_any {P M N : Nat} {R : Option Addr × Nat} {w0 w : World} {s s0 : PS} (hM : M ≤ 1000000) (hg : PGood M s) (h : StQ P R w0 s w) (h0 : PAt w0 P R s0) (hout : s.out = s0.out) (hN : w0.heap.size ≤ N) (x : Nod) (hx : x.mat = [] ∧ x.names = [] ∧ x.grp = 0) (bN : Blk w N 41 (nodC x none 0 none 0)) (s1 s2 : ByteArray) (k1 k2 : Int) :
    Calls Tryz.prog 95 #[.pointer (some ⟨P, 0, none⟩), .pointer (some ⟨N, 0, none⟩), .agg #[.string s1, .string s2], .agg #[.int .i64 k1, .int .i64 k2]] w (ResG P R w0 N x (s.group s1 s2 k1 k2)) := by
  have hP0 := h0.lt
  have hz0 := h.2.size
  have hNl := bN.lt
  have H0 := Lib.hid h0
  go_enter Tryz.func95, Tryz.ntmps95
  go_wp2_with fail
  generalize hW : World.alloc _ _ = W0
  have bK : Blk W0 (w.heap.size + 1) 112 [.int .i64 k1, .int .i64 k2] := by
    rw [← hW]
    have := Blk.new (w.alloc (.cells #[.string s1, .string s2] 111)) 112 [.int .i64 k1, .int .i64 k2]
    rw [World.size_alloc] at this
    exact this
  have hb0 : Below w.heap.size w W0 := by rw [← hW]; exact ((Below.refl _ _).alloc (Nat.le_refl _) _).alloc (by simp) _
  clear hW
  have h1 := h.below hb0
  have bN1 := bN.below hb0 hNl
  clear h bN hb0
  have HI1 := fun (W : World) (h : StQ P R w0 s W) (t : ByteArray) => Lib.hid (is_st hg (StQ.start h.1) 3 t)
  refine wp_loop_rounds 3 ?_
  rw [rounds_succ]
  go_wp2_with fail
  refine ((HI1 _ h1 s1).out).mono ?_
  rintro e w3 ⟨rfl, k3⟩
  have h3 := h1.next k3
  have bN3 := bN1.fr k3.2 (by omega)
  have bK3 := bK.fr k3.2 (by omega)
  clear k3 h1 bN1 bK
  cases hi : s.is 3 s1 with
  | true =>
    have hk : s.hd.kind ≠ 0 := by rw [is_kind hi]; decide
    have HG : Hid (s.group s1 s2 k1 k2 = match s.on.names with | .error e => .error e | .ok (s1, l) => .ok (s1, k1, l)) := by show _ = _; rw [PS.group, if_pos hi]; rfl
    clear hi
    have HOn := Lib.hid (on_st hg (StQ.start h3.1) hk)
    go_wp2_with fail
    refine (HOn.out).mono ?_
    rintro e w4 ⟨rfl, k4⟩
    have h4 := h3.next k4
    have bN4 := bN3.fr k4.2 (by omega)
    have bK4 := bK3.fr k4.2 (by omega)
    have hg4 := hg.on hk
    have HNm := Lib.hid (pnames_any hM hg4 (show PAt w4.drew P R s.on from h4.1))
    have hz4 := h4.2.size
    clear k4 h3 bN3 bK3 HOn
    cases hnm : s.on.names with
    | error x =>
      have HT : Hid (s.group s1 s2 k1 k2 = .error x) := by show _ = _; rw [HG.out, hnm]
      rw [hnm] at HNm
      clear hnm HG
      have c0 := bK4.cell (j := 0) rfl
      have c1 := bK4.cell (j := 1) rfl
      have hK4 := bK4.lt
      have hN4 := bN4.lt
      go_wp2_with fail
      refine wp_region_any (by kernel_rfl) ?_
      try (change wpAny _ _ _ _ _ _ _ (World.drew _))
      (refine wpAny_take (i := 0) (v := ?_) rfl (by kernel_rfl) (by kernel_rfl) (by kernel_rfl) (fun _ _ _ h => h) (Or.inl ⟨by rfl, ?_⟩) ?_; rotate_left; focus ((intro w; go_simp); (try with_reducible rfl)))
      (refine wpAny_take (i := 1) (v := ?_) rfl (by kernel_rfl) (by kernel_rfl) (by kernel_rfl) (fun _ _ _ h => h) (Or.inl ⟨by rfl, ?_⟩) ?_; rotate_left; focus ((intro w; go_simp); (try with_reducible rfl)))
      (refine wpAny_take (i := 2) (v := ?_) rfl (by kernel_rfl) (by kernel_rfl) (by kernel_rfl) (fun _ _ _ h => h) (Or.inl ⟨by rfl, ?_⟩) ?_; rotate_left; focus ((intro w; go_simp); (try with_reducible rfl)))
      (refine wpAny_take (i := 3) (v := ?_) rfl (by kernel_rfl) (by kernel_rfl) (by kernel_rfl) (fun _ _ _ h => h) (Or.inl ⟨by rfl, ?_⟩) ?_; rotate_left; focus ((intro w; go_simp); (try with_reducible rfl)))
      (refine wpAny_take (i := 5) (v := ?_) rfl (by kernel_rfl) (by kernel_rfl) (by kernel_rfl) (fun _ _ _ h => h) (Or.inl ⟨by rfl, ?_⟩) ?_; rotate_left; focus ((intro w; go_simp); (try with_reducible rfl)))
      refine wpAny_ready (rs := [4, 6]) (by kernel_rfl) (by simp) ?_
      refine AllReady.cons rfl (fun K hK => ?_) ?_
      · go_simp
        (refine hK _ _ ?_; clear hK K)
        refine wpAny_ready (rs := [6]) (by kernel_rfl) (by simp) ?_
        refine AllReady.cons rfl (fun K hK => ?_) AllReady.nil
        go_simp
        go_at_call 119
        refine (HNm.out).mono ?_
        rintro e w5 ⟨rfl, k5⟩
        exact ⟨rfl, by rw [HT.out]; exact ⟨rfl, h4.2.transN k5.undrew⟩⟩
      · refine AllReady.cons rfl (fun K hK => ?_) AllReady.nil
        go_simp
        go_at_call 119
        refine (HNm.out).mono ?_
        rintro e w5 ⟨rfl, k5⟩
        exact ⟨rfl, by rw [HT.out]; exact ⟨rfl, h4.2.transN k5.undrew⟩⟩
    | ok q =>
      obtain ⟨s5, l⟩ := q
      have HT : Hid (s.group s1 s2 k1 k2 = .ok (s5, k1, l)) := by show _ = _; rw [HG.out, hnm]
      have hout5 : s5.out = s.out := (names_step' hnm).1.out
      rw [hnm] at HNm
      clear hnm HG
      have c0 := bK4.cell (j := 0) rfl
      have c1 := bK4.cell (j := 1) rfl
      have hK4 := bK4.lt
      have hN4 := bN4.lt
      have hKN : w.heap.size + 1 ≠ N := by omega
      go_wp2_with fail
      go_region_held3 (fun w' => w'.cell? ⟨w.heap.size + 1, 0, none⟩ = some (.int .i64 k1) ∧ w'.cell? ⟨w.heap.size + 1, 1, none⟩ = some (.int .i64 k2))
        (first | exact ⟨bK5.cell rfl, bK5.cell rfl⟩ | exact ⟨c0, c1⟩ | exact ⟨(bK5.other hKN _).cell rfl, (bK5.other hKN _).cell rfl⟩ | exact ⟨((bK5.other hKN _).other hKN _).cell rfl, ((bK5.other hKN _).other hKN _).cell rfl⟩ | go_keep)
        ((go_at_call 119; refine (HNm.out).mono ?_; rintro e w5 ⟨X5, c5, rfl, hO5, k5⟩; have bK5 := bK4.fr k5.2.undrew (by omega); have bN5 := bN4.fr k5.2.undrew (by omega); have fN5 := bN5.frozen; have n6 := bN5.cell (j := 6) rfl; have n7 := bN5.cell (j := 7) rfl))
      all_goals
        have HE : Hid (StQ P R w0 s5 w5) := h4.next ⟨k5.1, k5.2.undrew⟩
        have hO5' : Own w5 w0.heap.size 9 1 X5 l.length c5 (textsC l) := hO5.lower (by have : w4.drew.heap.size = w4.heap.size := rfl; omega)
        have HO5 := Lib.hid hO5'
        have HN5 := Lib.hid bN5
        clear hO5 hO5' bN5 fN5 n6 n7 bK5 k5 c0 c1
        go_wp2_with fail
        first | go_end0 | refine bodyPost_ret (results_none rfl _ _ _) rfl ?_
        rw [HT.out]
        have hne := own_ne_blk HO5.out HN5.out (by decide)
        have hoo := hout5.trans hout
        refine ⟨rfl, (HE.out.setN H0.out hoo hN _ _).setN H0.out hoo hN _ _, X5, c5, ?_, (HO5.out.setOther hne _ _).setOther hne _ _⟩
        first
          | exact (HN5.out.set 6 (.int .i64 k1)).set 7 (.slice X5 l.length c5)
          | exact (HN5.out.set 7 (.slice X5 l.length c5)).set 6 (.int .i64 k1)
  | false =>
    have HI := Lib.hid hi
    clear hi
    go_wp2_with fail
    rw [rounds_succ]
    go_wp2_with fail
    refine ((HI1 _ h3 s2).out).mono ?_
    rintro e w3' ⟨rfl, k3⟩
    have h3' := h3.next k3
    have bN3' := bN3.fr k3.2 (by omega)
    have bK3' := bK3.fr k3.2 (by omega)
    clear k3 h3 bN3 bK3
    have h3 := h3'
    have bN3 := bN3'
    have bK3 := bK3'
    clear h3' bN3' bK3'
    cases hi : s.is 3 s2 with
    | true =>
      have hk : s.hd.kind ≠ 0 := by rw [is_kind hi]; decide
      have HG : Hid (s.group s1 s2 k1 k2 = match s.on.names with | .error e => .error e | .ok (s1, l) => .ok (s1, k2, l)) := by show _ = _; rw [PS.group, if_neg (by rw [HI.out]; decide), if_pos hi]; rfl
      clear hi
      have HOn := Lib.hid (on_st hg (StQ.start h3.1) hk)
      go_wp2_with fail
      refine (HOn.out).mono ?_
      rintro e w4 ⟨rfl, k4⟩
      have h4 := h3.next k4
      have bN4 := bN3.fr k4.2 (by omega)
      have bK4 := bK3.fr k4.2 (by omega)
      have hg4 := hg.on hk
      have HNm := Lib.hid (pnames_any hM hg4 (show PAt w4.drew P R s.on from h4.1))
      have hz4 := h4.2.size
      clear k4 h3 bN3 bK3 HOn
      cases hnm : s.on.names with
      | error x =>
        have HT : Hid (s.group s1 s2 k1 k2 = .error x) := by show _ = _; rw [HG.out, hnm]
        rw [hnm] at HNm
        clear hnm HG
        have c0 := bK4.cell (j := 0) rfl
        have c1 := bK4.cell (j := 1) rfl
        have hK4 := bK4.lt
        have hN4 := bN4.lt
        go_wp2_with fail
        refine wp_region_any (by kernel_rfl) ?_
        try (change wpAny _ _ _ _ _ _ _ (World.drew _))
        (refine wpAny_take (i := 0) (v := ?_) rfl (by kernel_rfl) (by kernel_rfl) (by kernel_rfl) (fun _ _ _ h => h) (Or.inl ⟨by rfl, ?_⟩) ?_; rotate_left; focus ((intro w; go_simp); (try with_reducible rfl)))
        (refine wpAny_take (i := 1) (v := ?_) rfl (by kernel_rfl) (by kernel_rfl) (by kernel_rfl) (fun _ _ _ h => h) (Or.inl ⟨by rfl, ?_⟩) ?_; rotate_left; focus ((intro w; go_simp); (try with_reducible rfl)))
        (refine wpAny_take (i := 2) (v := ?_) rfl (by kernel_rfl) (by kernel_rfl) (by kernel_rfl) (fun _ _ _ h => h) (Or.inl ⟨by rfl, ?_⟩) ?_; rotate_left; focus ((intro w; go_simp); (try with_reducible rfl)))
        (refine wpAny_take (i := 3) (v := ?_) rfl (by kernel_rfl) (by kernel_rfl) (by kernel_rfl) (fun _ _ _ h => h) (Or.inl ⟨by rfl, ?_⟩) ?_; rotate_left; focus ((intro w; go_simp); (try with_reducible rfl)))
        (refine wpAny_take (i := 5) (v := ?_) rfl (by kernel_rfl) (by kernel_rfl) (by kernel_rfl) (fun _ _ _ h => h) (Or.inl ⟨by rfl, ?_⟩) ?_; rotate_left; focus ((intro w; go_simp); (try with_reducible rfl)))
        refine wpAny_ready (rs := [4, 6]) (by kernel_rfl) (by simp) ?_
        refine AllReady.cons rfl (fun K hK => ?_) ?_
        · go_simp
          (refine hK _ _ ?_; clear hK K)
          refine wpAny_ready (rs := [6]) (by kernel_rfl) (by simp) ?_
          refine AllReady.cons rfl (fun K hK => ?_) AllReady.nil
          go_simp
          go_at_call 119
          refine (HNm.out).mono ?_
          rintro e w5 ⟨rfl, k5⟩
          exact ⟨rfl, by rw [HT.out]; exact ⟨rfl, h4.2.transN k5.undrew⟩⟩
        · refine AllReady.cons rfl (fun K hK => ?_) AllReady.nil
          go_simp
          go_at_call 119
          refine (HNm.out).mono ?_
          rintro e w5 ⟨rfl, k5⟩
          exact ⟨rfl, by rw [HT.out]; exact ⟨rfl, h4.2.transN k5.undrew⟩⟩
      | ok q =>
        obtain ⟨s5, l⟩ := q
        have HT : Hid (s.group s1 s2 k1 k2 = .ok (s5, k2, l)) := by show _ = _; rw [HG.out, hnm]
        have hout5 : s5.out = s.out := (names_step' hnm).1.out
        rw [hnm] at HNm
        clear hnm HG
        have c0 := bK4.cell (j := 0) rfl
        have c1 := bK4.cell (j := 1) rfl
        have hK4 := bK4.lt
        have hN4 := bN4.lt
        have hKN : w.heap.size + 1 ≠ N := by omega
        go_wp2_with fail
        go_region_held3 (fun w' => w'.cell? ⟨w.heap.size + 1, 0, none⟩ = some (.int .i64 k1) ∧ w'.cell? ⟨w.heap.size + 1, 1, none⟩ = some (.int .i64 k2))
          (first | exact ⟨bK5.cell rfl, bK5.cell rfl⟩ | exact ⟨c0, c1⟩ | exact ⟨(bK5.other hKN _).cell rfl, (bK5.other hKN _).cell rfl⟩ | exact ⟨((bK5.other hKN _).other hKN _).cell rfl, ((bK5.other hKN _).other hKN _).cell rfl⟩ | go_keep)
          ((go_at_call 119; refine (HNm.out).mono ?_; rintro e w5 ⟨X5, c5, rfl, hO5, k5⟩; have bK5 := bK4.fr k5.2.undrew (by omega); have bN5 := bN4.fr k5.2.undrew (by omega); have fN5 := bN5.frozen; have n6 := bN5.cell (j := 6) rfl; have n7 := bN5.cell (j := 7) rfl))
        all_goals
          have HE : Hid (StQ P R w0 s5 w5) := h4.next ⟨k5.1, k5.2.undrew⟩
          have hO5' : Own w5 w0.heap.size 9 1 X5 l.length c5 (textsC l) := hO5.lower (by have : w4.drew.heap.size = w4.heap.size := rfl; omega)
          have HO5 := Lib.hid hO5'
          have HN5 := Lib.hid bN5
          clear hO5 hO5' bN5 fN5 n6 n7 bK5 k5 c0 c1
          go_wp2_with fail
          first | go_end0 | refine bodyPost_ret (results_none rfl _ _ _) rfl ?_
          rw [HT.out]
          have hne := own_ne_blk HO5.out HN5.out (by decide)
          have hoo := hout5.trans hout
          refine ⟨rfl, (HE.out.setN H0.out hoo hN _ _).setN H0.out hoo hN _ _, X5, c5, ?_, (HO5.out.setOther hne _ _).setOther hne _ _⟩
          first
            | exact (HN5.out.set 6 (.int .i64 k2)).set 7 (.slice X5 l.length c5)
            | exact (HN5.out.set 7 (.slice X5 l.length c5)).set 6 (.int .i64 k2)
    | false =>
      have HT : Hid (s.group s1 s2 k1 k2 = .ok (s, 0, [])) := by show _ = _; rw [PS.group, if_neg (by rw [HI.out]; decide), if_neg (by rw [hi]; decide)]
      clear hi
      go_wp2_with fail
      rw [rounds_succ]
      go_wp2_with fail
      first | go_end0 | refine bodyPost_ret (results_none rfl _ _ _) rfl ?_
      rw [HT.out]
      obtain ⟨hx1, hx2, hx3⟩ := hx
      refine ⟨rfl, h3, none, 0, ?_, Own.nil_ (by omega)⟩
      have e : ({ x with grp := 0, names := [] } : Nod) = x := by
        cases x
        simp only at hx2 hx3
        subst hx2 hx3
        rfl
      rw [e]
      exact bN3
end
end Go.Proofs.YtakfnojiaakfpaaGreatDoor
