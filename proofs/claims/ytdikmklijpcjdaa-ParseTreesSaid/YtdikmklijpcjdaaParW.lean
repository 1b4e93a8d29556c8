/- How a query is read: the reader in memory; its small methods. -/
import Derived.Test.YtdikmklijpcjdaaParG
import Derived.Test.YtdikmklijpcjdaaNodC
import Derived.Test.YtdikmklijpcjdaaLater
namespace Go.Proofs.Ytdikmklijpcjdaa
open Go.RowKit

theorem tok_f0 (a b c d : Value) (w : World) : (Instr.field 52 (.agg #[a, b, c, d]) 0).run Try.prog w = .ok a w := by kernel_rfl
theorem tok_f2 (a b c d : Value) (w : World) : (Instr.field 52 (.agg #[a, b, c, d]) 2).run Try.prog w = .ok c w := by kernel_rfl
theorem tok_f3 (a b c d : Value) (w : World) : (Instr.field 52 (.agg #[a, b, c, d]) 3).run Try.prog w = .ok d w := by kernel_rfl
attribute [local go_sem ↓] tok_f0 tok_f2 tok_f3
/-- The reader in block P: what is left to read lies below it, what is laid above it. -/
def PAt (w : World) (P : Nat) (R : Option Addr × Nat) (s : PS) : Prop :=
  ∃ b o ct, Blk w P 56 [.slice (some ⟨b, o, none⟩) s.toks.length ct, .int .i64 s.deep, .slice R.1 s.out.length R.2] ∧ Rd w P 4 (some ⟨b, o, none⟩) (toksC s.toks) ∧ s.toks.length ≤ ct ∧ ct ≤ maxLen ∧ OwnNods w (P + 1) R.1 s.out.length R.2 s.out
/-- All that was there reads as before, but for the reader's block and the row of what is laid. -/
structure Fr (P : Nat) (A : Option Addr) (w w' : World) : Prop where
  os : w'.os = w.os
  tape : w'.tape = w.tape
  output : w'.output = w.output
  size : w.heap.size ≤ w'.heap.size
  block : ∀ b, b < w.heap.size → b ≠ P → A.map Addr.block ≠ some b → w'.heap[b]? = w.heap[b]?
/-- Where the row lies: where it lay, or in new memory. -/
def Mv (A A' : Option Addr) (w : World) : Prop := A'.map Addr.block = A.map Addr.block ∨ ∃ g, A'.map Addr.block = some g ∧ w.heap.size ≤ g
theorem Mv.refl (A : Option Addr) (w : World) : Mv A A w := .inl rfl
theorem Mv.trans {A A1 A2 : Option Addr} {w w1 : World} (h : Mv A A1 w) (k : Mv A1 A2 w1) (hz : w.heap.size ≤ w1.heap.size) : Mv A A2 w := by
  rcases k with k | ⟨g, k, hg⟩
  · rcases h with h | ⟨g, h, hg⟩
    · exact .inl (k.trans h)
    · exact .inr ⟨g, k.trans h, hg⟩
  · exact .inr ⟨g, k, Nat.le_trans hz hg⟩
theorem Fr.refl (P : Nat) (A : Option Addr) (w : World) : Fr P A w w := ⟨rfl, rfl, rfl, Nat.le_refl _, fun _ _ _ _ => rfl⟩
theorem Fr.of_below {P : Nat} {A : Option Addr} {w w' : World} (h : Below w.heap.size w w') : Fr P A w w' := ⟨h.os, h.tape, h.output, h.size, fun b hb _ _ => h.block b hb⟩
theorem Fr.trans {P : Nat} {A A1 : Option Addr} {w w1 w2 : World} (h : Fr P A w w1) (hm : Mv A A1 w) (k : Fr P A1 w1 w2) : Fr P A w w2 :=
  ⟨k.os.trans h.os, k.tape.trans h.tape, k.output.trans h.output, Nat.le_trans h.size k.size, fun b hb h1 h2 => by
    rw [k.block b (Nat.lt_of_lt_of_le hb h.size) h1 ?_, h.block b hb h1 h2]
    rcases hm with hm | ⟨g, hm, hg⟩
    · rw [hm]; exact h2
    · rw [hm]; intro e; injection e with e; omega⟩
theorem Fr.below {P : Nat} {A : Option Addr} {w w' : World} (h : Fr P A w w') (hA : ∀ b, A.map Addr.block = some b → P < b) (hP : P < w.heap.size) : Below P w w' :=
  ⟨h.os, h.tape, h.output, h.size, fun b hb => h.block b (by omega) (by omega) (fun e => by have := hA b e; omega)⟩
section
variable {w w' w0 : World} {P : Nat} {R : Option Addr × Nat} {s s0 : PS}
theorem PAt.lt (h : PAt w P R s) : P < w.heap.size := by
  obtain ⟨b, o, ct, h1, _⟩ := h
  exact h1.lt
theorem PAt.above (h : PAt w P R s) {b : Nat} (hb : R.1.map Addr.block = some b) : P < b ∧ b < w.heap.size := by
  obtain ⟨_, _, _, _, _, _, _, cs, h5, _⟩ := h
  have := h5.block hb
  omega
theorem PAt.below (h : PAt w P R s) (hb : Below w.heap.size w w') : PAt w' P R s := by
  have hlt := h.lt
  obtain ⟨b, o, ct, h1, h2, h3, h4, h5⟩ := h
  exact ⟨b, o, ct, h1.below hb h1.lt, h2.below (hb.mono (by omega)), h3, h4, h5.belowAll hb⟩
theorem PAt.frame (h : PAt w P R s) (hf : Fr P R.1 w w') : Below P w w' := hf.below (fun _ hb => (h.above hb).1) h.lt
/-- A row is as it was where its block is. -/
theorem Own.same {base sz n c : Nat} {e : TypeId} {A : Option Addr} {xs : List (List Value)} (h : Own w base e sz A n c xs) (hk : ∀ b, A.map Addr.block = some b → w'.heap[b]? = w.heap[b]?) : Own w' base e sz A n c xs := by
  refine ⟨h.1, h.2.1, h.2.2.1, h.2.2.2.1, ?_⟩
  rcases h.2.2.2.2 with hn | ⟨g, cap, cur, hv, hbg, hg, rest⟩
  · exact .inl hn
  · refine .inr ⟨g, cap, cur, hv, hbg, ?_, rest⟩
    injection hv with h1
    rw [hk g (by rw [h1]; rfl)]
    exact hg
theorem OwnNods.same {base n c : Nat} {A : Option Addr} {ns : List Nod} {cs0 : List Value} (h : OwnNods w base A n c ns) (hP : Blk w P 56 cs0) (hk : ∀ b, b < w.heap.size → b ≠ P → w'.heap[b]? = w.heap[b]?) : OwnNods w' base A n c ns := by
  obtain ⟨cs, h1, h2, h3⟩ := h
  have key : ∀ {base sz n c : Nat} {e : TypeId} {A : Option Addr} {xs : List (List Value)}, Own w base e sz A n c xs → e ≠ 56 → Own w' base e sz A n c xs := fun ho he => ho.same fun b hb => hk b (ho.block hb).2 (fun e => own_ne_blk ho hP he (by rw [← e]; exact hb.symm))
  refine ⟨cs, key h1 (by decide), h2, fun k x hx => ?_⟩
  obtain ⟨Am, cm, An, cn, hy, ho, hp⟩ := h3 k x hx
  exact ⟨Am, cm, An, cn, hy, key ho (by decide), key hp (by decide)⟩
/-- The reader laid anew: what is laid is as it was at w0, the reader's own block as at w. -/
theorem PAt.re (h0 : PAt w0 P R s0) (hw : PAt w P R s) (hout : s.out = s0.out) (hf : Fr P none w0 w) (hf' : Fr P none w0 w') (hblk : w'.heap[P]? = w.heap[P]?) : PAt w' P R s := by
  obtain ⟨b0, o0, ct0, g1, g2, g3, g4, g5⟩ := h0
  obtain ⟨b, o, ct, h1, h2, h3, h4, h5⟩ := hw
  refine ⟨b, o, ct, h1.keep hblk, ?_, h3, h4, ?_⟩
  · exact h2.keep fun q oq hq => by
      have hlt := g1.lt
      have e1 := hf.block q (by omega) (by omega) (by simp)
      have e2 := hf'.block q (by omega) (by omega) (by simp)
      exact World.cell?_of_block (e2.trans e1.symm)
  · rw [hout]
    exact g5.same g1 fun q hq hne => hf'.block q hq hne (by simp)
end
theorem Fr.weak {P : Nat} {A : Option Addr} {w w' : World} (h : Fr P none w w') : Fr P A w w' := ⟨h.os, h.tape, h.output, h.size, fun b hb h1 _ => h.block b hb h1 (by simp)⟩
theorem Fr.transN {P : Nat} {w w1 w2 : World} (h : Fr P none w w1) (k : Fr P none w1 w2) : Fr P none w w2 := h.trans (Mv.refl _ _) k
/-- How a method ends that lays nothing. -/
def OkP (P : Nat) (R : Option Addr × Nat) (w : World) (s' : PS) (v : Value) (e : Ending) (w' : World) : Prop := e = .returned v ∧ PAt w' P R s' ∧ Fr P none w w'
def stopV (x : Int × Int) : List PanicEntry := [{ v := .iface 58 (.agg #[.int .i64 x.1, .int .i64 x.2]), recovered := false }]
section
variable {P : Nat} {R : Option Addr × Nat} {w : World} {s : PS} {M : Nat}
theorem PAt.head (h : PAt w P R s) (hg : PGood M s) : ∃ b o ct, w.cell? ⟨P, 0, none⟩ = some (.slice (some ⟨b, o, none⟩) s.toks.length ct) ∧ 0 < s.toks.length ∧ b < P ∧ w.cell? ⟨b, o, none⟩ = some (.int .i64 s.hd.kind) ∧ w.cell? ⟨b, o + 1, none⟩ = some (.int .i64 s.hd.at_) ∧ w.cell? ⟨b, o + 2, none⟩ = some (.string s.hd.text) ∧ w.cell? ⟨b, o + 3, none⟩ = some (.int .i64 s.hd.span) ∧
    w.cell? ⟨P, 1, none⟩ = some (.int .i64 s.deep) ∧ w.cell? ⟨P, 2, none⟩ = some (.slice R.1 s.out.length R.2) ∧ s.toks.length ≤ ct ∧ ct ≤ maxLen ∧ (∀ j, w.frozen? ⟨P, j, none⟩ = false) := by
  obtain ⟨b, o, ct, h1, h2, h3, h4, _⟩ := h
  have hc := hg.cons
  have h0 : (toksC s.toks)[0]? = some (tokC s.hd) := by rw [hc]; simp [toksC, PS.hd]
  obtain ⟨b', o', e, hb, hcell⟩ := h2.2 (by intro e; rw [e] at h0; simp at h0)
  injection e with e
  injection e with e1 e2
  subst e1 e2
  have hp := hg.pos
  exact ⟨b, o, ct, h1.cell rfl, by omega, hb, by simpa using hcell 0 _ 0 _ h0 rfl, by simpa using hcell 0 _ 1 _ h0 rfl, by simpa using hcell 0 _ 2 _ h0 rfl, by simpa using hcell 0 _ 3 _ h0 rfl, h1.cell rfl, h1.cell rfl, h3, h4, h1.frozen⟩
end
set_option maxHeartbeats 1000000 in
theorem now_any (P : Nat) (R : Option Addr × Nat) (s : PS) (M : Nat) (w : World) (hg : PGood M s) (h : PAt w P R s) :
    Calls Try.prog 27 #[.pointer (some ⟨P, 0, none⟩)] w fun e w' => e = .returned (.agg #[.int .i64 s.hd.kind, .int .i64 s.hd.at_, .string s.hd.text, .int .i64 s.hd.span]) ∧ Below w.heap.size w w' := by
  obtain ⟨b, o, ct, c0, hl, hbP, t0, t1, t2, t3, c1, c2, hct, hcm, hfz⟩ := h.head hg
  have hlt := h.lt
  have hlI : (0 : Int) < s.toks.length := by omega
  have hbs : b < w.heap.size := by omega
  unfold maxLen at hcm
  go_enter Try.func27, Try.ntmps27
  go_wp2_with fail
  exact bodyPost_ret (v := .agg #[.int .i64 s.hd.kind, .int .i64 s.hd.at_, .string s.hd.text, .int .i64 s.hd.span]) (by simp [results, Try.results27, go_sem]; try rfl) rfl ⟨rfl, by repeat (first | exact Below.refl _ _ | refine Below.alloc ?_ (by first | exact Nat.le_refl _ | (simp; done) | (simp; omega)) _ | refine Below.setCell ?_ (by first | exact Nat.le_refl _ | (simp; done) | (simp; omega)) _ | refine Below.drew ?_)⟩
set_option maxRecDepth 100000 in
set_option maxHeartbeats 1000000 in
theorem is_any (P : Nat) (R : Option Addr × Nat) (s : PS) (M : Nat) (w : World) (hg : PGood M s) (h : PAt w P R s) (k : Int) (t : ByteArray) :
    Calls Try.prog 71 #[.pointer (some ⟨P, 0, none⟩), .int .i64 k, .string t] w fun e w' => e = .returned (.bool (s.is k t)) ∧ Below w.heap.size w w' := by
  have HN := Lib.hid (now_any P R s M w hg h)
  by_cases hk : s.hd.kind = k
  · have HT : Hid (s.is k t = decide (s.hd.text = t)) := by show _ = _; simp [PS.is, hk]
    have hkb : (s.hd.kind == k) = true := by rw [beq_iff_eq]; exact hk
    clear hk
    go_enter Try.func71, Try.ntmps71
    go_wp2_with fail
    refine (HN.out).mono ?_
    rintro e w1 ⟨rfl, hb1⟩
    have HN1 := Lib.hid (now_any P R s M w1 hg (h.below hb1))
    have HB1 := Lib.hid hb1
    clear hb1
    go_wp2_with fail
    refine (HN1.out).mono ?_
    rintro e w2 ⟨rfl, hb2⟩
    go_wp2_with fail
    go_ret
    exact ⟨by rw [HT.out, ← beq_toList]; rfl, HB1.out.trans (hb2.mono HB1.out.size)⟩
  · have HT : Hid (s.is k t = false) := by show _ = _; simp [PS.is, hk]
    have hkb : (s.hd.kind == k) = false := by rw [beq_eq_false_iff_ne]; exact hk
    clear hk
    go_enter Try.func71, Try.ntmps71
    go_wp2_with fail
    refine (HN.out).mono ?_
    rintro e w1 ⟨rfl, hb1⟩
    go_wp2_with fail
    go_ret
    exact ⟨by rw [HT.out]; rfl, hb1⟩
set_option maxHeartbeats 1000000 in
theorem fail_any (P : Nat) (why : Int) (t : Tok) (w : World) :
    Calls Try.prog 58 #[.pointer (some ⟨P, 0, none⟩), .int .i64 why, .agg #[.int .i64 t.kind, .int .i64 t.at_, .string t.text, .int .i64 t.span]] w fun e w' => e = .panicked (stopV (why, t.at_)) ∧ Below w.heap.size w w' := by
  go_enter Try.func58, Try.ntmps58
  go_wp2_with fail
  exact ⟨rfl, rfl, by repeat (first | exact Below.refl _ _ | refine Below.alloc ?_ (by first | exact Nat.le_refl _ | (simp; done) | (simp; omega)) _ | refine Below.setCell ?_ (by first | exact Nat.le_refl _ | (simp; done) | (simp; omega)) _ | refine Below.drew ?_)⟩
theorem Rd.tail1 {w : World} {B sz b o : Nat} {x : List Value} {xs : List (List Value)} (h : Rd w B sz (some ⟨b, o, none⟩) (x :: xs)) : Rd w B sz (some ⟨b, o + sz, none⟩) xs := by
  refine ⟨fun y hy => h.1 y (List.mem_cons_of_mem _ hy), fun hne => ?_⟩
  obtain ⟨b', o', e, hb, hc⟩ := h.2 (by simp)
  injection e with e
  injection e with e1 e2
  subst e1 e2
  refine ⟨b, _, rfl, hb, fun k y j v hk hv => ?_⟩
  have := hc (k + 1) y j v (by simpa using hk) hv
  rw [Nat.add_mul, Nat.one_mul] at this
  rw [show o + sz + k * sz + j = o + (k * sz + sz) + j from by omega]
  exact this
theorem OwnNods.setLow {w : World} {base n c : Nat} {A : Option Addr} {ns : List Nod} (h : OwnNods w base A n c ns) {a : Addr} (ha : a.block < base) (u : Value) : OwnNods (w.setCell a u) base A n c ns := by
  obtain ⟨cs, h1, h2, h3⟩ := h
  refine ⟨cs, h1.setLow ha u, h2, fun k x hx => ?_⟩
  obtain ⟨Am, cm, An, cn, hy, ho, hp⟩ := h3 k x hx
  exact ⟨Am, cm, An, cn, hy, ho.setLow ha u, hp.setLow ha u⟩
/-- A store into the reader's block. -/
theorem Fr.setP {P : Nat} {A : Option Addr} {w w' : World} (h : Fr P A w w') (j : Nat) (u : Value) : Fr P A w (w'.setCell ⟨P, j, none⟩ u) :=
  ⟨h.os, h.tape, h.output, by simpa using h.size, fun b hb h1 h2 => (Below.heap_setCell w' ⟨P, j, none⟩ u b h1).trans (h.block b hb h1 h2)⟩
theorem Fr.alloc {P : Nat} {A : Option Addr} {w w' : World} (h : Fr P A w w') (o : Obj) : Fr P A w (w'.alloc o) :=
  ⟨h.os, h.tape, h.output, by simpa using Nat.le_succ_of_le h.size, fun b hb h1 h2 => (Below.heap_alloc w' o b (Nat.lt_of_lt_of_le hb h.size)).trans (h.block b hb h1 h2)⟩
theorem Fr.belowAll {P : Nat} {A : Option Addr} {w w1 w2 : World} (h : Fr P A w w1) (hb : Below w1.heap.size w1 w2) : Fr P A w w2 :=
  ⟨hb.os.trans h.os, hb.tape.trans h.tape, hb.output.trans h.output, Nat.le_trans h.size hb.size, fun b hlt h1 h2 => (hb.block b (Nat.lt_of_lt_of_le hlt h.size)).trans (h.block b hlt h1 h2)⟩
set_option maxHeartbeats 1000000 in
theorem on_any (P : Nat) (R : Option Addr × Nat) (s : PS) (M : Nat) (w : World) (hg : PGood M s) (h : PAt w P R s) (hk : s.hd.kind ≠ 0) :
    Calls Try.prog 70 #[.pointer (some ⟨P, 0, none⟩)] w (OkP P R w s.on (.agg #[.int .i64 s.hd.kind, .int .i64 s.hd.at_, .string s.hd.text, .int .i64 s.hd.span])) := by
  obtain ⟨b, o, ct, c0, hl, hbP, t0, t1, t2, t3, c1, c2, hct, hcm, hfz⟩ := h.head hg
  have hlt := h.lt
  have hl2 := hg.on_len
  have hl3 := (hg.on hk).pos
  have H := Lib.hid h
  have C0 := Lib.hid c0
  have HBB : Hid (Below (w.setCell ⟨P, 0, none⟩ (.slice (some ⟨b, o + 4, none⟩) (s.toks.length - 1) (ct - 1))).heap.size (w.setCell ⟨P, 0, none⟩ (.slice (some ⟨b, o + 4, none⟩) (s.toks.length - 1) (ct - 1))) (((w.setCell ⟨P, 0, none⟩ (.slice (some ⟨b, o + 4, none⟩) (s.toks.length - 1) (ct - 1))).alloc (.cells #[.int .i64 s.hd.kind, .int .i64 s.hd.at_, .string s.hd.text, .int .i64 s.hd.span] 52)).alloc (.cells #[.int .i64 s.hd.kind, .int .i64 s.hd.at_, .string s.hd.text, .int .i64 s.hd.span] 52))) := ((Below.refl _ _).alloc (Nat.le_refl _) _).alloc (by simp) _
  have hlI : (0 : Int) < s.toks.length := by omega
  have hlJ : (1 : Int) ≤ s.toks.length := by omega
  have hlK : (s.toks.length : Int) ≤ ct := by omega
  have hbs : b < w.heap.size := by omega
  unfold maxLen at hcm
  go_enter Try.func70, Try.ntmps70
  go_wp2_with fail
  refine bodyPost_ret (v := .agg #[.int .i64 s.hd.kind, .int .i64 s.hd.at_, .string s.hd.text, .int .i64 s.hd.span]) (by simp [results, Try.results70, go_sem]; try rfl) rfl ⟨rfl, PAt.below ?_ HBB.out, (((Fr.refl P none w).setP 0 _).belowAll HBB.out)⟩
  obtain ⟨b', o', ct', h1, h2, h3, h4, h5⟩ := H.out
  have c0' := h1.cell (j := 0) rfl
  rw [C0.out] at c0'
  injection c0' with c0'
  injection c0' with e1 e2 e3
  injection e1 with e1
  injection e1 with e1 e4
  subst e1 e4 e3
  have hc := hg.cons
  refine ⟨b, o + 4, ct - 1, ?_, ?_, ?_, by omega, ?_⟩
  · have := h1.set 0 (.slice (some ⟨b, o + 4, none⟩) (s.toks.length - 1) (ct - 1))
    rw [show s.toks.length - 1 = s.on.toks.length from by omega] at this ⊢
    exact this
  · rw [hc] at h2
    have := Rd.tail1 h2
    exact this.keep fun q oq hq => by
      have hne : q ≠ P := by omega
      exact World.cell?_of_block (Below.heap_setCell w ⟨P, 0, none⟩ _ q hne)
  · omega
  · exact h5.setLow (by simp) _
set_option maxHeartbeats 1000000 in
theorem stuck_any (P : Nat) (R : Option Addr × Nat) (s : PS) (M : Nat) (w : World) (hg : PGood M s) (h : PAt w P R s) :
    Calls Try.prog 28 #[.pointer (some ⟨P, 0, none⟩)] w fun e w' => e = .panicked (stopV s.stuck) ∧ Below w.heap.size w w' := by
  have HN := Lib.hid (now_any P R s M w hg h)
  have HF := fun (why : Int) (W : World) => Lib.hid (fail_any P why s.hd W)
  by_cases hk : s.hd.kind = 0
  · have HT : Hid (s.stuck = (180, (s.hd.at_ : Int))) := by show _ = _; simp [PS.stuck, hk]
    have hkb : (s.hd.kind == 0) = true := by rw [beq_iff_eq]; exact hk
    clear hk
    go_enter Try.func28, Try.ntmps28
    go_wp2_with fail
    refine (HN.out).mono ?_
    rintro e w1 ⟨rfl, hb1⟩
    have HN1 := Lib.hid (now_any P R s M w1 hg (h.below hb1))
    have HB1 := Lib.hid hb1
    clear hb1
    go_wp2_with fail
    refine (HN1.out).mono ?_
    rintro e w2 ⟨rfl, hb2⟩
    go_wp2_with fail
    refine ((HF _ _).out).mono ?_
    rintro e w3 ⟨rfl, hb3⟩
    go_wp2_with fail
    exact ⟨rfl, by rw [HT.out], HB1.out.trans ((hb2.mono HB1.out.size).trans (hb3.mono (Nat.le_trans HB1.out.size hb2.size)))⟩
  · have HT : Hid (s.stuck = (181, (s.hd.at_ : Int))) := by show _ = _; simp [PS.stuck, hk]
    have hkb : (s.hd.kind == 0) = false := by rw [beq_eq_false_iff_ne]; exact hk
    clear hk
    go_enter Try.func28, Try.ntmps28
    go_wp2_with fail
    refine (HN.out).mono ?_
    rintro e w1 ⟨rfl, hb1⟩
    have HN1 := Lib.hid (now_any P R s M w1 hg (h.below hb1))
    have HB1 := Lib.hid hb1
    clear hb1
    go_wp2_with fail
    refine (HN1.out).mono ?_
    rintro e w2 ⟨rfl, hb2⟩
    go_wp2_with fail
    refine ((HF _ _).out).mono ?_
    rintro e w3 ⟨rfl, hb3⟩
    go_wp2_with fail
    exact ⟨rfl, by rw [HT.out], HB1.out.trans ((hb2.mono HB1.out.size).trans (hb3.mono (Nat.le_trans HB1.out.size hb2.size)))⟩
/-- The reader behind w, where nothing has been laid since. -/
def StQ (P : Nat) (R : Option Addr × Nat) (w0 : World) (s : PS) (w : World) : Prop := PAt w P R s ∧ Fr P none w0 w
section
variable {P : Nat} {R : Option Addr × Nat} {w0 w w' : World} {s s' : PS}
theorem StQ.start (h : PAt w P R s) : StQ P R w s w := ⟨h, Fr.refl _ _ _⟩
theorem StQ.below (h : StQ P R w0 s w) (hb : Below w.heap.size w w') : StQ P R w0 s w' := ⟨h.1.below hb, h.2.belowAll hb⟩
theorem StQ.next (h : StQ P R w0 s w) (k : StQ P R w s' w') : StQ P R w0 s' w' := ⟨k.1, h.2.transN k.2⟩
end
/-- The reader as it stands behind w0, where the row lay at R0. -/
def St (P : Nat) (R0 : Option Addr × Nat) (w0 : World) (R : Option Addr × Nat) (s : PS) (w : World) : Prop := PAt w P R s ∧ Fr P R0.1 w0 w ∧ Mv R0.1 R.1 w0
section
variable {P : Nat} {R0 R : Option Addr × Nat} {w0 w w' : World} {s s' : PS} {x : Int × Int}
theorem St.start (h : PAt w P R s) : St P R w R s w := ⟨h, Fr.refl _ _ _, Mv.refl _ _⟩
theorem St.below (h : St P R0 w0 R s w) (hb : Below w.heap.size w w') : St P R0 w0 R s w' := ⟨h.1.below hb, h.2.1.belowAll hb, h.2.2⟩
theorem St.next {R1 : Option Addr × Nat} (h : St P R0 w0 R s w) (k : St P R w R1 s' w') : St P R0 w0 R1 s' w' := ⟨k.1, h.2.1.trans h.2.2 k.2.1, h.2.2.trans k.2.2 h.2.1.size⟩
theorem St.fail (h : St P R0 w0 R s w) (k : Fr P R.1 w w') : Fr P R0.1 w0 w' := h.2.1.trans h.2.2 k
theorem St.failB (h : St P R0 w0 R s w) (hb : Below w.heap.size w w') : Fr P R0.1 w0 w' := h.2.1.belowAll hb
theorem StQ.st (h : StQ P R w s' w') : St P R w R s' w' := ⟨h.1, h.2.weak, Mv.refl _ _⟩
theorem St.quiet (h : St P R0 w0 R s w) (k : StQ P R w s' w') : St P R0 w0 R s' w' := h.next k.st
theorem St.failQ (h : St P R0 w0 R s w) (k : Fr P none w w') : Fr P R0.1 w0 w' := h.fail k.weak
end
/-- How a method ends that lays nothing and has no result. -/
def ResQ (P : Nat) (R : Option Addr × Nat) (w0 : World) : Rp PS → Ending → World → Prop
  | .ok s', e, w' => e = .returned (.tuple #[]) ∧ StQ P R w0 s' w'
  | .error x, e, w' => e = .panicked (stopV x) ∧ Fr P none w0 w'
/-- How a part of the grammar ends. -/
def ResS (P : Nat) (R0 : Option Addr × Nat) (w0 : World) : Rp PS → Ending → World → Prop
  | .ok s', e, w' => e = .returned (.tuple #[]) ∧ ∃ R', St P R0 w0 R' s' w'
  | .error x, e, w' => e = .panicked (stopV x) ∧ Fr P R0.1 w0 w'
theorem ResS.st {P : Nat} {R0 R : Option Addr × Nat} {w0 w : World} {s : PS} {r : Rp PS} {e : Ending} {w' : World} (hS : St P R0 w0 R s w) (h : ResS P R w r e w') : ResS P R0 w0 r e w' := by
  cases r with
  | ok s' =>
    obtain ⟨h1, R', h2⟩ := h
    exact ⟨h1, R', hS.next h2⟩
  | error x =>
    obtain ⟨h1, h2⟩ := h
    exact ⟨h1, hS.fail h2⟩
/-- What a part of the grammar is: the method f reads as p says. -/
def PartC (P M : Nat) (f : FuncId) (args : Array Value) (p : PS → Rp PS) (q : PS → Prop) : Prop :=
  ∀ (M' : Nat) (R : Option Addr × Nat) (s : PS) (w : World), M' ≤ M → PGood M' s → q s → PAt w P R s → Calls Try.prog f args w (ResS P R w (p s))
theorem PartC.st {P M : Nat} {f : FuncId} {args : Array Value} {p : PS → Rp PS} {q : PS → Prop} (h : PartC P M f args p q) {M' : Nat} {R0 R : Option Addr × Nat} {s : PS} {w0 w : World} (hM : M' ≤ M) (hg : PGood M' s) (hq : q s) (hS : St P R0 w0 R s w) :
    Calls Try.prog f args w (ResS P R0 w0 (p s)) := (h M' R s w hM hg hq hS.1).mono fun _ _ hr => ResS.st hS hr
section
variable {P M : Nat} {R : Option Addr × Nat} {w0 w : World} {s : PS}
theorem is_st (hg : PGood M s) (h : StQ P R w0 s w) (k : Int) (t : ByteArray) :
    Calls Try.prog 71 #[.pointer (some ⟨P, 0, none⟩), .int .i64 k, .string t] w fun e w' => e = .returned (.bool (s.is k t)) ∧ StQ P R w0 s w' := (is_any P R s M w hg h.1 k t).mono fun _ _ ⟨h1, h2⟩ => ⟨h1, h.below h2⟩
theorem now_st (hg : PGood M s) (h : StQ P R w0 s w) :
    Calls Try.prog 27 #[.pointer (some ⟨P, 0, none⟩)] w fun e w' => e = .returned (.agg #[.int .i64 s.hd.kind, .int .i64 s.hd.at_, .string s.hd.text, .int .i64 s.hd.span]) ∧ StQ P R w0 s w' := (now_any P R s M w hg h.1).mono fun _ _ ⟨h1, h2⟩ => ⟨h1, h.below h2⟩
theorem stuck_st (hg : PGood M s) (h : StQ P R w0 s w) :
    Calls Try.prog 28 #[.pointer (some ⟨P, 0, none⟩)] w fun e w' => e = .panicked (stopV s.stuck) ∧ Fr P none w0 w' := (stuck_any P R s M w hg h.1).mono fun _ _ ⟨h1, h2⟩ => ⟨h1, h.2.belowAll h2⟩
theorem fail_st (h : StQ P R w0 s w) (why : Int) (t : Tok) :
    Calls Try.prog 58 #[.pointer (some ⟨P, 0, none⟩), .int .i64 why, .agg #[.int .i64 t.kind, .int .i64 t.at_, .string t.text, .int .i64 t.span]] w fun e w' => e = .panicked (stopV (why, t.at_)) ∧ Fr P none w0 w' := (fail_any P why t w).mono fun _ _ ⟨h1, h2⟩ => ⟨h1, h.2.belowAll h2⟩
theorem on_st (hg : PGood M s) (h : StQ P R w0 s w) (hk : s.hd.kind ≠ 0) :
    Calls Try.prog 70 #[.pointer (some ⟨P, 0, none⟩)] w fun e w' => e = .returned (.agg #[.int .i64 s.hd.kind, .int .i64 s.hd.at_, .string s.hd.text, .int .i64 s.hd.span]) ∧ StQ P R w0 s.on w' := (on_any P R s M w hg h.1 hk).mono fun _ _ ⟨h1, h2, h3⟩ => ⟨h1, h.next ⟨h2, h3⟩⟩
set_option maxHeartbeats 1000000 in
theorem psign_st (hg : PGood M s) (h : StQ P R w0 s w) (t : ByteArray) :
    Calls Try.prog 87 #[.pointer (some ⟨P, 0, none⟩), .string t] w (ResQ P R w0 (s.sign t)) := by
  have HI := Lib.hid (is_st hg h 5 t)
  by_cases hi : s.is 5 t = true
  · have HT : Hid (s.sign t = .ok s.on) := by show _ = _; rw [PS.sign, if_pos hi]
    have hk : s.hd.kind ≠ 0 := by rw [is_kind hi]; decide
    rw [hi] at HI
    have HO := fun (W : World) (h : StQ P R w0 s W) => Lib.hid (on_st hg h hk)
    clear hi hk
    go_enter Try.func87, Try.ntmps87
    go_wp2_with fail
    refine (HI.out).mono ?_
    rintro e w1 ⟨rfl, hS⟩
    go_wp2_with fail
    refine ((HO _ hS).out).mono ?_
    rintro e w2 ⟨rfl, hS2⟩
    go_wp2_with fail
    go_end0
    rw [HT.out]
    exact ⟨rfl, hS2⟩
  · have HT : Hid (s.sign t = .error s.stuck) := by show _ = _; rw [PS.sign, if_neg hi]
    rw [Bool.not_eq_true] at hi
    rw [hi] at HI
    have HK := fun (W : World) (h : StQ P R w0 s W) => Lib.hid (stuck_st hg h)
    clear hi
    go_enter Try.func87, Try.ntmps87
    go_wp2_with fail
    refine (HI.out).mono ?_
    rintro e w1 ⟨rfl, hS⟩
    go_wp2_with fail
    refine ((HK _ hS).out).mono ?_
    rintro e w2 ⟨rfl, hS2⟩
    go_wp2_with fail
    refine ⟨rfl, ?_⟩
    rw [HT.out]
    exact ⟨rfl, hS2⟩
end
end Go.Proofs.Ytdikmklijpcjdaa
