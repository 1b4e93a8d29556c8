/- How a query is read: by which labels is grouped. -/
import Derived.Test.YtakfnojiaakfpaaGreatDoorPQuery
import Derived.Test.YtakfnojiaakfpaaGreatDoorNodC
import Derived.Test.YtakfnojiaakfpaaGreatDoorTypSrc
import Derived.Deep.RegionHeld3
import Derived.Deep.RegionLaw
import Derived.Deep.DrawnRows
namespace Go.Proofs.YtakfnojiaakfpaaGreatDoor
section
open Go.RowKit
theorem tok_f0 (a b c d : Value) (w : World) : (Instr.field 67 (.agg #[a, b, c, d]) 0).run Tryz.prog w = .ok a w := by kernel_rfl
theorem tok_f2 (a b c d : Value) (w : World) : (Instr.field 67 (.agg #[a, b, c, d]) 2).run Tryz.prog w = .ok c w := by kernel_rfl
theorem tok_f3 (a b c d : Value) (w : World) : (Instr.field 67 (.agg #[a, b, c, d]) 3).run Tryz.prog w = .ok d w := by kernel_rfl
attribute [local go_sem ↓] tok_f0 tok_f2 tok_f3
/-- The reader in block P: what is left to read lies below it, what is laid above it. -/
def PAt (w : World) (P : Nat) (R : Option Addr × Nat) (s : PS) : Prop :=
  ∃ b o ct, Blk w P 62 [.slice (some ⟨b, o, none⟩) s.toks.length ct, .int .i64 s.deep, .slice R.1 s.out.length R.2] ∧ Rd w P 4 (some ⟨b, o, none⟩) (toksC s.toks) ∧ s.toks.length ≤ ct ∧ ct ≤ maxLen ∧ OwnNods w (P + 1) R.1 s.out.length R.2 s.out
/-- All that was there reads as before, but for the reader's block and the row of what is laid. -/
structure Fr (P : Nat) (A : Option Addr) (w w' : World) : Prop where
  os : w'.os = w.os
  tape : w'.tape = w.tape
  output : w'.output = w.output
  size : w.heap.size ≤ w'.heap.size
  block : ∀ b, b < w.heap.size → b ≠ P → A.map Addr.block ≠ some b → w'.heap[b]? = w.heap[b]?
/-- Where the row lies: where it lay, or in new memory. -/
def Mv (A A' : Option Addr) (w : World) : Prop := A'.map Addr.block = A.map Addr.block ∨ ∃ g, A'.map Addr.block = some g ∧ w.heap.size ≤ g
theorem Mv.refl (A : Option Addr) (w : World) : Mv A A w := .inl rfl
theorem Mv.trans {A A1 A2 : Option Addr} {w w1 : World} (h : Mv A A1 w) (k : Mv A1 A2 w1) (hz : w.heap.size ≤ w1.heap.size) : Mv A A2 w := by
  rcases k with k | ⟨g, k, hg⟩
  · rcases h with h | ⟨g, h, hg⟩
    · exact .inl (k.trans h)
    · exact .inr ⟨g, k.trans h, hg⟩
  · exact .inr ⟨g, k, Nat.le_trans hz hg⟩
theorem Fr.refl (P : Nat) (A : Option Addr) (w : World) : Fr P A w w := ⟨rfl, rfl, rfl, Nat.le_refl _, fun _ _ _ _ => rfl⟩
theorem Fr.trans {P : Nat} {A A1 : Option Addr} {w w1 w2 : World} (h : Fr P A w w1) (hm : Mv A A1 w) (k : Fr P A1 w1 w2) : Fr P A w w2 :=
  ⟨k.os.trans h.os, k.tape.trans h.tape, k.output.trans h.output, Nat.le_trans h.size k.size, fun b hb h1 h2 => by
    rw [k.block b (Nat.lt_of_lt_of_le hb h.size) h1 ?_, h.block b hb h1 h2]
    rcases hm with hm | ⟨g, hm, hg⟩
    · rw [hm]; exact h2
    · rw [hm]; intro e; injection e with e; omega⟩
theorem Fr.below {P : Nat} {A : Option Addr} {w w' : World} (h : Fr P A w w') (hA : ∀ b, A.map Addr.block = some b → P < b) (hP : P < w.heap.size) : Below P w w' :=
  ⟨h.os, h.tape, h.output, h.size, fun b hb => h.block b (by omega) (by omega) (fun e => by have := hA b e; omega)⟩
section
variable {w w' w0 : World} {P : Nat} {R : Option Addr × Nat} {s s0 : PS}
theorem PAt.lt (h : PAt w P R s) : P < w.heap.size := by
  obtain ⟨b, o, ct, h1, _⟩ := h
  exact h1.lt
theorem PAt.above (h : PAt w P R s) {b : Nat} (hb : R.1.map Addr.block = some b) : P < b ∧ b < w.heap.size := by
  obtain ⟨_, _, _, _, _, _, _, cs, h5, _⟩ := h
  have := h5.block hb
  omega
theorem PAt.below (h : PAt w P R s) (hb : Below w.heap.size w w') : PAt w' P R s := by
  have hlt := h.lt
  obtain ⟨b, o, ct, h1, h2, h3, h4, h5⟩ := h
  exact ⟨b, o, ct, h1.below hb h1.lt, h2.below (hb.mono (by omega)), h3, h4, h5.belowAll hb⟩
theorem PAt.frame (h : PAt w P R s) (hf : Fr P R.1 w w') : Below P w w' := hf.below (fun _ hb => (h.above hb).1) h.lt
/-- A row is as it was where its block is. -/
theorem Own.same {base sz n c : Nat} {e : TypeId} {A : Option Addr} {xs : List (List Value)} (h : Own w base e sz A n c xs) (hk : ∀ b, A.map Addr.block = some b → w'.heap[b]? = w.heap[b]?) : Own w' base e sz A n c xs := by
  refine ⟨h.1, h.2.1, h.2.2.1, h.2.2.2.1, ?_⟩
  rcases h.2.2.2.2 with hn | ⟨g, cap, cur, hv, hbg, hg, rest⟩
  · exact .inl hn
  · refine .inr ⟨g, cap, cur, hv, hbg, ?_, rest⟩
    injection hv with h1
    rw [hk g (by rw [h1]; rfl)]
    exact hg
theorem OwnNods.same {base n c : Nat} {A : Option Addr} {ns : List Nod} {cs0 : List Value} (h : OwnNods w base A n c ns) (hP : Blk w P 62 cs0) (hk : ∀ b, b < w.heap.size → b ≠ P → w'.heap[b]? = w.heap[b]?) : OwnNods w' base A n c ns := by
  obtain ⟨cs, h1, h2, h3⟩ := h
  have key : ∀ {base sz n c : Nat} {e : TypeId} {A : Option Addr} {xs : List (List Value)}, Own w base e sz A n c xs → e ≠ 62 → Own w' base e sz A n c xs := fun ho he => ho.same fun b hb => hk b (ho.block hb).2 (fun e => own_ne_blk ho hP he (by rw [← e]; exact hb.symm))
  refine ⟨cs, key h1 (by decide), h2, fun k x hx => ?_⟩
  obtain ⟨Am, cm, An, cn, hy, ho, hp⟩ := h3 k x hx
  exact ⟨Am, cm, An, cn, hy, key ho (by decide), key hp (by decide)⟩
end
theorem Fr.weak {P : Nat} {A : Option Addr} {w w' : World} (h : Fr P none w w') : Fr P A w w' := ⟨h.os, h.tape, h.output, h.size, fun b hb h1 _ => h.block b hb h1 (by simp)⟩
theorem Fr.transN {P : Nat} {w w1 w2 : World} (h : Fr P none w w1) (k : Fr P none w1 w2) : Fr P none w w2 := h.trans (Mv.refl _ _) k
def stopV (x : Int × Int) : List PanicEntry := [{ v := .iface 64 (.agg #[.int .i64 x.1, .int .i64 x.2]), recovered := false }]
section
variable {P : Nat} {R : Option Addr × Nat} {w : World} {s : PS} {M : Nat}
theorem PAt.head (h : PAt w P R s) (hg : PGood M s) : ∃ b o ct, w.cell? ⟨P, 0, none⟩ = some (.slice (some ⟨b, o, none⟩) s.toks.length ct) ∧ 0 < s.toks.length ∧ b < P ∧ w.cell? ⟨b, o, none⟩ = some (.int .i64 s.hd.kind) ∧ w.cell? ⟨b, o + 1, none⟩ = some (.int .i64 s.hd.at_) ∧ w.cell? ⟨b, o + 2, none⟩ = some (.string s.hd.text) ∧ w.cell? ⟨b, o + 3, none⟩ = some (.int .i64 s.hd.span) ∧
    w.cell? ⟨P, 1, none⟩ = some (.int .i64 s.deep) ∧ w.cell? ⟨P, 2, none⟩ = some (.slice R.1 s.out.length R.2) ∧ s.toks.length ≤ ct ∧ ct ≤ maxLen ∧ (∀ j, w.frozen? ⟨P, j, none⟩ = false) := by
  obtain ⟨b, o, ct, h1, h2, h3, h4, _⟩ := h
  have hc := hg.cons
  have h0 : (toksC s.toks)[0]? = some (tokC s.hd) := by rw [hc]; simp [toksC, PS.hd]
  obtain ⟨b', o', e, hb, hcell⟩ := h2.2 (by intro e; rw [e] at h0; simp at h0)
  injection e with e
  injection e with e1 e2
  subst e1 e2
  have hp := hg.pos
  exact ⟨b, o, ct, h1.cell rfl, by omega, hb, by simpa using hcell 0 _ 0 _ h0 rfl, by simpa using hcell 0 _ 1 _ h0 rfl, by simpa using hcell 0 _ 2 _ h0 rfl, by simpa using hcell 0 _ 3 _ h0 rfl, h1.cell rfl, h1.cell rfl, h3, h4, h1.frozen⟩
end
theorem Rd.tail1 {w : World} {B sz b o : Nat} {x : List Value} {xs : List (List Value)} (h : Rd w B sz (some ⟨b, o, none⟩) (x :: xs)) : Rd w B sz (some ⟨b, o + sz, none⟩) xs := by
  refine ⟨fun y hy => h.1 y (List.mem_cons_of_mem _ hy), fun hne => ?_⟩
  obtain ⟨b', o', e, hb, hc⟩ := h.2 (by simp)
  injection e with e
  injection e with e1 e2
  subst e1 e2
  refine ⟨b, _, rfl, hb, fun k y j v hk hv => ?_⟩
  have := hc (k + 1) y j v (by simpa using hk) hv
  rw [Nat.add_mul, Nat.one_mul] at this
  rw [show o + sz + k * sz + j = o + (k * sz + sz) + j from by omega]
  exact this
theorem OwnNods.setLow {w : World} {base n c : Nat} {A : Option Addr} {ns : List Nod} (h : OwnNods w base A n c ns) {a : Addr} (ha : a.block < base) (u : Value) : OwnNods (w.setCell a u) base A n c ns := by
  obtain ⟨cs, h1, h2, h3⟩ := h
  refine ⟨cs, h1.setLow ha u, h2, fun k x hx => ?_⟩
  obtain ⟨Am, cm, An, cn, hy, ho, hp⟩ := h3 k x hx
  exact ⟨Am, cm, An, cn, hy, ho.setLow ha u, hp.setLow ha u⟩
theorem Fr.alloc {P : Nat} {A : Option Addr} {w w' : World} (h : Fr P A w w') (o : Obj) : Fr P A w (w'.alloc o) :=
  ⟨h.os, h.tape, h.output, by simpa using Nat.le_succ_of_le h.size, fun b hb h1 h2 => (Below.heap_alloc w' o b (Nat.lt_of_lt_of_le hb h.size)).trans (h.block b hb h1 h2)⟩
theorem Fr.belowAll {P : Nat} {A : Option Addr} {w w1 w2 : World} (h : Fr P A w w1) (hb : Below w1.heap.size w1 w2) : Fr P A w w2 :=
  ⟨hb.os.trans h.os, hb.tape.trans h.tape, hb.output.trans h.output, Nat.le_trans h.size hb.size, fun b hlt h1 h2 => (hb.block b (Nat.lt_of_lt_of_le hlt h.size)).trans (h.block b hlt h1 h2)⟩
/-- The reader behind w, where nothing has been laid since. -/
def StQ (P : Nat) (R : Option Addr × Nat) (w0 : World) (s : PS) (w : World) : Prop := PAt w P R s ∧ Fr P none w0 w
section
variable {P : Nat} {R : Option Addr × Nat} {w0 w w' : World} {s s' : PS}
theorem StQ.start (h : PAt w P R s) : StQ P R w s w := ⟨h, Fr.refl _ _ _⟩
theorem StQ.below (h : StQ P R w0 s w) (hb : Below w.heap.size w w') : StQ P R w0 s w' := ⟨h.1.below hb, h.2.belowAll hb⟩
theorem StQ.next (h : StQ P R w0 s w) (k : StQ P R w s' w') : StQ P R w0 s' w' := ⟨k.1, h.2.transN k.2⟩
end
/-- The reader as it stands behind w0, where the row lay at R0. -/
def St (P : Nat) (R0 : Option Addr × Nat) (w0 : World) (R : Option Addr × Nat) (s : PS) (w : World) : Prop := PAt w P R s ∧ Fr P R0.1 w0 w ∧ Mv R0.1 R.1 w0
section
variable {P : Nat} {R0 R : Option Addr × Nat} {w0 w w' : World} {s s' : PS} {x : Int × Int}
theorem St.start (h : PAt w P R s) : St P R w R s w := ⟨h, Fr.refl _ _ _, Mv.refl _ _⟩
theorem St.below (h : St P R0 w0 R s w) (hb : Below w.heap.size w w') : St P R0 w0 R s w' := ⟨h.1.below hb, h.2.1.belowAll hb, h.2.2⟩
theorem St.next {R1 : Option Addr × Nat} (h : St P R0 w0 R s w) (k : St P R w R1 s' w') : St P R0 w0 R1 s' w' := ⟨k.1, h.2.1.trans h.2.2 k.2.1, h.2.2.trans k.2.2 h.2.1.size⟩
theorem St.fail (h : St P R0 w0 R s w) (k : Fr P R.1 w w') : Fr P R0.1 w0 w' := h.2.1.trans h.2.2 k
theorem StQ.st (h : StQ P R w s' w') : St P R w R s' w' := ⟨h.1, h.2.weak, Mv.refl _ _⟩
end
/-- How a part of the grammar ends. -/
def ResS (P : Nat) (R0 : Option Addr × Nat) (w0 : World) : Rp PS → Ending → World → Prop
  | .ok s', e, w' => e = .returned (.tuple #[]) ∧ ∃ R', St P R0 w0 R' s' w'
  | .error x, e, w' => e = .panicked (stopV x) ∧ Fr P R0.1 w0 w'
theorem ResS.st {P : Nat} {R0 R : Option Addr × Nat} {w0 w : World} {s : PS} {r : Rp PS} {e : Ending} {w' : World} (hS : St P R0 w0 R s w) (h : ResS P R w r e w') : ResS P R0 w0 r e w' := by
  cases r with
  | ok s' =>
    obtain ⟨h1, R', h2⟩ := h
    exact ⟨h1, R', hS.next h2⟩
  | error x =>
    obtain ⟨h1, h2⟩ := h
    exact ⟨h1, hS.fail h2⟩
/-- What a part of the grammar is: the method f reads as p says. -/
def PartC (P M : Nat) (f : FuncId) (args : Array Value) (p : PS → Rp PS) (q : PS → Prop) : Prop :=
  ∀ (M' : Nat) (R : Option Addr × Nat) (s : PS) (w : World), M' ≤ M → PGood M' s → q s → PAt w P R s → Calls Tryz.prog f args w (ResS P R w (p s))
theorem PartC.st {P M : Nat} {f : FuncId} {args : Array Value} {p : PS → Rp PS} {q : PS → Prop} (h : PartC P M f args p q) {M' : Nat} {R0 R : Option Addr × Nat} {s : PS} {w0 w : World} (hM : M' ≤ M) (hg : PGood M' s) (hq : q s) (hS : St P R0 w0 R s w) :
    Calls Tryz.prog f args w (ResS P R0 w0 (p s)) := (h M' R s w hM hg hq hS.1).mono fun _ _ hr => ResS.st hS hr
end
section
open Go.RowKit
attribute [local go_sem ↓] Go.wp_at_zero Go.wp_at_succ tok_f0 tok_f2 tok_f3
theorem PAt.parts {w : World} {P : Nat} {R : Option Addr × Nat} {s : PS} (h : PAt w P R s) : ∃ b o ct cs, Blk w P 62 [.slice (some ⟨b, o, none⟩) s.toks.length ct, .int .i64 s.deep, .slice R.1 s.out.length R.2] ∧ Rd w P 4 (some ⟨b, o, none⟩) (toksC s.toks) ∧ s.toks.length ≤ ct ∧ ct ≤ maxLen ∧ Own w (P + 1) 41 10 R.1 s.out.length R.2 cs ∧ s.out.length = s.out.length ∧
    ∀ (k : Nat) (x : Nod), s.out[k]? = some x → ∃ Am cm An cn, cs[k]? = some (nodC x Am cm An cn) ∧ Own w (P + 1) 37 3 Am x.mat.length cm (matsC x.mat) ∧ Own w (P + 1) 9 1 An x.names.length cn (textsC x.names) := by
  obtain ⟨b, o, ct, h1, h2, h3, h4, cs, h5, h6, h7⟩ := h
  exact ⟨b, o, ct, cs, h1, h2, h3, h4, h5, h6, h7⟩
theorem Fr.grown {P : Nat} {A : Option Addr} {w w1 w2 : World} (h : Fr P A w w1) (hg : w1.grownBy w2 (A.map Addr.block)) : Fr P A w w2 :=
  ⟨hg.os.trans h.os, hg.tape.trans h.tape, hg.output.trans h.output, Nat.le_trans h.size hg.size, fun b hlt h1 h2 => (hg.block b (Nat.lt_of_lt_of_le hlt h.size) (Ne.symm h2)).trans (h.block b hlt h1 h2)⟩
end
section
open Go.RowKit
theorem numF_at {w : ByteArray} : ∀ (l : List ByteArray) (st k : Nat) (x : ByteArray), (∀ j y, j < k → l[j]? = some y → ¬ (y = w ∧ w ≠ ByteArray.empty)) → l[k]? = some x → x = w → w ≠ ByteArray.empty → numF st l w = ((st + k : Nat) : Int)
  | [], st, k, x, _, hx, _, _ => by simp at hx
  | y :: r, st, 0, x, _, hx, he, hw => by
    simp at hx
    subst hx
    rw [numF, if_pos ⟨he, hw⟩]
    simp
  | y :: r, st, k + 1, x, hb, hx, he, hw => by
    rw [numF, if_neg (hb 0 y (by omega) rfl), numF_at r (st + 1) k x (fun j z hj hz => hb (j + 1) z (by omega) (by simpa using hz)) (by simpa using hx) he hw]
    congr 1
    omega
theorem numF_none {w : ByteArray} : ∀ (l : List ByteArray) (st : Nat), (∀ j y, j < l.length → l[j]? = some y → ¬ (y = w ∧ w ≠ ByteArray.empty)) → numF st l w = 0
  | [], _, _ => rfl
  | y :: r, st, hb => by
    rw [numF, if_neg (hb 0 y (by simp) rfl)]
    exact numF_none r (st + 1) fun j z hj hz => hb (j + 1) z (Nat.succ_lt_succ hj) (by simpa using hz)
theorem num_step {l : List ByteArray} {w : ByteArray} {k : Nat} {x : ByteArray} (hb : Hid (∀ j y, j < k → l[j]? = some y → ¬ (y = w ∧ w ≠ ByteArray.empty))) (h : l[k]? = some x) (he : ¬ (x = w ∧ w ≠ ByteArray.empty)) : Hid (∀ j y, j < k + 1 → l[j]? = some y → ¬ (y = w ∧ w ≠ ByteArray.empty)) := by
  intro j y hj hy
  by_cases e : j = k
  · subst e
    rw [h] at hy
    injection hy with hy
    subst hy
    exact he
  · exact hb j y (by omega) hy
theorem empty_size {w : ByteArray} : w = ByteArray.empty ↔ ¬ 1 ≤ w.size := by
  constructor
  · rintro rfl; decide
  · intro h
    apply WideShapes.bytes_inj
    have : w.data.toList = [] := by
      apply List.eq_nil_of_length_eq_zero
      have := Lib.size_eq w
      omega
    rw [this]
    rfl
set_option maxHeartbeats 1000000 in
theorem number_any_p (l : List ByteArray) (wd : ByteArray) (A : Option Addr) (n c B : Nat) (w : World) (hr : Rd w B 1 A (textsC l)) (hn : l.length = n) (hm : n ≤ maxLen) :
    Calls Tryz.prog 91 #[.slice A n c, .string wd] w fun e w' => e = .returned (.int .i64 (numW l wd)) ∧ w = w' := by
  unfold maxLen at hm
  have Hn := Lib.hid hn
  clear hn
  by_cases hw : 1 ≤ wd.size
  · have hwe : wd.toList.isEmpty = false := isEmpty_no hw
    have hwn : wd ≠ ByteArray.empty := fun e => empty_size.1 e hw
    have HW := Lib.hid hwn
    clear hwn
    go_enter Tryz.func91, Tryz.ntmps91
    go_wp2_with fail
    go_loop [9] (fun i => ∃ k : Nat, i = .int .i64 k ∧ k ≤ n ∧ Hid (∀ j y, j < k → l[j]? = some y → ¬ (y = wd ∧ wd ≠ ByteArray.empty))) (fun i => n - (intOf i).toNat)
    case atStart => exact ⟨0, rfl, by omega, fun j m hj => by omega⟩
    case round =>
      obtain ⟨k, rfl, hk, HA⟩ := hrel
      by_cases hlt : k < n
      · obtain ⟨x, hl⟩ := get_lt Hn hlt
        obtain ⟨b, o, rfl, hbB, g0⟩ := hr.at1 (textsC_at hl)
        have hltI : (k : Int) < (n : Int) := by omega
        by_cases he : x = wd
        · have HT : Hid (numW l wd = (k : Int)) := by show _ = _; rw [numW, numF_at l 0 k x HA.out hl he HW.out]; simp
          have heb : (x.toList == wd.toList) = true := by rw [beq_toList]; exact decide_eq_true he
          clear hl he HA
          go_wp2_with fail
          go_ret
          exact ⟨ret_int HT.out.symm, rfl⟩
        · have heb : (x.toList == wd.toList) = false := by rw [beq_toList]; exact decide_eq_false he
          have HA2 := num_step HA hl (fun h => he h.1)
          clear hl he HA
          go_wp2_with fail
          go_round
          case rel => exact ⟨k + 1, by go_num, by omega, HA2⟩
          case measure => simp [intOf]; omega
      · have hkn : k = n := by omega
        subst hkn
        have HT : Hid (numW l wd = 0) := numF_none l 0 (fun j y hj hy => HA.out j y (by have := Hn.out; omega) hy)
        go_wp2_with fail
        go_ret
        exact ⟨ret_int HT.out.symm, rfl⟩
  · have hwe : wd.toList.isEmpty = true := isEmpty_yes hw
    have hw0 := empty_size.2 hw
    have HT : Hid (numW l wd = 0) := numF_none l 0 (fun j y hj hy h => h.2 hw0)
    clear hw0
    go_enter Tryz.func91, Tryz.ntmps91
    go_wp2_with fail
    go_loop [9] (fun i => ∃ k : Nat, i = .int .i64 k ∧ k ≤ n) (fun i => n - (intOf i).toNat)
    case atStart => exact ⟨0, rfl, by omega⟩
    case round =>
      obtain ⟨k, rfl, hk⟩ := hrel
      by_cases hlt : k < n
      · obtain ⟨x, hl⟩ := get_lt Hn hlt
        obtain ⟨b, o, rfl, hbB, g0⟩ := hr.at1 (textsC_at hl)
        have hltI : (k : Int) < (n : Int) := by omega
        clear hl
        by_cases he : x = wd
        · have heb : (x.toList == wd.toList) = true := by rw [beq_toList]; exact decide_eq_true he
          clear he
          go_wp2_with fail
          go_round
          case rel => exact ⟨k + 1, by go_num, by omega⟩
          case measure => simp [intOf]; omega
        · have heb : (x.toList == wd.toList) = false := by rw [beq_toList]; exact decide_eq_false he
          clear he
          go_wp2_with fail
          go_round
          case rel => exact ⟨k + 1, by go_num, by omega⟩
          case measure => simp [intOf]; omega
      · have hkn : k = n := by omega
        subst hkn
        go_wp2_with fail
        go_ret
        exact ⟨ret_int HT.out.symm, rfl⟩
/-- A list of words, newly made. -/
def WordsOut (l : List ByteArray) (n : Nat) (w : World) (e : Ending) (w' : World) : Prop := e = .returned (.slice (some ⟨w.heap.size, 0, none⟩) n n) ∧ Rd w' (w.heap.size + 1) 1 (some ⟨w.heap.size, 0, none⟩) (textsC l) ∧ Below w.heap.size w w'
set_option maxHeartbeats 1000000 in
theorem pops_any (w : World) : Calls Tryz.prog 92 #[] w (WordsOut opsL 14 w) := by
  go_enter Tryz.func92, Tryz.ntmps92
  go_wp2_with fail
  go_ret
  exact ⟨rfl, Rd.new w (textsC_sz _) _ rfl, (Below.refl _ _).alloc (Nat.le_refl _) _⟩
set_option maxHeartbeats 1000000 in
theorem pfuncs_any (w : World) : Calls Tryz.prog 83 #[] w (WordsOut funcsL 13 w) := by
  go_enter Tryz.func83, Tryz.ntmps83
  go_wp2_with fail
  go_ret
  exact ⟨rfl, Rd.new w (textsC_sz _) _ rfl, (Below.refl _ _).alloc (Nat.le_refl _) _⟩
set_option maxHeartbeats 1000000 in
theorem paggs_any (w : World) : Calls Tryz.prog 112 #[] w (WordsOut aggsL 6 w) := by
  go_enter Tryz.func112, Tryz.ntmps112
  go_wp2_with fail
  go_ret
  exact ⟨rfl, Rd.new w (textsC_sz _) _ rfl, (Below.refl _ _).alloc (Nat.le_refl _) _⟩
theorem numfuncs_any (wd : ByteArray) (w : World) (g : Nat) (hr : Rd w (g + 1) 1 (some ⟨g, 0, none⟩) (textsC funcsL)) :
    Calls Tryz.prog 91 #[.slice (some ⟨g, 0, none⟩) 13 13, .string wd] w fun e w' => e = .returned (.int .i64 (numW funcsL wd)) ∧ w = w' := number_any_p funcsL wd (some ⟨g, 0, none⟩) 13 13 (g + 1) w hr rfl (by simp [maxLen])
theorem numaggs_any (wd : ByteArray) (w : World) (g : Nat) (hr : Rd w (g + 1) 1 (some ⟨g, 0, none⟩) (textsC aggsL)) :
    Calls Tryz.prog 91 #[.slice (some ⟨g, 0, none⟩) 6 6, .string wd] w fun e w' => e = .returned (.int .i64 (numW aggsL wd)) ∧ w = w' := number_any_p aggsL wd (some ⟨g, 0, none⟩) 6 6 (g + 1) w hr rfl (by simp [maxLen])
theorem numF_nonneg (w : ByteArray) : ∀ (l : List ByteArray) (st : Nat), 0 ≤ numF st l w
  | [], _ => by simp [numF]
  | x :: r, st => by
    rw [numF]
    split
    · omega
    · exact numF_nonneg w r (st + 1)
theorem numF_le (w : ByteArray) : ∀ (l : List ByteArray) (st : Nat), numF st l w ≤ ((st + l.length : Nat) : Int)
  | [], st => by simp [numF]
  | x :: r, st => by
    rw [numF]
    split
    · simp only [List.length_cons]; omega
    · have := numF_le w r (st + 1)
      simp only [List.length_cons]
      omega
theorem numW_bd (l : List ByteArray) (w : ByteArray) : 0 ≤ numW l w ∧ numW l w ≤ l.length := by
  have := numF_le w l 0
  exact ⟨numF_nonneg w l 0, by rw [numW]; simpa using this⟩
end
section
open Go.RowKit
attribute [local go_sem ↓] tok_f0 tok_f2 tok_f3
theorem lit_toList (l : List UInt8) : (⟨l.toArray⟩ : ByteArray).toList = l := by rw [Lib.toList_data]
theorem beq_lit (t : ByteArray) (l : List UInt8) (h : ¬ t = ⟨l.toArray⟩) : (t.toList == l) = false := by
  have h1 := beq_toList (a := t) (b := ⟨l.toArray⟩)
  rw [decide_eq_false h] at h1
  have e := lit_toList l
  rw [e] at h1
  exact h1
theorem keptB_in {w : ByteArray} (h : w ∈ keptL) : keptB w = true := by
  have : keptL.any (fun x => decide (w = x)) = true := by
    rw [List.any_eq_true]
    exact ⟨w, h, by simp⟩
  simp [keptB, this]
theorem keptB_out {w : ByteArray} (h : w ∉ keptL) : keptB w = (decide (0 < numW funcsL w) || decide (0 < numW aggsL w)) := by
  have : keptL.any (fun x => decide (w = x)) = false := by
    rw [List.any_eq_false]
    intro x hx
    simp only [decide_eq_true_eq]
    rintro rfl
    exact h hx
  simp [keptB, this]
set_option maxHeartbeats 2000000 in
theorem kept_any (t : ByteArray) (w : World) : Calls Tryz.prog 79 #[.string t] w fun e w' => e = .returned (.bool (keptB t)) ∧ Below w.heap.size w w' := by
  by_cases eor : t = ⟨#[111, 114]⟩
  · subst eor
    have HT : Hid (keptB ⟨#[111, 114]⟩ = true) := keptB_in (by simp [keptL, sOr, sAnd, sUnless, sBool, sOn, sIgn, sBy, sWithout, sOffset])
    go_enter Tryz.func79, Tryz.ntmps79
    go_wp2_with fail
    go_ret
    exact ⟨ret_bool HT.out.symm, Below.refl _ _⟩
  by_cases eand : t = ⟨#[97, 110, 100]⟩
  · subst eand
    have HT : Hid (keptB ⟨#[97, 110, 100]⟩ = true) := keptB_in (by simp [keptL, sOr, sAnd, sUnless, sBool, sOn, sIgn, sBy, sWithout, sOffset])
    go_enter Tryz.func79, Tryz.ntmps79
    go_wp2_with fail
    go_ret
    exact ⟨ret_bool HT.out.symm, Below.refl _ _⟩
  by_cases eunless : t = ⟨#[117, 110, 108, 101, 115, 115]⟩
  · subst eunless
    have HT : Hid (keptB ⟨#[117, 110, 108, 101, 115, 115]⟩ = true) := keptB_in (by simp [keptL, sOr, sAnd, sUnless, sBool, sOn, sIgn, sBy, sWithout, sOffset])
    go_enter Tryz.func79, Tryz.ntmps79
    go_wp2_with fail
    go_ret
    exact ⟨ret_bool HT.out.symm, Below.refl _ _⟩
  by_cases ebool : t = ⟨#[98, 111, 111, 108]⟩
  · subst ebool
    have HT : Hid (keptB ⟨#[98, 111, 111, 108]⟩ = true) := keptB_in (by simp [keptL, sOr, sAnd, sUnless, sBool, sOn, sIgn, sBy, sWithout, sOffset])
    go_enter Tryz.func79, Tryz.ntmps79
    go_wp2_with fail
    go_ret
    exact ⟨ret_bool HT.out.symm, Below.refl _ _⟩
  by_cases eon : t = ⟨#[111, 110]⟩
  · subst eon
    have HT : Hid (keptB ⟨#[111, 110]⟩ = true) := keptB_in (by simp [keptL, sOr, sAnd, sUnless, sBool, sOn, sIgn, sBy, sWithout, sOffset])
    go_enter Tryz.func79, Tryz.ntmps79
    go_wp2_with fail
    go_ret
    exact ⟨ret_bool HT.out.symm, Below.refl _ _⟩
  by_cases eignoring : t = ⟨#[105, 103, 110, 111, 114, 105, 110, 103]⟩
  · subst eignoring
    have HT : Hid (keptB ⟨#[105, 103, 110, 111, 114, 105, 110, 103]⟩ = true) := keptB_in (by simp [keptL, sOr, sAnd, sUnless, sBool, sOn, sIgn, sBy, sWithout, sOffset])
    go_enter Tryz.func79, Tryz.ntmps79
    go_wp2_with fail
    go_ret
    exact ⟨ret_bool HT.out.symm, Below.refl _ _⟩
  by_cases eby : t = ⟨#[98, 121]⟩
  · subst eby
    have HT : Hid (keptB ⟨#[98, 121]⟩ = true) := keptB_in (by simp [keptL, sOr, sAnd, sUnless, sBool, sOn, sIgn, sBy, sWithout, sOffset])
    go_enter Tryz.func79, Tryz.ntmps79
    go_wp2_with fail
    go_ret
    exact ⟨ret_bool HT.out.symm, Below.refl _ _⟩
  by_cases ewithout : t = ⟨#[119, 105, 116, 104, 111, 117, 116]⟩
  · subst ewithout
    have HT : Hid (keptB ⟨#[119, 105, 116, 104, 111, 117, 116]⟩ = true) := keptB_in (by simp [keptL, sOr, sAnd, sUnless, sBool, sOn, sIgn, sBy, sWithout, sOffset])
    go_enter Tryz.func79, Tryz.ntmps79
    go_wp2_with fail
    go_ret
    exact ⟨ret_bool HT.out.symm, Below.refl _ _⟩
  by_cases eoffset : t = ⟨#[111, 102, 102, 115, 101, 116]⟩
  · subst eoffset
    have HT : Hid (keptB ⟨#[111, 102, 102, 115, 101, 116]⟩ = true) := keptB_in (by simp [keptL, sOr, sAnd, sUnless, sBool, sOn, sIgn, sBy, sWithout, sOffset])
    go_enter Tryz.func79, Tryz.ntmps79
    go_wp2_with fail
    go_ret
    exact ⟨ret_bool HT.out.symm, Below.refl _ _⟩
  have HT := Lib.hid (keptB_out (w := t) (by simp only [keptL, List.mem_cons, List.not_mem_nil, or_false, not_or]; exact ⟨eor, eand, eunless, ebool, eon, eignoring, eby, ewithout, eoffset⟩))
  have bor : (t.toList == [111, 114]) = false := beq_lit t _ eor
  have band : (t.toList == [97, 110, 100]) = false := beq_lit t _ eand
  have bunless : (t.toList == [117, 110, 108, 101, 115, 115]) = false := beq_lit t _ eunless
  have bbool : (t.toList == [98, 111, 111, 108]) = false := beq_lit t _ ebool
  have bon : (t.toList == [111, 110]) = false := beq_lit t _ eon
  have bignoring : (t.toList == [105, 103, 110, 111, 114, 105, 110, 103]) = false := beq_lit t _ eignoring
  have bby : (t.toList == [98, 121]) = false := beq_lit t _ eby
  have bwithout : (t.toList == [119, 105, 116, 104, 111, 117, 116]) = false := beq_lit t _ ewithout
  have boffset : (t.toList == [111, 102, 102, 115, 101, 116]) = false := beq_lit t _ eoffset
  clear eor eand eunless ebool eon eignoring eby ewithout eoffset
  have HF := fun (W : World) => Lib.hid (pfuncs_any W)
  have HA := fun (W : World) => Lib.hid (paggs_any W)
  have hbf := numW_bd funcsL t
  have hba := numW_bd aggsL t
  by_cases hf : 0 < numW funcsL t
  · have HNf := fun (W : World) (g : Nat) (h : Rd W (g + 1) 1 (some ⟨g, 0, none⟩) (textsC funcsL)) => Lib.hid (numfuncs_any t W g h)
    have HTT : Hid (keptB t = true) := by show _ = _; rw [HT.out, decide_eq_true hf, Bool.true_or]
    generalize numW funcsL t = f at *
    go_enter Tryz.func79, Tryz.ntmps79
    go_wp2_with (first | (go_at_call 83; refine ((HF _).out).mono ?_; rintro e w1 ⟨rfl, hr1, hb1⟩) | (go_at_call 91; refine ((HNf _ _ hr1).out).mono ?_; rintro e w2 ⟨rfl, rfl⟩))
    go_ret
    exact ⟨ret_bool HTT.out.symm, hb1⟩
  · have hf0 : numW funcsL t = 0 := by omega
    have HNf : ∀ (W : World) (g : Nat) (h : Rd W (g + 1) 1 (some ⟨g, 0, none⟩) (textsC funcsL)), Hid (Calls Tryz.prog 91 #[.slice (some ⟨g, 0, none⟩) 13 13, .string t] W fun e w' => e = .returned (.int .i64 0) ∧ W = w') := fun W g h => by
      have := numfuncs_any t W g h
      rw [hf0] at this
      exact this
    have HNa := fun (W : World) (g : Nat) (h : Rd W (g + 1) 1 (some ⟨g, 0, none⟩) (textsC aggsL)) => Lib.hid (numaggs_any t W g h)
    have HTT : Hid (keptB t = decide (0 < numW aggsL t)) := by show _ = _; rw [HT.out, decide_eq_false hf, Bool.false_or]
    clear hf hf0 hbf
    generalize numW aggsL t = a at *
    go_enter Tryz.func79, Tryz.ntmps79
    go_wp2_with (first | (go_at_call 83; refine ((HF _).out).mono ?_; rintro e w1 ⟨rfl, hr1, hb1⟩) | (go_at_call 112; refine ((HA _).out).mono ?_; rintro e w3 ⟨rfl, hr3, hb3⟩) | (go_at_call 91; with_reducible refine ((HNf _ _ hr1).out).mono ?_; rintro e w2 ⟨rfl, rfl⟩) | (go_at_call 91; with_reducible refine ((HNa _ _ hr3).out).mono ?_; rintro e w4 ⟨rfl, rfl⟩))
    go_ret
    exact ⟨by rw [HTT.out]; rfl, hb1.trans (hb3.mono hb1.size)⟩
end
section
open Go.RowKit
attribute [local go_sem ↓] tok_f0 tok_f2 tok_f3
/-- A row of another kind stays as it is. -/
theorem Own.fr {w w' : World} {P : Nat} {X : Option Addr} {R : Option Addr × Nat} {s : PS} {base sz n c : Nat} {e : TypeId} {xs : List (List Value)} (h : Own w base e sz X n c xs) (hP : PAt w P R s) (hf : Fr P none w w') (h1 : e ≠ 62) : Own w' base e sz X n c xs := by
  obtain ⟨b, o, ct, cs, bP, _⟩ := hP.parts
  exact h.same fun b hb => hf.block b (h.block hb).2 (fun e => own_ne_blk h bP h1 (by rw [← e]; exact hb.symm)) (by simp)
/-- Names that are being read. -/
def NmAt (P : Nat) (R : Option Addr × Nat) (s0 : PS) (w0 : World) (r : Rp (PS × List ByteArray)) (M L : Nat) (v : Value) (w : World) : Prop :=
  ∃ s acc X c m, v = .slice X acc.length c ∧ StQ P R w0 s w ∧ Own w w0.heap.size 9 1 X acc.length c (textsC acc) ∧ PGood M s ∧ s.toks.length ≤ m ∧ acc.length + s.toks.length ≤ L ∧ s.deep = s0.deep ∧ s.out = s0.out ∧ namesF m s acc = r
theorem NmAt.start {P M L : Nat} {R : Option Addr × Nat} {w0 w : World} {s s0 : PS} (h : StQ P R w0 s w) (hg : PGood M s) (hL : s.toks.length ≤ L) (hd : s.deep = s0.deep) (ho : s.out = s0.out) : NmAt P R s0 w0 (namesF s.toks.length s []) M L (.slice none 0 0) w :=
  ⟨s, [], none, 0, s.toks.length, rfl, h, Own.nil_ (by omega), hg, Nat.le_refl _, by simpa using hL, hd, ho, rfl⟩
end
section
open Go.RowKit
attribute [local go_sem ↓] Go.wp_at_zero Go.wp_at_succ tok_f0 tok_f2 tok_f3
theorem str2_i0 (a b : Value) (w : World) : (Instr.index 111 (.agg #[a, b]) (.int .i64 0)).run Tryz.prog w = .ok a w := by kernel_rfl
theorem str2_i1 (a b : Value) (w : World) : (Instr.index 111 (.agg #[a, b]) (.int .i64 1)).run Tryz.prog w = .ok b w := by kernel_rfl
attribute [local go_sem ↓] str2_i0 str2_i1
theorem Blk.fr {w w' : World} {P N : Nat} {e : TypeId} {cs : List Value} (h : Blk w N e cs) (hf : Fr P none w w') (hne : N ≠ P) : Blk w' N e cs := h.keep (hf.block N h.lt hne (by simp))
end
end Go.Proofs.YtakfnojiaakfpaaGreatDoor
