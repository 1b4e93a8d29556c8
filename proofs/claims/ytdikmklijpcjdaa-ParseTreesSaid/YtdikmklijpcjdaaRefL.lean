/- How the document reads a query: nodes laid; the operation that is reached. -/
import Derived.Test.YtdikmklijpcjdaaRefM
import Derived.Test.YtdikmklijpcjdaaPQuery
import Derived.Deep.DeepCutAuto
namespace Go.Proofs.Ytdikmklijpcjdaa
open Go.RowKit
attribute [local go_sem ↓] Go.wp_at_zero Go.wp_at_succ tok_f0 tok_f2 tok_f3

/-- The reader as it stands behind w0, where the row lay at R0. -/
def TSt (P : Nat) (T : List Tok) (R0 : Option Addr × Nat) (w0 : World) (r : Rp PS) (w : World) : Prop := ∃ R O, TAt w P T R O r ∧ Fr P R0.1 w0 w ∧ Mv R0.1 R.1 w0
section
variable {P : Nat} {T : List Tok} {R R0 : Option Addr × Nat} {O : List Nod} {w w' w0 : World} {r r' : Rp PS}
theorem TSt.start (h : TAt w P T R O r) : TSt P T R w r w := ⟨R, O, h, Fr.refl _ _ _, Mv.refl _ _⟩
theorem TQ.st (h : TQ P T R O w r w') : TSt P T R w r w' := ⟨R, O, h.1, h.2.weak, Mv.refl _ _⟩
theorem TSt.below (h : TSt P T R0 w0 r w) (hb : Below w.heap.size w w') : TSt P T R0 w0 r w' := let ⟨R, O, h1, h2, h3⟩ := h; ⟨R, O, h1.below hb, h2.belowAll hb, h3⟩
/-- Nodes have no capacity beyond memory. -/
theorem QAt.parts {q : RS} (h : QAt w P T R q) : ∃ b o ct cs, Blk w P 49 [.slice (some ⟨b, o, none⟩) T.length ct, .int .i64 q.at_, .slice R.1 q.out.length R.2, .int .i64 q.nest, .int .i64 q.code, .int .i64 q.place] ∧ Rd w P 4 (some ⟨b, o, none⟩) (toksC T) ∧ T.length ≤ ct ∧ ct ≤ maxLen ∧ q.at_ < T.length ∧ Own w (P + 1) 37 10 R.1 q.out.length R.2 cs ∧
    ∀ (k : Nat) (x : Nod), q.out[k]? = some x → ∃ Am cm An cn, cs[k]? = some (nodC x Am cm An cn) ∧ Own w (P + 1) 45 3 Am x.mat.length cm (matsC x.mat) ∧ Own w (P + 1) 9 1 An x.names.length cn (textsC x.names) := by
  obtain ⟨b, o, ct, h1, h2, h3, h4, h5, cs, h6, h7, h8⟩ := h
  exact ⟨b, o, ct, cs, h1, h2, h3, h4, h5, h6, h8⟩
theorem layQ_end {A A' : Option Addr} {q : RS} {s : PS} {W1 w3 : World} {x : Nod} {Am An : Option Addr} {cm cn b o ct co c' : Nat} {cs : List (List Value)} (hB : Below w.heap.size w W1) (_hP : P < w.heap.size)
    (bP : Blk W1 P 49 [.slice (some ⟨b, o, none⟩) T.length ct, .int .i64 q.at_, .slice A q.out.length co, .int .i64 q.nest, .int .i64 q.code, .int .i64 q.place]) (hT : Rd W1 P 4 (some ⟨b, o, none⟩) (toksC T)) (hct : T.length ≤ ct) (hcm : ct ≤ maxLen) (hat : q.at_ < T.length)
    (hO : Own W1 (P + 1) 37 10 A q.out.length co cs) (h7 : ∀ (k : Nat) (x : Nod), q.out[k]? = some x → ∃ Am cm An cn, cs[k]? = some (nodC x Am cm An cn) ∧ Own W1 (P + 1) 45 3 Am x.mat.length cm (matsC x.mat) ∧ Own W1 (P + 1) 9 1 An x.names.length cn (textsC x.names))
    (hm : Own W1 (P + 1) 45 3 Am x.mat.length cm (matsC x.mat)) (hn : Own W1 (P + 1) 9 1 An x.names.length cn (textsC x.names)) (hr : RelQ T q (.ok s))
    (ho : Own w3 (P + 1) 37 10 A' (q.out.length + 1) c' (cs ++ [nodC x Am cm An cn])) (hg : W1.grownBy w3 (A.map Addr.block)) (hat3 : A'.map Addr.block = A.map Addr.block ∨ A'.map Addr.block = some W1.heap.size) (hb : Below (P + 1) W1 w3) (hne : some P ≠ A.map Addr.block) :
    TSt P T (A, co) w (.ok (s.lay x)) (w3.setCell ⟨P, 2, none⟩ (.slice A' (q.out.length + 1) c')) := by
  refine ⟨(A', c'), q.out ++ [x], ⟨⟨q.at_, q.out ++ [x], q.nest, q.code, q.place⟩, ⟨b, o, ct, ?_, ?_, hct, hcm, hat, ?_⟩, ⟨hr.1, hr.2.1, by rw [hr.2.2.1]; rfl, hr.2.2.2⟩, rfl⟩, ((Fr.of_below hB).grown hg).setP 2 _, ?_⟩
  · have := (bP.grown hg hne).set 2 (.slice A' (q.out.length + 1) c')
    rw [List.length_append]
    exact this
  · exact (hT.below (hb.mono (by omega))).keep fun x ox hx => World.cell?_of_block (Below.heap_setCell w3 ⟨P, 2, none⟩ _ x (show x ≠ P by omega))
  · rw [List.length_append]
    exact (OwnNods.snoc rfl h7 hO ho hm hn hg).setLow (by simp) _
  · rcases hat3 with h | h
    · exact .inl h
    · exact .inr ⟨_, h, hB.size⟩
end
def layR (r : Rp PS) (x : Nod) : Rp PS := match r with
  | .ok s => .ok (s.lay x)
  | .error e => .error e
set_option maxRecDepth 100000 in
set_option maxHeartbeats 4000000 in
theorem rlay_any {P : Nat} {T : List Tok} {R : Option Addr × Nat} {O : List Nod} {w : World} {r : Rp PS} (h : TAt w P T R O r) (x : Nod) (Am An : Option Addr) (cm cn : Nat) (hm : ∀ s, r = .ok s → Own w (P + 1) 45 3 Am x.mat.length cm (matsC x.mat)) (hn : ∀ s, r = .ok s → Own w (P + 1) 9 1 An x.names.length cn (textsC x.names)) (hl : ∀ s, r = .ok s → O.length ≤ 1000000) :
    Calls Try.prog 55 #[.pointer (some ⟨P, 0, none⟩), .agg #[.int .i64 x.kind, .int .i64 x.op, .string x.text, .slice Am x.mat.length cm, .int .i64 x.width, .int .i64 x.back, .int .i64 x.grp, .slice An x.names.length cn, .bool x.cmp, .int .i64 x.parts]] w fun e w' => e = .returned (.tuple #[]) ∧ TSt P T R w (layR r x) w' := by
  obtain ⟨A, co⟩ := R
  have h0 := Lib.hid h
  go_enter Try.func55, Try.ntmps55
  go_upto_region 1 with fail
  generalize hW : World.alloc _ _ = W0
  have bX : Blk W0 w.heap.size 37 (nodC x Am cm An cn) := by rw [← hW]; exact Blk.new w _ _
  have hb0 : Below w.heap.size w W0 := by rw [← hW]; exact (Below.refl _ _).alloc (Nat.le_refl _) _
  clear hW
  have hPlt := h.lt
  have h1 := h.below hb0
  have HB0 := Lib.hid hb0
  obtain ⟨q, hq, hr, ho⟩ := h1
  have hA : ∀ b, A.map Addr.block = some b → P < b ∧ b < w.heap.size := fun b hb => by
    obtain ⟨q', hq', _⟩ := h0.out
    exact hq'.above (b := b) hb
  obtain ⟨b, o, ct, cs, bP, hT, hct, hcm, hat, hO, h7⟩ := hq.parts
  simp only at bP hO
  have p4 := bP.cell (j := 4) rfl
  cases r with
  | error y =>
    have hc : (q.code == 0) = false := by rw [beq_eq_false_iff_ne, hr.1]; exact hr.2.1
    have HE := Lib.hid ((TQ.start h0.out).below hb0)
    clear hT hO h7 hr hq bP bX hb0 h hA
    go_wp2_with fail
    first | go_end0 | refine bodyPost_ret (results_none rfl _ _ _) rfl ?_
    exact ⟨rfl, HE.out.st⟩
  | ok s =>
    have hc : (q.code == 0) = true := by rw [beq_iff_eq]; exact hr.1
    have hm0 := (hm s rfl).belowAll hb0
    have hn0 := (hn s rfl).belowAll hb0
    have hql : q.out.length ≤ 1000000 := by rw [ho]; exact hl s rfl
    have HR := Lib.hid hr
    clear hm hn h hb0 hr hq
    have hz0 := bX.lt
    have hPX : P ≠ w.heap.size := by omega
    have hX : Rd ((W0.drew).alloc (.cells #[.int .i64 x.kind, .int .i64 x.op, .string x.text, .slice Am x.mat.length cm, .int .i64 x.width, .int .i64 x.back, .int .i64 x.grp, .slice An x.names.length cn, .bool x.cmp, .int .i64 x.parts] 37)) (W0.heap.size + 1) 10 (some ⟨W0.heap.size, 0, none⟩) [nodC x Am cm An cn] := Rd.nod x Am cm An cn rfl
    have HO := Lib.hid hO
    have H7 := Lib.hid h7
    have HT := Lib.hid hT
    have HX := Lib.hid hX
    have HM := Lib.hid hm0
    have HNn := Lib.hid hn0
    have hne : some P ≠ A.map Addr.block := fun e => by have := hA P e.symm; omega
    have hneX : some w.heap.size ≠ A.map Addr.block := fun e => by have := hA _ e.symm; omega
    clear hO h7 hT hX hm0 hn0 hA ho
    have p2 := bP.cell (j := 2) rfl
    have hfz := bP.frozen
    have hPl := bP.lt
    have x0 := bX.cell (j := 0) rfl
    have x1 := bX.cell (j := 1) rfl
    have x2 := bX.cell (j := 2) rfl
    have x3 := bX.cell (j := 3) rfl
    have x4 := bX.cell (j := 4) rfl
    have x5 := bX.cell (j := 5) rfl
    have x6 := bX.cell (j := 6) rfl
    have x7 := bX.cell (j := 7) rfl
    have x8 := bX.cell (j := 8) rfl
    have x9 := bX.cell (j := 9) rfl
    go_wp2_with fail
    go_region_law ((refine step_append_rd _ (by rfl) _ _ _ (by rfl) eiNod (by rfl) (HO.out.drew.alloc _) (m := 1) (by rfl) HX.out rfl (one_nod x Am cm An cn) (by simp only [maxLen]; omega) (by omega) (by simp; omega) ?_; intro A' c' w3 ho3 hg3 hat3 hb3; have bP3 := ((bP.drewN 1).alloc _).grown hg3 hne; have hfz3 := bP3.frozen; have hp3 := bP3.cell (j := 2) rfl))
    all_goals
      go_wp2_with fail
      first | go_end0 | refine bodyPost_ret (results_none rfl _ _ _) rfl ?_
      exact ⟨rfl, layQ_end ((HB0.out.drew).alloc (by have := HB0.out.size; simpa using this) _) hPlt ((bP.drewN 1).alloc _) ((show Rd W0.drew P 4 _ _ from HT.out).below ((Below.refl _ _).alloc (by simp; omega) _)) hct hcm hat (HO.out.drew' _) (fun k y hy => by
        obtain ⟨a1, a2, a3, a4, h1, h2, h3⟩ := H7.out k y hy
        exact ⟨a1, a2, a3, a4, h1, h2.drew' _, h3.drew' _⟩) (HM.out.drew' _) (HNn.out.drew' _) HR.out ho3 hg3 hat3 hb3 hne⟩
end Go.Proofs.Ytdikmklijpcjdaa
