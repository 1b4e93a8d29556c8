/- How a query is read: nodes laid, words found, names read. -/
import Derived.Test.YtdikmklijpcjdaaParW
import Derived.Deep.RegionHeld3
import Derived.Deep.RegionLaw
import Derived.Deep.DrawnRows
namespace Go.Proofs.Ytdikmklijpcjdaa
open Go.RowKit
attribute [local go_sem ↓] Go.wp_at_zero Go.wp_at_succ tok_f0 tok_f2 tok_f3

theorem PAt.parts {w : World} {P : Nat} {R : Option Addr × Nat} {s : PS} (h : PAt w P R s) : ∃ b o ct cs, Blk w P 56 [.slice (some ⟨b, o, none⟩) s.toks.length ct, .int .i64 s.deep, .slice R.1 s.out.length R.2] ∧ Rd w P 4 (some ⟨b, o, none⟩) (toksC s.toks) ∧ s.toks.length ≤ ct ∧ ct ≤ maxLen ∧ Own w (P + 1) 37 10 R.1 s.out.length R.2 cs ∧ s.out.length = s.out.length ∧
    ∀ (k : Nat) (x : Nod), s.out[k]? = some x → ∃ Am cm An cn, cs[k]? = some (nodC x Am cm An cn) ∧ Own w (P + 1) 45 3 Am x.mat.length cm (matsC x.mat) ∧ Own w (P + 1) 9 1 An x.names.length cn (textsC x.names) := by
  obtain ⟨b, o, ct, h1, h2, h3, h4, cs, h5, h6, h7⟩ := h
  exact ⟨b, o, ct, cs, h1, h2, h3, h4, h5, h6, h7⟩
theorem Fr.grown {P : Nat} {A : Option Addr} {w w1 w2 : World} (h : Fr P A w w1) (hg : w1.grownBy w2 (A.map Addr.block)) : Fr P A w w2 :=
  ⟨hg.os.trans h.os, hg.tape.trans h.tape, hg.output.trans h.output, Nat.le_trans h.size hg.size, fun b hlt h1 h2 => (hg.block b (Nat.lt_of_lt_of_le hlt h.size) (Ne.symm h2)).trans (h.block b hlt h1 h2)⟩
theorem lay_end {P : Nat} {A A' : Option Addr} {s : PS} {w W1 w3 : World} {x : Nod} {Am An : Option Addr} {cm cn b o ct co c' : Nat} {cs : List (List Value)} (hB : Below w.heap.size w W1) (_hP : P < w.heap.size)
    (bP : Blk W1 P 56 [.slice (some ⟨b, o, none⟩) s.toks.length ct, .int .i64 s.deep, .slice A s.out.length co]) (hT : Rd W1 P 4 (some ⟨b, o, none⟩) (toksC s.toks)) (hct : s.toks.length ≤ ct) (hcm : ct ≤ maxLen)
    (hO : Own W1 (P + 1) 37 10 A s.out.length co cs) (h7 : ∀ (k : Nat) (x : Nod), s.out[k]? = some x → ∃ Am cm An cn, cs[k]? = some (nodC x Am cm An cn) ∧ Own W1 (P + 1) 45 3 Am x.mat.length cm (matsC x.mat) ∧ Own W1 (P + 1) 9 1 An x.names.length cn (textsC x.names))
    (hm : Own W1 (P + 1) 45 3 Am x.mat.length cm (matsC x.mat)) (hn : Own W1 (P + 1) 9 1 An x.names.length cn (textsC x.names))
    (ho : Own w3 (P + 1) 37 10 A' (s.out.length + 1) c' (cs ++ [nodC x Am cm An cn])) (hg : W1.grownBy w3 (A.map Addr.block)) (hat : A'.map Addr.block = A.map Addr.block ∨ A'.map Addr.block = some W1.heap.size) (hb : Below (P + 1) W1 w3) (hne : some P ≠ A.map Addr.block) :
    St P (A, co) w (A', c') (s.lay x) (w3.setCell ⟨P, 2, none⟩ (.slice A' (s.out.length + 1) c')) := by
  have hl : (s.lay x).out.length = s.out.length + 1 := by simp [PS.lay]
  refine ⟨⟨b, o, ct, ?_, ?_, hct, hcm, ?_⟩, ((Fr.of_below hB).grown hg).setP 2 _, ?_⟩
  · rw [hl]
    exact (bP.grown hg hne).set 2 _
  · exact (hT.below (hb.mono (by omega))).keep fun q oq hq => World.cell?_of_block (Below.heap_setCell w3 ⟨P, 2, none⟩ _ q (show q ≠ P by omega))
  · rw [hl]
    exact (OwnNods.snoc rfl h7 hO ho hm hn hg).setLow (by simp) _
  · rcases hat with hat | hat
    · exact .inl hat
    · exact .inr ⟨_, hat, hB.size⟩
theorem Own.drew' {w : World} {base sz n c : Nat} {e : TypeId} {A : Option Addr} {xs : List (List Value)} (h : Own w base e sz A n c xs) (o : Obj) : Own (w.drew.alloc o) base e sz A n c xs := h.drew.alloc o
set_option maxRecDepth 100000 in
set_option maxHeartbeats 2000000 in
theorem pnode_any (P : Nat) (R : Option Addr × Nat) (s : PS) (w : World) (h : PAt w P R s) (x : Nod) (Am An : Option Addr) (cm cn : Nat) (hm : Own w (P + 1) 45 3 Am x.mat.length cm (matsC x.mat)) (hn : Own w (P + 1) 9 1 An x.names.length cn (textsC x.names)) (hl : s.out.length ≤ 1000000) :
    Calls Try.prog 73 #[.pointer (some ⟨P, 0, none⟩), .agg #[.int .i64 x.kind, .int .i64 x.op, .string x.text, .slice Am x.mat.length cm, .int .i64 x.width, .int .i64 x.back, .int .i64 x.grp, .slice An x.names.length cn, .bool x.cmp, .int .i64 x.parts]] w fun e w' => e = .returned (.tuple #[]) ∧ ∃ R', St P R w R' (s.lay x) w' := by
  obtain ⟨A, co⟩ := R
  go_enter Try.func73, Try.ntmps73
  go_wp2_with fail
  generalize hW : World.alloc _ _ = W0
  have bX : Blk W0 w.heap.size 37 (nodC x Am cm An cn) := by rw [← hW]; exact Blk.new w _ _
  have hb0 : Below w.heap.size w W0 := by rw [← hW]; exact (Below.refl _ _).alloc (Nat.le_refl _) _
  clear hW
  have hPlt := h.lt
  have h0 := h.below hb0
  have hm0 := hm.belowAll hb0
  have hn0 := hn.belowAll hb0
  have hA := fun b (hb : A.map Addr.block = some b) => h.above hb
  have HB0 := Lib.hid hb0
  clear hm hn h hb0
  obtain ⟨b, o, ct, cs, bP, hT, hct, hcm, hO, h6, h7⟩ := h0.parts
  simp only at bP hO
  have hz0 := bX.lt
  have hPX : P ≠ w.heap.size := by omega
  have hX : Rd ((W0.drew).alloc (.cells #[.int .i64 x.kind, .int .i64 x.op, .string x.text, .slice Am x.mat.length cm, .int .i64 x.width, .int .i64 x.back, .int .i64 x.grp, .slice An x.names.length cn, .bool x.cmp, .int .i64 x.parts] 37)) (W0.heap.size + 1) 10 (some ⟨W0.heap.size, 0, none⟩) [nodC x Am cm An cn] := Rd.nod x Am cm An cn rfl
  have HO := Lib.hid hO
  have H7 := Lib.hid h7
  have HT := Lib.hid hT
  have HX := Lib.hid hX
  have HM := Lib.hid hm0
  have HNn := Lib.hid hn0
  have hne : some P ≠ A.map Addr.block := fun e => by have := hA P e.symm; omega
  have hneX : some w.heap.size ≠ A.map Addr.block := fun e => by have := hA _ e.symm; omega
  clear hO h7 hT hX hm0 hn0 h0
  have p2 := bP.cell (j := 2) rfl
  have hfz := bP.frozen
  have hPl := bP.lt
  have x0 := bX.cell (j := 0) rfl
  have x1 := bX.cell (j := 1) rfl
  have x2 := bX.cell (j := 2) rfl
  have x3 := bX.cell (j := 3) rfl
  have x4 := bX.cell (j := 4) rfl
  have x5 := bX.cell (j := 5) rfl
  have x6 := bX.cell (j := 6) rfl
  have x7 := bX.cell (j := 7) rfl
  have x8 := bX.cell (j := 8) rfl
  have x9 := bX.cell (j := 9) rfl
  go_region_law ((refine step_append_rd _ (by rfl) _ _ _ (by rfl) eiNod (by rfl) (HO.out.drew.alloc _) (m := 1) (by rfl) HX.out rfl (one_nod x Am cm An cn) (by simp only [maxLen]; omega) (by omega) (by simp; omega) ?_; intro A' c' w3 ho3 hg3 hat3 hb3; have bP3 := ((bP.drewN 1).alloc _).grown hg3 hne; have hfz3 := bP3.frozen; have hp3 := bP3.cell (j := 2) rfl))
  all_goals
    go_end0
    exact ⟨rfl, (A', c'), lay_end ((HB0.out.drew).alloc (by have := HB0.out.size; simpa using this) _) hPlt ((bP.drewN 1).alloc _) ((show Rd W0.drew P 4 _ _ from HT.out).below ((Below.refl _ _).alloc (by simp; omega) _)) hct hcm (HO.out.drew' _) (fun k y hy => by
      obtain ⟨a1, a2, a3, a4, h1, h2, h3⟩ := H7.out k y hy
      exact ⟨a1, a2, a3, a4, h1, h2.drew' _, h3.drew' _⟩) (HM.out.drew' _) (HNn.out.drew' _) ho3 hg3 hat3 hb3 hne⟩
end Go.Proofs.Ytdikmklijpcjdaa
