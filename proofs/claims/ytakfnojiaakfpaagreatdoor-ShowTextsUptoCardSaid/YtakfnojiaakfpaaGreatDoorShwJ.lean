/- How a tree is written: an operation over its two parts. -/
import Derived.Test.YtakfnojiaakfpaaGreatDoorTypSrc
import Derived.StillTail
import Derived.Test.YtakfnojiaakfpaaGreatDoorShwD
import Derived.Test.YtakfnojiaakfpaaGreatDoorShowD
import Derived.Deep.DeepCutAuto
namespace Go.Proofs.YtakfnojiaakfpaaGreatDoor
section
open Go Go.RowKit
section
variable {P : Program} {ops : Array Oper} {md : Region.Mode} {C : World → Prop}
/-- The head of a region, whatever order is picked. -/
def wpHead (P : Program) (md : Region.Mode) (ops : Array Oper) (C : World → Prop) (n : Nat) (L : Array Bool → Act → Prop) : Nat → Array Bool → Act → Prop
  | 0, listed, a => L listed a
  | f + 1, listed, a => Region.ready md ops listed ≠ [] ∧ ∀ i ∈ Region.ready md ops listed, i < n ∧ qOp P ops C i (wpHead P md ops C n L f (listed.setIfInBounds i true)) a
theorem wpAny_of_wpHead {n g : Nat} {L : Array Bool → Act → Prop} {Q : Exit → Act → World → Prop} (hL : ∀ listed a w, C w → L listed a → wpAny P md ops Q g listed a w) :
    ∀ (f : Nat) (listed : Array Bool) (a : Act) (w : World), C w → wpHead P md ops C n L f listed a → wpAny P md ops Q (f + g) listed a w
  | 0, _, _, _, hw, h => by
    rw [Nat.zero_add]
    exact hL _ _ _ hw h
  | f + 1, _, _, _, hw, h => by
    rw [show f + 1 + g = (f + g) + 1 by omega]
    exact ⟨fun h0 => absurd h0 h.1, fun i hi => wpOp_of_qOp hw (fun a' w' hw' h' => wpAny_of_wpHead hL f _ a' w' hw' h') (h.2 i hi).2⟩
theorem wpHead_first {n i : Nat} {oi : Oper} {v : Value} {L : Array Bool → Act → Prop} (hi : ops[i]? = some oi) (hsel : ∀ (j : Nat) (o : Oper) cs b, ops[j]? = some o → o.op ≠ .select cs b)
    (hs : Region.sinkB md ops n = true) (hc : Region.chainB md ops n = true) (hn : n < ops.size) (hin : i < n) (hdone : ∀ listed a, L listed a → ∀ j ∈ Region.ready md ops listed, n ≤ j) :
    ∀ (f : Nat) (listed : Array Bool) (a : Act), HeadInv md ops n listed →
      (∀ j oj, ops[j]? = some oj → j ≠ i → listed.getD j true = false → (∀ e ∈ oj.after, Region.binds md e = true → e.on ≠ i) → oi.apart ops oj = true) →
      i ∈ Region.ready md ops listed → YieldsIn P ops C oi v a → wpHead P md ops C n L f (listed.setIfInBounds i true) (a.put oi.dst v) → wpHead P md ops C n L (f + 1) listed a := by
  intro f
  induction f with
  | zero =>
    intro listed a inv _ hr hy H
    have hun := (mem_ready.1 hr).1
    refine ⟨fun h => (by rw [h] at hr; cases hr), fun j hj => ?_⟩
    have hjn : j < n := by
      rcases Nat.lt_or_ge j n with h | h
      · exact h
      · exact absurd hj (tail_waits hs hc hn inv _ i rfl hin hun j h)
    refine ⟨hjn, ?_⟩
    by_cases hji : j = i
    · subst hji
      exact hy.qOp hi H
    · have := hdone _ _ H j (ready_mono hj hji)
      omega
  | succ f ih =>
    intro listed a inv hfree hr hy H
    have hun := (mem_ready.1 hr).1
    refine ⟨fun h => (by rw [h] at hr; cases hr), fun j hj => ?_⟩
    have hjn : j < n := by
      rcases Nat.lt_or_ge j n with h | h
      · exact h
      · exact absurd hj (tail_waits hs hc hn inv _ i rfl hin hun j h)
    refine ⟨hjn, ?_⟩
    by_cases hji : j = i
    · subst hji
      exact hy.qOp hi H
    · have h1 := (H.2 j (ready_mono hj hji)).2
      obtain ⟨hjun, oj, hoj, hall⟩ := mem_ready.1 hj
      have hnot : ∀ e ∈ oj.after, Region.binds md e = true → e.on ≠ i := fun e he hb heq => by
        have h1 := hall e he hb
        rw [heq, getD_both hun] at h1
        cases h1
      have h2 := qOp_put hoj (hfree j oj hoj hji hjun hnot) (fun cs b => hsel i oi cs b hi) (fun cs b => hsel j oj cs b hoj) hy h1
      have hfree' : ∀ k ok, ops[k]? = some ok → k ≠ i → (listed.setIfInBounds j true).getD k true = false →
          (∀ e ∈ ok.after, Region.binds md e = true → e.on ≠ i) → oi.apart ops ok = true := fun k ok hk hki hun hno => by
        refine hfree k ok hk hki ?_ hno
        by_cases hjk : j = k
        · subst hjk; exact hjun
        · rw [getD_set_ne true hjk] at hun; exact hun
      refine qOp_mono (fun a' h3 => ih (listed.setIfInBounds j true) a' (inv.set hj hjn) hfree' (ready_mono hr (Ne.symm hji)) h3.1 ?_) h2
      rw [Array.setIfInBounds_comm _ _ hji]
      exact h3.2
theorem wpHead_lex {n g : Nat} {Lq : Act → Prop} (hsel : Region.noSelect ops = true) (hs : Region.sinkB md ops n = true) (hc : Region.chainB md ops n = true) (hn : n < ops.size) :
    ∀ (l : List Oper) (k : Nat) (listed : Array Bool) (a : Act), (∀ j, j < l.length → l[j]? = ops[k + j]?) → k + l.length = n → HeadInv md ops n listed → Region.lexHead md ops g l.length k listed = true → wpQuiet P ops C Lq l a →
    wpHead P md ops C n (fun listed' a' => Region.seqB md ops g n listed' = true ∧ Lq a') l.length listed a
  | [], k, listed, a, _, hk, _, hB, h => by
    have : k = n := by simpa using hk
    subst this
    exact ⟨by simpa [Region.lexHead] using hB, h⟩
  | o :: l, k, listed, a, hl, hk, inv, hB, h => by
    have h0 : ops[k]? = some o := by simpa using (hl 0 (by simp)).symm
    simp only [List.length_cons, Region.lexHead, Bool.and_eq_true] at hB
    obtain ⟨⟨hr, hf⟩, hB'⟩ := hB
    have hkn : k < n := by simp only [List.length_cons] at hk; omega
    have hr' : k ∈ Region.ready md ops listed := by simpa using hr
    have hst : qOp P ops C k (wpQuiet P ops C Lq l) a := by unfold qOp; simp only [h0]; exact h
    obtain ⟨v, hy, hK⟩ := yieldsIn_of_qOp h0 hst
    exact wpHead_first h0 (Region.noSelect_spec hsel) hs hc hn hkn (fun listed' a' hL => seqB_ready hL.1) l.length listed a inv (Region.free_spec h0 hf) hr' hy
      (wpHead_lex hsel hs hc hn l (k + 1) _ _ (fun j hj => by have := hl (j + 1) (by simp; omega); simpa [Nat.add_assoc, Nat.add_comm 1 j] using this) (by simp only [List.length_cons] at hk; omega) (inv.set hr' hkn) hB' hK)
theorem wp_region_tail {id : Nat} {Q : Exit → Act → World → Prop} {a : Act} {w : World} {l : List Oper} (n : Nat) (hm : P.follows .mixedOrders = true) (hB : Region.lexTailB .any l.toArray n = true) (hC : C { w with drawn := w.drawn + 1 })
    (h : wpQuiet P l.toArray C (fun a' => ∀ w', C w' → wpList P l.toArray Q (l.drop n) a' w') (l.take n) a) : (Code.region id l.toArray true).wp P Q a w := by
  simp only [Region.lexTailB, Bool.and_eq_true, decide_eq_true_eq] at hB
  obtain ⟨⟨⟨⟨hsel, hn⟩, hs⟩, hc⟩, hlex⟩ := hB
  have hn' : n < l.length := by simpa using hn
  have htl : (l.take n).length = n := by simp; omega
  have hdl : (l.drop n).length = l.toArray.size - n := by simp
  have inv0 : HeadInv .any l.toArray n (Array.replicate l.toArray.size false) :=
    ⟨by simp, fun j oj _ hl => (by rw [getD_replicate_false] at hl; cases hl), fun t _ ht => getD_in (by simpa using ht) (getD_replicate_false _ _)⟩
  have H := wpHead_lex (md := .any) (g := l.toArray.size - n) hsel hs hc hn (l.take n) 0 _ a (fun j hj => by
    have hj' : j < n := by rw [htl] at hj; exact hj
    simp [hj']) (by simpa using htl) inv0 (by rw [htl]; exact hlex) h
  refine wp_region_any hm ?_
  have := wpAny_of_wpHead (Q := Q) (g := l.toArray.size - n) (fun listed a' w' hw' hL => by
    have := wpAny_of_seq (md := .any) (Q' := Q) (l.drop n) n listed a' w' (fun j => by simp [List.getElem?_drop]) (by rw [hdl]; exact hL.1) (hL.2 w' hw')
    rwa [hdl] at this) _ _ _ _ hC H
  rw [htl, show n + (l.toArray.size - n) = l.toArray.size by omega] at this
  exact this
end
/-- A region that draws: its head only reads or makes new memory; its tail is in one order. -/
theorem wp_region_later_tail {P : Program} {id : Nat} {Q : Exit → Act → World → Prop} {a : Act} {w : World} {l : List Oper} (n : Nat) (hm : P.follows .mixedOrders = true) (hB : Region.lexTailB .any l.toArray n = true)
    (h : wpQuiet P l.toArray (fun w' => ∃ x, w' = later w x) (fun a' => ∀ w', (∃ x, w' = later w x) → wpList P l.toArray Q (l.drop n) a' w') (l.take n) a) : (Code.region id l.toArray true).wp P Q a w :=
  wp_region_tail (C := fun w' => ∃ x, w' = later w x) n hm hB ⟨⟨_, (Below.refl w.heap.size w).drew⟩, rfl⟩ h
end
section
open Go.RowKit
theorem within_size (s : Sd) (k : Int) : (s.within k).text.size ≤ s.text.size + 2 := by
  unfold Sd.within
  split
  · omega
  · show (ByteArray.empty ++ sO ++ s.text ++ sC).size ≤ _
    rw [ByteArray.size_append, ByteArray.size_append, ByteArray.size_append]
    show 0 + 1 + _ + 1 ≤ _
    omega
theorem within_deep (s : Sd) (k : Int) : (s.within k).deep ≤ s.deep + 1 ∧ s.deep ≤ (s.within k).deep := by
  unfold Sd.within
  split
  · omega
  · show s.deep + 1 ≤ _ ∧ _ ≤ s.deep + 1
    omega
theorem blk_new1 {w : World} {T : Nat} {e : TypeId} {cs : List Value} (h : T = w.heap.size) : Blk (w.alloc (.cells cs.toArray e)) T e cs := by
  subst h
  exact Blk.new _ _ _
theorem opsT_size : ∀ k : Nat, k < 14 → (opsL.getD k ByteArray.empty).size ≤ 100 := by decide +kernel
set_option maxRecDepth 100000 in
set_option maxHeartbeats 4000000 in
theorem sbin_any (n : Nod) (Am An : Option Addr) (cm cn : Nat) (a b : Sd) (w : World) (hop : inB 1 13 n.op = true) (hg : n.grp = 3 ∨ n.grp = 4 ∨ n.grp = 0) (hN : NamesAt n An cn w) (h1 : a.text.size ≤ 1000000) (h2 : b.text.size ≤ 1000000)
    (h3 : 0 ≤ a.deep) (h4 : a.deep ≤ 1000) (h5 : 0 ≤ b.deep) (h6 : b.deep ≤ 1000) :
    Calls Tryz.prog 53 #[nodeV n Am An cm cn, sdV a, sdV b] w fun e w' => e = .returned (sdV (binT n a b)) ∧ Below w.heap.size w w' := by
  have hop' : 1 ≤ n.op ∧ n.op ≤ 13 := by simpa [inB] using hop
  clear hop
  obtain ⟨k, hk⟩ : ∃ k : Nat, n.op = (k : Int) := ⟨n.op.toNat, by omega⟩
  have hk14 : k < 14 := by omega
  have hrow : 1 ≤ rowN n.op ∧ rowN n.op ≤ 5 := by
    have := row_at hop'.1 hop'.2 (l := 1) (by decide) (by decide)
    exact ⟨this.1, this.2.1⟩
  obtain ⟨q1, q2, q3, q4⟩ := hN
  have HO := fun W : World => Lib.hid (sopsw_any k hk14 W)
  have HR := fun W : World => Lib.hid (srow_any n.op W)
  have HN := fun (W : World) (hb : Below w.heap.size w W) => Lib.hid (snames_any n.names An n.names.length cn w.heap.size W (q1.below hb) rfl q2 q3 hb.size (by omega))
  have HWa := fun W : World => Lib.hid (swithin_any a (rowN n.op) W h1 h3 h4)
  have HWb := fun W : World => Lib.hid (swithin_any b (rowN n.op + 1) W h2 h5 h6)
  have hws := opsT_size k hk14
  have hns : (namesT n.names).size ≤ 1000000000002 := by
    rw [namesT, ByteArray.size_append, ByteArray.size_append]
    show 1 + _ + 1 ≤ _
    omega
  have ha1 := within_size a (rowN n.op)
  have ha2 := within_deep a (rowN n.op)
  have hb1 := within_size b (rowN n.op + 1)
  have hb2 := within_deep b (rowN n.op + 1)
  have HT : Hid (binT n a b = ⟨(a.within (rowN n.op)).text ++ binMid n ++ sBlank ++ (b.within (rowN n.op + 1)).text, rowN n.op, max (a.within (rowN n.op)).deep (b.within (rowN n.op + 1)).deep⟩) := rfl
  have HMid : Hid (binMid n = (if n.cmp = true then sBlank ++ opsL.getD k ByteArray.empty ++ sBoolB else sBlank ++ opsL.getD k ByteArray.empty) ++ (if n.grp = 3 then sOnB ++ namesT n.names else if n.grp = 4 then sIgnB ++ namesT n.names else ByteArray.empty)) := by
    show _ = _
    rw [binMid, opT, hk]
    rfl
  have hA : (a.within (rowN n.op)).text.size ≤ 1000002 ∧ 0 ≤ (a.within (rowN n.op)).deep ∧ (a.within (rowN n.op)).deep ≤ 1001 := by omega
  have hB : (b.within (rowN n.op + 1)).text.size ≤ 1000002 ∧ 0 ≤ (b.within (rowN n.op + 1)).deep ∧ (b.within (rowN n.op + 1)).deep ≤ 1001 := by omega
  clear ha1 ha2 hb1 hb2 hop'
  unfold nodeV
  unfold sdV at HWa HWb ⊢
  rw [hk] at HR ⊢
  generalize a.within (rowN n.op) = a1 at *
  generalize b.within (rowN n.op + 1) = b1 at *
  rw [hk] at HT hrow HWa HWb
  generalize rowN (k : Int) = r at *
  generalize opsL.getD k ByteArray.empty = wd at *
  obtain ⟨hA1, hA2, hA3⟩ := hA
  obtain ⟨hB1, hB2, hB3⟩ := hB
  clear hk
  go_enter Tryz.func53, Tryz.ntmps53
  go_wp2_with fail
  generalize hW : World.alloc _ _ = W0
  have hB0 : Below w.heap.size w W0 := by rw [← hW]; exact by repeat (first | exact Below.refl _ _ | refine Below.alloc ?_ (by first | exact Nat.le_refl _ | (simp; done) | (simp; omega)) _ | refine Below.setCell ?_ (by first | exact Nat.le_refl _ | (simp; done) | (simp; omega)) _ | refine Below.drew ?_)
  have hX : Blk W0 w.heap.size 41 [.int .i64 n.kind, .int .i64 k, .string n.text, .slice Am n.mat.length cm, .int .i64 n.width, .int .i64 n.back, .int .i64 n.grp, .slice An n.names.length cn, .bool n.cmp, .int .i64 n.parts] := by rw [← hW]; exact (((Blk.new w _ _).alloc _).alloc _).alloc _
  have hS1 : Blk W0 (w.heap.size + 1) 53 [.string a.text, .int .i64 a.row, .int .i64 a.deep] := by
    rw [← hW]
    exact Blk.alloc (Blk.alloc (blk_new1 (by simp)) _) _
  have hS2 : Blk W0 (w.heap.size + 1 + 1) 53 [.string b.text, .int .i64 b.row, .int .i64 b.deep] := by
    rw [← hW]
    exact Blk.alloc (blk_new1 (by simp)) _
  have hR0 : Blk W0 (w.heap.size + 1 + 1 + 1) 53 [.string ⟨#[]⟩, .int .i64 0, .int .i64 0] := by
    rw [← hW]
    exact blk_new1 (by simp)
  clear hW
  refine ((HR W0).out).mono ?_
  rintro e w1 ⟨rfl, rfl⟩
  go_upto_region 2 with fail
  have l0 := later_cell hS1 (j := 0) rfl
  have l1 := later_cell hS1 (j := 1) rfl
  have l2 := later_cell hS1 (j := 2) rfl
  have m0 := later_cell hS2 (j := 0) rfl
  have m1 := later_cell hS2 (j := 1) rfl
  have m2 := later_cell hS2 (j := 2) rfl
  have hwr : IntKind.i64.wrap (r + 1) = r + 1 := by rw [IntKind.wrap_i64]; omega
  refine wp_region_later_tail 7 (by kernel_rfl) (by kernel_rfl) ?_
  simp only [List.take_succ_cons, List.take_zero, List.drop_succ_cons, List.drop_zero]
  go_big_quiet_step (fail)
  go_big_quiet_step (fail)
  go_big_quiet_step ((go_at_call 55; exact later_call (HWa _).out))
  go_big_quiet_step (fail)
  go_big_quiet_step (fail)
  go_big_quiet_step (fail)
  go_big_quiet_step ((go_at_call 55; exact later_call (HWb _).out))
  refine wpQuiet_nil ?_
  intro _ hw'
  obtain ⟨z, rfl⟩ := hw'
  have hs0 := hB0.size
  have hX1 := later_blk hX z
  have hS11 := later_blk hS1 z
  have hS21 := later_blk hS2 z
  have hR1 := later_blk hR0 z
  have hB1 := hB0.trans ((later_below z).mono hs0)
  clear hX hS1 hS2 hR0 hB0 hs0 l0 l1 l2 m0 m1 m2 hwr HWa HWb HR
  generalize later W0 z = W1 at *
  have bA := ((hS11.set 0 (.string a1.text)).set 1 (.int .i64 a1.row)).set 2 (.int .i64 a1.deep)
  have l0 := hS11.cell (j := 0) rfl
  have l1 := hS11.cell (j := 1) rfl
  have l2 := hS11.cell (j := 2) rfl
  have lf := hS11.frozen
  have m0 := hS21.cell (j := 0) rfl
  have m1 := hS21.cell (j := 1) rfl
  have m2 := hS21.cell (j := 2) rfl
  have mf := hS21.frozen
  go_upto_region 3 with fail
  generalize hW : World.setCell _ _ _ = W3
  have hX3 : Blk W3 w.heap.size 41 [.int .i64 n.kind, .int .i64 k, .string n.text, .slice Am n.mat.length cm, .int .i64 n.width, .int .i64 n.back, .int .i64 n.grp, .slice An n.names.length cn, .bool n.cmp, .int .i64 n.parts] := by
    rw [← hW]
    exact (((((hX1.other (by simp; try omega) _).other (by simp; try omega) _).other (by simp; try omega) _).other (by simp; try omega) _).other (by simp; try omega) _).other (by simp; try omega) _
  have hA3 : Blk W3 (w.heap.size + 1) 53 [.string a1.text, .int .i64 a1.row, .int .i64 a1.deep] := by
    rw [← hW]
    exact (((((hS11.set 0 _).set 1 _).set 2 _).other (by simp) _).other (by simp) _).other (by simp) _
  have hC3 : Blk W3 (w.heap.size + 1 + 1) 53 [.string b1.text, .int .i64 b1.row, .int .i64 b1.deep] := by
    rw [← hW]
    exact (((((hS21.other (by simp) _).other (by simp) _).other (by simp) _).set 0 _).set 1 _).set 2 _
  have hR3 : Blk W3 (w.heap.size + 1 + 1 + 1) 53 [.string ⟨#[]⟩, .int .i64 0, .int .i64 0] := by
    rw [← hW]
    exact (((((hR1.other (by simp; try omega) _).other (by simp; try omega) _).other (by simp; try omega) _).other (by simp; try omega) _).other (by simp; try omega) _).other (by simp; try omega) _
  have hB3 : Below w.heap.size w W3 := by
    rw [← hW]
    exact (((((hB1.setCell (by simp; try omega) _).setCell (by simp; try omega) _).setCell (by simp; try omega) _).setCell (by simp; try omega) _).setCell (by simp; try omega) _).setCell (by simp; try omega) _
  clear hW hX1 hS11 hS21 hR1 hB1 bA l0 l1 l2 lf m0 m1 m2 mf
  have c1 := hX3.cell (j := 1) rfl
  go_wp2_with fail
  refine ((HO W3).out).mono ?_
  rintro e w4 ⟨rfl, hb4⟩
  have hX4 := hX3.below hb4 hX3.lt
  have hA4 := hA3.below hb4 hA3.lt
  have hC4 := hC3.below hb4 hC3.lt
  have hR4 := hR3.below hb4 hR3.lt
  have hB4 := hB3.trans (hb4.mono hB3.size)
  clear hX3 hA3 hC3 hR3 hB3 hb4 c1
  have c4 := hX4.cell (j := 8) rfl
  have c6 := hX4.cell (j := 6) rfl
  have c7 := hX4.cell (j := 7) rfl
  have l0 := hA4.cell (j := 0) rfl
  have l2 := hA4.cell (j := 2) rfl
  have m0 := hC4.cell (j := 0) rfl
  have m2 := hC4.cell (j := 2) rfl
  have r0 := hR4.cell (j := 0) rfl
  have r1 := hR4.cell (j := 1) rfl
  have r2 := hR4.cell (j := 2) rfl
  have rf := hR4.frozen
  go_upto_region 4 with fail
  cases hcmp : n.cmp with
  | true =>
    rcases hg with hg | hg | hg
    ·
      have hV : Hid (binT n a b = ⟨a1.text ++ ((((⟨#[32]⟩ : ByteArray) ++ wd) ++ (⟨#[32, 98, 111, 111, 108]⟩ : ByteArray)) ++ ((⟨#[32, 111, 110, 32]⟩ : ByteArray) ++ namesT n.names)) ++ (⟨#[32]⟩ : ByteArray) ++ b1.text, r, max a1.deep b1.deep⟩) := by
        show _ = _
        rw [HT.out, HMid.out, hcmp, hg]
        first | rfl | (show (⟨_ ++ (_ ++ ByteArray.empty) ++ _ ++ _, _, _⟩ : Sd) = _; rw [ByteArray.append_empty]; rfl)
      rw [hcmp] at c4
      rw [hg] at c6
      clear hcmp hg
      go_wp2_with fail
      refine ((HN w4 hB4).out).mono ?_
      rintro e w5 ⟨rfl, hb5⟩
      have hX5 := hX4.below hb5 hX4.lt
      have hA5 := hA4.below hb5 hA4.lt
      have hC5 := hC4.below hb5 hC4.lt
      have hR5 := hR4.below hb5 hR4.lt
      have hB5 := hB4.trans (hb5.mono hB4.size)
      clear hX4 hA4 hC4 hR4 hB4 hb5 c4 c6 c7 l0 l2 m0 m2 r0 r1 r2 rf
      have c4 := hX5.cell (j := 8) rfl
      have c6 := hX5.cell (j := 6) rfl
      have c7 := hX5.cell (j := 7) rfl
      have l0 := hA5.cell (j := 0) rfl
      have l2 := hA5.cell (j := 2) rfl
      have m0 := hC5.cell (j := 0) rfl
      have m2 := hC5.cell (j := 2) rfl
      have r0 := hR5.cell (j := 0) rfl
      have r1 := hR5.cell (j := 1) rfl
      have r2 := hR5.cell (j := 2) rfl
      have rf := hR5.frozen
      go_wp2_with fail
      rw [hV.out]
      have bE := ((hR5.set 0 (.string (a1.text ++ ((((⟨#[32]⟩ : ByteArray) ++ wd) ++ (⟨#[32, 98, 111, 111, 108]⟩ : ByteArray)) ++ ((⟨#[32, 111, 110, 32]⟩ : ByteArray) ++ namesT n.names)) ++ (⟨#[32]⟩ : ByteArray) ++ b1.text))).set 1 (.int .i64 r)).set 2 (.int .i64 (max a1.deep b1.deep))
      have d0 := bE.cell (j := 0) rfl
      have d1 := bE.cell (j := 1) rfl
      have d2 := bE.cell (j := 2) rfl
      exact bodyPost_ret (v := sdV ⟨a1.text ++ ((((⟨#[32]⟩ : ByteArray) ++ wd) ++ (⟨#[32, 98, 111, 111, 108]⟩ : ByteArray)) ++ ((⟨#[32, 111, 110, 32]⟩ : ByteArray) ++ namesT n.names)) ++ (⟨#[32]⟩ : ByteArray) ++ b1.text, r, max a1.deep b1.deep⟩) (by simp [results, Tryz.results53, go_sem, d0, d1, d2]; rfl) rfl ⟨rfl, ((hB5.setCell (by simp; try omega) _).setCell (by simp; try omega) _).setCell (by simp; try omega) _⟩
    ·
      have hV : Hid (binT n a b = ⟨a1.text ++ ((((⟨#[32]⟩ : ByteArray) ++ wd) ++ (⟨#[32, 98, 111, 111, 108]⟩ : ByteArray)) ++ ((⟨#[32, 105, 103, 110, 111, 114, 105, 110, 103, 32]⟩ : ByteArray) ++ namesT n.names)) ++ (⟨#[32]⟩ : ByteArray) ++ b1.text, r, max a1.deep b1.deep⟩) := by
        show _ = _
        rw [HT.out, HMid.out, hcmp, hg]
        first | rfl | (show (⟨_ ++ (_ ++ ByteArray.empty) ++ _ ++ _, _, _⟩ : Sd) = _; rw [ByteArray.append_empty]; rfl)
      rw [hcmp] at c4
      rw [hg] at c6
      clear hcmp hg
      go_wp2_with fail
      refine ((HN w4 hB4).out).mono ?_
      rintro e w5 ⟨rfl, hb5⟩
      have hX5 := hX4.below hb5 hX4.lt
      have hA5 := hA4.below hb5 hA4.lt
      have hC5 := hC4.below hb5 hC4.lt
      have hR5 := hR4.below hb5 hR4.lt
      have hB5 := hB4.trans (hb5.mono hB4.size)
      clear hX4 hA4 hC4 hR4 hB4 hb5 c4 c6 c7 l0 l2 m0 m2 r0 r1 r2 rf
      have c4 := hX5.cell (j := 8) rfl
      have c6 := hX5.cell (j := 6) rfl
      have c7 := hX5.cell (j := 7) rfl
      have l0 := hA5.cell (j := 0) rfl
      have l2 := hA5.cell (j := 2) rfl
      have m0 := hC5.cell (j := 0) rfl
      have m2 := hC5.cell (j := 2) rfl
      have r0 := hR5.cell (j := 0) rfl
      have r1 := hR5.cell (j := 1) rfl
      have r2 := hR5.cell (j := 2) rfl
      have rf := hR5.frozen
      go_wp2_with fail
      rw [hV.out]
      have bE := ((hR5.set 0 (.string (a1.text ++ ((((⟨#[32]⟩ : ByteArray) ++ wd) ++ (⟨#[32, 98, 111, 111, 108]⟩ : ByteArray)) ++ ((⟨#[32, 105, 103, 110, 111, 114, 105, 110, 103, 32]⟩ : ByteArray) ++ namesT n.names)) ++ (⟨#[32]⟩ : ByteArray) ++ b1.text))).set 1 (.int .i64 r)).set 2 (.int .i64 (max a1.deep b1.deep))
      have d0 := bE.cell (j := 0) rfl
      have d1 := bE.cell (j := 1) rfl
      have d2 := bE.cell (j := 2) rfl
      exact bodyPost_ret (v := sdV ⟨a1.text ++ ((((⟨#[32]⟩ : ByteArray) ++ wd) ++ (⟨#[32, 98, 111, 111, 108]⟩ : ByteArray)) ++ ((⟨#[32, 105, 103, 110, 111, 114, 105, 110, 103, 32]⟩ : ByteArray) ++ namesT n.names)) ++ (⟨#[32]⟩ : ByteArray) ++ b1.text, r, max a1.deep b1.deep⟩) (by simp [results, Tryz.results53, go_sem, d0, d1, d2]; rfl) rfl ⟨rfl, ((hB5.setCell (by simp; try omega) _).setCell (by simp; try omega) _).setCell (by simp; try omega) _⟩
    ·
      have hV : Hid (binT n a b = ⟨a1.text ++ (((⟨#[32]⟩ : ByteArray) ++ wd) ++ (⟨#[32, 98, 111, 111, 108]⟩ : ByteArray)) ++ (⟨#[32]⟩ : ByteArray) ++ b1.text, r, max a1.deep b1.deep⟩) := by
        show _ = _
        rw [HT.out, HMid.out, hcmp, hg]
        first | rfl | (show (⟨_ ++ (_ ++ ByteArray.empty) ++ _ ++ _, _, _⟩ : Sd) = _; rw [ByteArray.append_empty]; rfl)
      rw [hcmp] at c4
      rw [hg] at c6
      clear hcmp hg
      go_wp2_with fail
      rw [hV.out]
      have bE := ((hR4.set 0 (.string (a1.text ++ (((⟨#[32]⟩ : ByteArray) ++ wd) ++ (⟨#[32, 98, 111, 111, 108]⟩ : ByteArray)) ++ (⟨#[32]⟩ : ByteArray) ++ b1.text))).set 1 (.int .i64 r)).set 2 (.int .i64 (max a1.deep b1.deep))
      have d0 := bE.cell (j := 0) rfl
      have d1 := bE.cell (j := 1) rfl
      have d2 := bE.cell (j := 2) rfl
      exact bodyPost_ret (v := sdV ⟨a1.text ++ (((⟨#[32]⟩ : ByteArray) ++ wd) ++ (⟨#[32, 98, 111, 111, 108]⟩ : ByteArray)) ++ (⟨#[32]⟩ : ByteArray) ++ b1.text, r, max a1.deep b1.deep⟩) (by simp [results, Tryz.results53, go_sem, d0, d1, d2]; rfl) rfl ⟨rfl, ((hB4.setCell (by simp; try omega) _).setCell (by simp; try omega) _).setCell (by simp; try omega) _⟩
  | false =>
    rcases hg with hg | hg | hg
    ·
      have hV : Hid (binT n a b = ⟨a1.text ++ (((⟨#[32]⟩ : ByteArray) ++ wd) ++ ((⟨#[32, 111, 110, 32]⟩ : ByteArray) ++ namesT n.names)) ++ (⟨#[32]⟩ : ByteArray) ++ b1.text, r, max a1.deep b1.deep⟩) := by
        show _ = _
        rw [HT.out, HMid.out, hcmp, hg]
        first | rfl | (show (⟨_ ++ (_ ++ ByteArray.empty) ++ _ ++ _, _, _⟩ : Sd) = _; rw [ByteArray.append_empty]; rfl)
      rw [hcmp] at c4
      rw [hg] at c6
      clear hcmp hg
      go_wp2_with fail
      refine ((HN w4 hB4).out).mono ?_
      rintro e w5 ⟨rfl, hb5⟩
      have hX5 := hX4.below hb5 hX4.lt
      have hA5 := hA4.below hb5 hA4.lt
      have hC5 := hC4.below hb5 hC4.lt
      have hR5 := hR4.below hb5 hR4.lt
      have hB5 := hB4.trans (hb5.mono hB4.size)
      clear hX4 hA4 hC4 hR4 hB4 hb5 c4 c6 c7 l0 l2 m0 m2 r0 r1 r2 rf
      have c4 := hX5.cell (j := 8) rfl
      have c6 := hX5.cell (j := 6) rfl
      have c7 := hX5.cell (j := 7) rfl
      have l0 := hA5.cell (j := 0) rfl
      have l2 := hA5.cell (j := 2) rfl
      have m0 := hC5.cell (j := 0) rfl
      have m2 := hC5.cell (j := 2) rfl
      have r0 := hR5.cell (j := 0) rfl
      have r1 := hR5.cell (j := 1) rfl
      have r2 := hR5.cell (j := 2) rfl
      have rf := hR5.frozen
      go_wp2_with fail
      rw [hV.out]
      have bE := ((hR5.set 0 (.string (a1.text ++ (((⟨#[32]⟩ : ByteArray) ++ wd) ++ ((⟨#[32, 111, 110, 32]⟩ : ByteArray) ++ namesT n.names)) ++ (⟨#[32]⟩ : ByteArray) ++ b1.text))).set 1 (.int .i64 r)).set 2 (.int .i64 (max a1.deep b1.deep))
      have d0 := bE.cell (j := 0) rfl
      have d1 := bE.cell (j := 1) rfl
      have d2 := bE.cell (j := 2) rfl
      exact bodyPost_ret (v := sdV ⟨a1.text ++ (((⟨#[32]⟩ : ByteArray) ++ wd) ++ ((⟨#[32, 111, 110, 32]⟩ : ByteArray) ++ namesT n.names)) ++ (⟨#[32]⟩ : ByteArray) ++ b1.text, r, max a1.deep b1.deep⟩) (by simp [results, Tryz.results53, go_sem, d0, d1, d2]; rfl) rfl ⟨rfl, ((hB5.setCell (by simp; try omega) _).setCell (by simp; try omega) _).setCell (by simp; try omega) _⟩
    ·
      have hV : Hid (binT n a b = ⟨a1.text ++ (((⟨#[32]⟩ : ByteArray) ++ wd) ++ ((⟨#[32, 105, 103, 110, 111, 114, 105, 110, 103, 32]⟩ : ByteArray) ++ namesT n.names)) ++ (⟨#[32]⟩ : ByteArray) ++ b1.text, r, max a1.deep b1.deep⟩) := by
        show _ = _
        rw [HT.out, HMid.out, hcmp, hg]
        first | rfl | (show (⟨_ ++ (_ ++ ByteArray.empty) ++ _ ++ _, _, _⟩ : Sd) = _; rw [ByteArray.append_empty]; rfl)
      rw [hcmp] at c4
      rw [hg] at c6
      clear hcmp hg
      go_wp2_with fail
      refine ((HN w4 hB4).out).mono ?_
      rintro e w5 ⟨rfl, hb5⟩
      have hX5 := hX4.below hb5 hX4.lt
      have hA5 := hA4.below hb5 hA4.lt
      have hC5 := hC4.below hb5 hC4.lt
      have hR5 := hR4.below hb5 hR4.lt
      have hB5 := hB4.trans (hb5.mono hB4.size)
      clear hX4 hA4 hC4 hR4 hB4 hb5 c4 c6 c7 l0 l2 m0 m2 r0 r1 r2 rf
      have c4 := hX5.cell (j := 8) rfl
      have c6 := hX5.cell (j := 6) rfl
      have c7 := hX5.cell (j := 7) rfl
      have l0 := hA5.cell (j := 0) rfl
      have l2 := hA5.cell (j := 2) rfl
      have m0 := hC5.cell (j := 0) rfl
      have m2 := hC5.cell (j := 2) rfl
      have r0 := hR5.cell (j := 0) rfl
      have r1 := hR5.cell (j := 1) rfl
      have r2 := hR5.cell (j := 2) rfl
      have rf := hR5.frozen
      go_wp2_with fail
      rw [hV.out]
      have bE := ((hR5.set 0 (.string (a1.text ++ (((⟨#[32]⟩ : ByteArray) ++ wd) ++ ((⟨#[32, 105, 103, 110, 111, 114, 105, 110, 103, 32]⟩ : ByteArray) ++ namesT n.names)) ++ (⟨#[32]⟩ : ByteArray) ++ b1.text))).set 1 (.int .i64 r)).set 2 (.int .i64 (max a1.deep b1.deep))
      have d0 := bE.cell (j := 0) rfl
      have d1 := bE.cell (j := 1) rfl
      have d2 := bE.cell (j := 2) rfl
      exact bodyPost_ret (v := sdV ⟨a1.text ++ (((⟨#[32]⟩ : ByteArray) ++ wd) ++ ((⟨#[32, 105, 103, 110, 111, 114, 105, 110, 103, 32]⟩ : ByteArray) ++ namesT n.names)) ++ (⟨#[32]⟩ : ByteArray) ++ b1.text, r, max a1.deep b1.deep⟩) (by simp [results, Tryz.results53, go_sem, d0, d1, d2]; rfl) rfl ⟨rfl, ((hB5.setCell (by simp; try omega) _).setCell (by simp; try omega) _).setCell (by simp; try omega) _⟩
    ·
      have hV : Hid (binT n a b = ⟨a1.text ++ ((⟨#[32]⟩ : ByteArray) ++ wd) ++ (⟨#[32]⟩ : ByteArray) ++ b1.text, r, max a1.deep b1.deep⟩) := by
        show _ = _
        rw [HT.out, HMid.out, hcmp, hg]
        first | rfl | (show (⟨_ ++ (_ ++ ByteArray.empty) ++ _ ++ _, _, _⟩ : Sd) = _; rw [ByteArray.append_empty]; rfl)
      rw [hcmp] at c4
      rw [hg] at c6
      clear hcmp hg
      go_wp2_with fail
      rw [hV.out]
      have bE := ((hR4.set 0 (.string (a1.text ++ ((⟨#[32]⟩ : ByteArray) ++ wd) ++ (⟨#[32]⟩ : ByteArray) ++ b1.text))).set 1 (.int .i64 r)).set 2 (.int .i64 (max a1.deep b1.deep))
      have d0 := bE.cell (j := 0) rfl
      have d1 := bE.cell (j := 1) rfl
      have d2 := bE.cell (j := 2) rfl
      exact bodyPost_ret (v := sdV ⟨a1.text ++ ((⟨#[32]⟩ : ByteArray) ++ wd) ++ (⟨#[32]⟩ : ByteArray) ++ b1.text, r, max a1.deep b1.deep⟩) (by simp [results, Tryz.results53, go_sem, d0, d1, d2]; rfl) rfl ⟨rfl, ((hB4.setCell (by simp; try omega) _).setCell (by simp; try omega) _).setCell (by simp; try omega) _⟩
end
end Go.Proofs.YtakfnojiaakfpaaGreatDoor
