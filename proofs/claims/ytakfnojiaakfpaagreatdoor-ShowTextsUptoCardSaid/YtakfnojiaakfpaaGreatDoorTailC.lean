/- A region that draws its order: first operations that only read or make new memory, two new blocks at any time among them, then some in one forced order. -/
import Derived.Test.YtakfnojiaakfpaaGreatDoorTailB
namespace Go.Proofs.YtakfnojiaakfpaaGreatDoor
open Go Go.RowKit
section
variable {P : Program} {ops : Array Oper} {md : Region.Mode} {W : World}
/-- The head of a region, whatever order is picked; n and n + 1 make the new blocks. -/
def wpHead2 (P : Program) (md : Region.Mode) (ops : Array Oper) (W : World) (n d e : Nat) (L : Array Bool → Act → Nat → Nat → Prop) : Nat → Array Bool → Act → Nat → Nat → Prop
  | 0, listed, a, β, γ => L listed a β γ
  | f + 1, listed, a, β, γ => Region.ready md ops listed ≠ [] ∧ ∀ i ∈ Region.ready md ops listed,
    (i < n ∧ gOp P ops W i (fun a' => wpHead2 P md ops W n d e L f (listed.setIfInBounds i true) a' β γ) a) ∨ (i = n ∧ ∀ b, wpHead2 P md ops W n d e L f (listed.setIfInBounds i true) (a.put (some d) (ptrB b)) b γ) ∨
    (i = n + 1 ∧ ∀ b, wpHead2 P md ops W n d e L f (listed.setIfInBounds i true) (a.put (some e) (ptrB b)) β b)
theorem wpAny_of_wpHead2 {n d e g : Nat} {obj obj2 : Obj} {L : Array Bool → Act → Nat → Nat → Prop} {Q : Exit → Act → World → Prop}
    (hAl : ∀ (a : Act) (w : World) (K : Act → World → Prop), K (a.put (some d) (ptrB w.heap.size)) (w.alloc obj) → wpOp P ops Q n K a w) (hAl2 : ∀ (a : Act) (w : World) (K : Act → World → Prop), K (a.put (some e) (ptrB w.heap.size)) (w.alloc obj2) → wpOp P ops Q (n + 1) K a w)
    (hL : ∀ listed a w β γ, LatC W w → w.heap[β]? = some obj → W.heap.size ≤ β → w.heap[γ]? = some obj2 → W.heap.size ≤ γ → β ≠ γ → L listed a β γ → wpAny P md ops Q g listed a w) (hLn : ∀ listed a β γ, L listed a β γ → listed.getD n false = true ∧ listed.getD (n + 1) false = true) :
    ∀ (f : Nat) (listed : Array Bool) (a : Act) (β γ : Nat) (w : World), LatC W w → (listed.getD n false = true → w.heap[β]? = some obj ∧ W.heap.size ≤ β) → (listed.getD (n + 1) false = true → w.heap[γ]? = some obj2 ∧ W.heap.size ≤ γ) →
      (listed.getD n false = true → listed.getD (n + 1) false = true → β ≠ γ) → wpHead2 P md ops W n d e L f listed a β γ → wpAny P md ops Q (f + g) listed a w
  | 0, listed, a, β, γ, w, hw, hb, hc, hbc, h => by
    rw [Nat.zero_add]
    obtain ⟨l1, l2⟩ := hLn _ _ _ _ h
    obtain ⟨h1, h2⟩ := hb l1
    obtain ⟨h3, h4⟩ := hc l2
    exact hL _ _ _ β γ hw h1 h2 h3 h4 (hbc l1 l2) h
  | f + 1, listed, a, β, γ, w, hw, hb, hc, hbc, h => by
    rw [show f + 1 + g = (f + g) + 1 by omega]
    refine ⟨fun h0 => absurd h0 h.1, fun i hi => ?_⟩
    rcases h.2 i hi with ⟨hin, o, v, ho, hy, hk⟩ | ⟨rfl, hk⟩ | ⟨rfl, hk⟩
    · refine wpOp_of_qOp (C := LatC w) (K := fun a' => wpHead2 P md ops W n d e L f (listed.setIfInBounds i true) a' β γ) (LatC.refl w) (fun a' w' hw' hk' => ?_) (hy.qOp ho hw hk)
      refine wpAny_of_wpHead2 hAl hAl2 hL hLn f _ a' β γ w' (hw.trans hw') (fun hn => ?_) (fun hn => ?_) (fun hn hm => ?_) hk'
      · rw [getD_set_ne false (by omega)] at hn
        obtain ⟨h1, h2⟩ := hb hn
        exact ⟨(hw'.below.block β (Array.getElem?_eq_some_iff.1 h1).1).trans h1, h2⟩
      · rw [getD_set_ne false (by omega)] at hn
        obtain ⟨h1, h2⟩ := hc hn
        exact ⟨(hw'.below.block γ (Array.getElem?_eq_some_iff.1 h1).1).trans h1, h2⟩
      · rw [getD_set_ne false (by omega)] at hn hm
        exact hbc hn hm
    · refine hAl a w _ ?_
      have hB : LatC w (w.alloc obj) := .of ((Below.refl _ _).alloc (Nat.le_refl _) _)
      refine wpAny_of_wpHead2 hAl hAl2 hL hLn f _ _ w.heap.size γ (w.alloc obj) (hw.trans hB) (fun _ => ⟨heap_alloc_new w obj, hw.below.size⟩) (fun hn => ?_) (fun _ hm => ?_) (hk _)
      · rw [getD_set_ne false (by omega)] at hn
        obtain ⟨h1, h2⟩ := hc hn
        exact ⟨(hB.below.block γ (Array.getElem?_eq_some_iff.1 h1).1).trans h1, h2⟩
      · rw [getD_set_ne false (by omega)] at hm
        have := (Array.getElem?_eq_some_iff.1 (hc hm).1).1
        omega
    · refine hAl2 a w _ ?_
      have hB : LatC w (w.alloc obj2) := .of ((Below.refl _ _).alloc (Nat.le_refl _) _)
      refine wpAny_of_wpHead2 hAl hAl2 hL hLn f _ _ β w.heap.size (w.alloc obj2) (hw.trans hB) (fun hn => ?_) (fun _ => ⟨heap_alloc_new w obj2, hw.below.size⟩) (fun hn _ => ?_) (hk _)
      · rw [getD_set_ne false (by omega)] at hn
        obtain ⟨h1, h2⟩ := hb hn
        exact ⟨(hB.below.block β (Array.getElem?_eq_some_iff.1 h1).1).trans h1, h2⟩
      · rw [getD_set_ne false (by omega)] at hn
        have := (Array.getElem?_eq_some_iff.1 (hb hn).1).1
        omega
theorem wpHead2_first {n d e i : Nat} {oi oa ob : Oper} {v : Value} {L : Array Bool → Act → Nat → Nat → Prop} (hi : ops[i]? = some oi) (hoa : ops[n]? = some oa) (hda : oa.dst = some d) (hob : ops[n + 1]? = some ob) (hdb : ob.dst = some e) (hsel : ∀ (j : Nat) (o : Oper) cs b, ops[j]? = some o → o.op ≠ .select cs b)
    (hs : Region.sinkB md ops (n + 2) = true) (hc : Region.chainB md ops (n + 2) = true) (hn : n + 2 < ops.size) (hin : i < n) (hdone : ∀ listed a β γ, L listed a β γ → ∀ j ∈ Region.ready md ops listed, n + 2 ≤ j) :
    ∀ (f : Nat) (listed : Array Bool) (a : Act) (β γ : Nat), HeadInv md ops (n + 2) listed →
      (∀ j oj, ops[j]? = some oj → j ≠ i → listed.getD j true = false → (∀ e ∈ oj.after, Region.binds md e = true → e.on ≠ i) → oi.apart ops oj = true) →
      i ∈ Region.ready md ops listed → YieldsG P ops W oi v a → wpHead2 P md ops W n d e L f (listed.setIfInBounds i true) (a.put oi.dst v) β γ → wpHead2 P md ops W n d e L (f + 1) listed a β γ := by
  intro f
  induction f with
  | zero =>
    intro listed a β γ inv _ hr hy H
    have hun := (mem_ready.1 hr).1
    refine ⟨fun h => (by rw [h] at hr; cases hr), fun j hj => ?_⟩
    have hjn : j < n + 2 := by
      rcases Nat.lt_or_ge j (n + 2) with h | h
      · exact h
      · exact absurd hj (tail_waits hs hc hn inv _ i rfl (by omega) hun j h)
    by_cases hji : j = i
    · subst hji
      exact .inl ⟨hin, oi, v, hi, hy, H⟩
    · have := hdone _ _ _ _ H j (ready_mono hj hji)
      omega
  | succ f ih =>
    intro listed a β γ inv hfree hr hy H
    have hun := (mem_ready.1 hr).1
    refine ⟨fun h => (by rw [h] at hr; cases hr), fun j hj => ?_⟩
    have hjn : j < n + 2 := by
      rcases Nat.lt_or_ge j (n + 2) with h | h
      · exact h
      · exact absurd hj (tail_waits hs hc hn inv _ i rfl (by omega) hun j h)
    by_cases hji : j = i
    · subst hji
      exact .inl ⟨hin, oi, v, hi, hy, H⟩
    · obtain ⟨hjun, oj, hoj, hall⟩ := mem_ready.1 hj
      have hnot : ∀ e ∈ oj.after, Region.binds md e = true → e.on ≠ i := fun e he hb heq => by
        have h1 := hall e he hb
        rw [heq, getD_both hun] at h1
        cases h1
      have hap := hfree j oj hoj hji hjun hnot
      have hfree' : ∀ k ok, ops[k]? = some ok → k ≠ i → (listed.setIfInBounds j true).getD k true = false → (∀ e ∈ ok.after, Region.binds md e = true → e.on ≠ i) → oi.apart ops ok = true := fun k ok hk hki hun hno => by
        refine hfree k ok hk hki ?_ hno
        by_cases hjk : j = k
        · subst hjk; exact hjun
        · rw [getD_set_ne true hjk] at hun; exact hun
      rcases H.2 j (ready_mono hj hji) with ⟨hjlt, h1⟩ | ⟨rfl, h1⟩ | ⟨rfl, h1⟩
      · obtain ⟨o, u, ho, hu, h3, h4⟩ := gOp_put hoj hap (fun cs b => hsel i oi cs b hi) (fun cs b => hsel j oj cs b hoj) hy h1
        refine .inl ⟨hjlt, o, u, ho, hu, ih (listed.setIfInBounds j true) _ β γ (inv.set hj hjn) hfree' (ready_mono hr (Ne.symm hji)) h3 ?_⟩
        rw [Array.setIfInBounds_comm _ _ hji]
        exact h4
      · have hoe : oj = oa := Option.some.inj (hoj.symm.trans hoa)
        subst hoe
        obtain ⟨p1, p2, p3⟩ := Oper.apart_spec hap
        rw [hda] at p3
        refine .inr (.inl ⟨rfl, fun b => ih (listed.setIfInBounds j true) _ b γ (inv.set hj hjn) hfree' (ready_mono hr (Ne.symm hji)) (hy.of_same (execOp_put oi (fun cs b => hsel i oi cs b hi) a (some d) (ptrB b) p3) (wanted_put oi a (some d) (ptrB b) p3)) ?_⟩)
        rw [Array.setIfInBounds_comm _ _ hji, ← Act.put_comm a v (ptrB b) (fun d' hd' => by rw [← hda]; exact p2 d' hd')]
        exact h1 b
      · have hoe : oj = ob := Option.some.inj (hoj.symm.trans hob)
        subst hoe
        obtain ⟨p1, p2, p3⟩ := Oper.apart_spec hap
        rw [hdb] at p3
        refine .inr (.inr ⟨rfl, fun b => ih (listed.setIfInBounds (n + 1) true) _ β b (inv.set hj hjn) hfree' (ready_mono hr (Ne.symm hji)) (hy.of_same (execOp_put oi (fun cs b => hsel i oi cs b hi) a (some e) (ptrB b) p3) (wanted_put oi a (some e) (ptrB b) p3)) ?_⟩)
        rw [Array.setIfInBounds_comm _ _ hji, ← Act.put_comm a v (ptrB b) (fun d' hd' => by rw [← hdb]; exact p2 d' hd')]
        exact h1 b
/-- The walk in the order of the text. -/
def wpGrow2 (P : Program) (ops : Array Oper) (W : World) (d e : Nat) (Lq : Act → Nat → Nat → Prop) : List Oper → Act → Prop
  | [], a => ∀ b c, Lq ((a.put (some d) (ptrB b)).put (some e) (ptrB c)) b c
  | o :: r, a => ∃ v, YieldsG P ops W o v a ∧ wpGrow2 P ops W d e Lq r (a.put o.dst v)
theorem wpHead2_lex {n d e g : Nat} {oa ob : Oper} {Lq : Act → Nat → Nat → Prop} (hde : d ≠ e) (hoa : ops[n]? = some oa) (hda : oa.dst = some d) (hob : ops[n + 1]? = some ob) (hdb : ob.dst = some e) (hsel : Region.noSelect ops = true) (hs : Region.sinkB md ops (n + 2) = true) (hc : Region.chainB md ops (n + 2) = true) (hn : n + 2 < ops.size) :
    ∀ (l : List Oper) (k : Nat) (listed : Array Bool) (a : Act) (β γ : Nat), (∀ j, j < l.length → l[j]? = ops[k + j]?) → k + l.length = n → (∀ j, j < k → listed.getD j true = true) → HeadInv md ops (n + 2) listed → Region.lexHead md ops g (l.length + 2) k listed = true → wpGrow2 P ops W d e Lq l a →
    wpHead2 P md ops W n d e (fun listed' a' b c => (listed'.getD n false = true ∧ listed'.getD (n + 1) false = true) ∧ Region.seqB md ops g (n + 2) listed' = true ∧ Lq a' b c) (l.length + 2) listed a β γ
  | [], k, listed, a, β, γ, _, hk, hall, inv, hB, h => by
    have : k = n := by simpa using hk
    subst this
    simp only [List.length_nil, Region.lexHead, Bool.and_eq_true] at hB
    obtain ⟨⟨hr, _⟩, ⟨hr2, _⟩, hB'⟩ := hB
    have hr' : k ∈ Region.ready md ops listed := by simpa using hr
    have hr2' : k + 1 ∈ Region.ready md ops (listed.setIfInBounds k true) := by simpa using hr2
    have hun := (mem_ready.1 hr').1
    have hun2 : listed.getD (k + 1) true = false := by
      have := (mem_ready.1 hr2').1
      rwa [getD_set_ne true (by omega)] at this
    have hsz := inv.size
    have small : ∀ (ls : Array Bool), HeadInv md ops (k + 2) ls → (∀ j, j < k → ls.getD j true = true) → (ls.getD k true = false ∨ ls.getD (k + 1) true = false) → ∀ i ∈ Region.ready md ops ls, i = k ∨ i = k + 1 := by
      intro ls inv' hal hor i hi
      rcases Nat.lt_or_ge i k with h1 | h1
      · have h2 := (mem_ready.1 hi).1
        rw [hal i h1] at h2
        cases h2
      · rcases Nat.lt_or_ge i (k + 2) with h2 | h2
        · omega
        · rcases hor with h3 | h3
          · exact absurd hi (tail_waits hs hc hn inv' _ k rfl (by omega) h3 i h2)
          · exact absurd hi (tail_waits hs hc hn inv' _ (k + 1) rfl (by omega) h3 i h2)
    have keepAll : ∀ x, k ≤ x → ∀ j, j < k → (listed.setIfInBounds x true).getD j true = true := fun x hx j hj => by rw [getD_set_ne true (by omega)]; exact hall j hj
    refine ⟨fun h => (by rw [h] at hr'; cases hr'), fun i hi => ?_⟩
    rcases small listed inv hall (.inl hun) i hi with rfl | rfl
    · refine .inr (.inl ⟨rfl, fun b => ⟨fun h => (by rw [h] at hr2'; cases hr2'), fun j hj => ?_⟩⟩)
      have hj2 : j = i + 1 := by
        rcases small _ (inv.set hi (by omega)) (keepAll i (Nat.le_refl _)) (.inr (by rw [getD_set_ne true (by omega)]; exact hun2)) j hj with h1 | h1
        · subst h1
          have h2 := (mem_ready.1 hj).1
          rw [getD_set_self (by omega) true] at h2
          cases h2
        · exact h1
      subst hj2
      refine .inr (.inr ⟨rfl, fun c => ⟨⟨?_, ?_⟩, hB', h b c⟩⟩)
      · rw [getD_set_ne false (by omega)]
        exact getD_set_self (by omega) false
      · exact getD_set_self (by simp; omega) false
    · have hk1 : k ∈ Region.ready md ops (listed.setIfInBounds (k + 1) true) := ready_mono hr' (by omega)
      refine .inr (.inr ⟨rfl, fun c => ⟨fun h => (by rw [h] at hk1; cases hk1), fun j hj => ?_⟩⟩)
      have hj2 : j = k := by
        rcases small _ (inv.set hi (by omega)) (keepAll (k + 1) (by omega)) (.inl (by rw [getD_set_ne true (by omega)]; exact hun)) j hj with h1 | h1
        · exact h1
        · subst h1
          have h2 := (mem_ready.1 hj).1
          rw [getD_set_self (by omega) true] at h2
          cases h2
      subst hj2
      have hcomm : (listed.setIfInBounds (j + 1) true).setIfInBounds j true = (listed.setIfInBounds j true).setIfInBounds (j + 1) true := Array.setIfInBounds_comm _ _ (by omega)
      have hput : ∀ b, (a.put (some e) (ptrB c)).put (some d) (ptrB b) = (a.put (some d) (ptrB b)).put (some e) (ptrB c) := fun b => Act.put_comm a (ptrB c) (ptrB b) (fun d' hd' => by injection hd' with hd'; subst hd'; intro h; injection h with h; exact hde h)
      refine .inr (.inl ⟨rfl, fun b => ?_⟩)
      rw [hcomm, hput b]
      refine ⟨⟨?_, ?_⟩, hB', h b c⟩
      · rw [getD_set_ne false (by omega)]
        exact getD_set_self (by omega) false
      · exact getD_set_self (by simp; omega) false
  | o :: l, k, listed, a, β, γ, hl, hk, hall, inv, hB, h => by
    have h0 : ops[k]? = some o := by simpa using (hl 0 (by simp)).symm
    rw [List.length_cons, Region.lexHead] at hB
    simp only [Bool.and_eq_true] at hB
    obtain ⟨⟨hr, hf⟩, hB'⟩ := hB
    have hkn : k < n := by simp only [List.length_cons] at hk; omega
    have hr' : k ∈ Region.ready md ops listed := by simpa using hr
    obtain ⟨v, hy, hK⟩ := h
    have hksz : k < listed.size := by rw [inv.size]; omega
    exact wpHead2_first h0 hoa hda hob hdb (Region.noSelect_spec hsel) hs hc hn hkn (fun listed' a' b c hL => seqB_ready hL.2.1) (l.length + 2) listed a β γ inv (Region.free_spec h0 hf) hr' hy
      (wpHead2_lex hde hoa hda hob hdb hsel hs hc hn l (k + 1) _ _ β γ (fun j hj => by have := hl (j + 1) (by simp; omega); simpa [Nat.add_assoc, Nat.add_comm 1 j] using this) (by simp only [List.length_cons] at hk; omega)
        (fun j hj => by
          by_cases hjk : k = j
          · subst hjk; exact getD_set_self hksz true
          · rw [getD_set_ne true hjk]; exact hall j (by omega))
        (inv.set hr' (by omega)) hB' hK)
theorem grow2_of {d e : Nat} {Lq : Act → Nat → Nat → Prop} : ∀ (l : List Oper) (a : Act), wpGrow P ops W d (fun a' b => ∀ c, Lq (a'.put (some e) (ptrB c)) b c) l a → wpGrow2 P ops W d e Lq l a
  | [], _, h => h
  | _ :: r, _, ⟨v, hy, h⟩ => ⟨v, hy, grow2_of r _ h⟩
/-- A region that draws: its head only reads or makes new memory; two operations behind it in the text make blocks; its tail is in one order. -/
theorem wp_region_later_alloc2 {id : Nat} {Q : Exit → Act → World → Prop} {a aE : Act} {l : List Oper} {oa ob : Oper} {obj obj2 : Obj} (n d e : Nat) (hm : P.follows .mixedOrders = true) (hB : Region.lexTailB .any l.toArray (n + 2) = true) (hde : d ≠ e) (hoa : l.toArray[n]? = some oa) (hda : oa.dst = some d) (hob : l.toArray[n + 1]? = some ob) (hdb : ob.dst = some e)
    (hds : dstsB (l.take n) a.tmps.size = true)
    (hAl : ∀ (a : Act) (w : World) (K : Act → World → Prop), K (a.put (some d) (ptrB w.heap.size)) (w.alloc obj) → wpOp P l.toArray Q n K a w) (hAl2 : ∀ (a : Act) (w : World) (K : Act → World → Prop), K (a.put (some e) (ptrB w.heap.size)) (w.alloc obj2) → wpOp P l.toArray Q (n + 1) K a w)
    (h : ∀ V, LatC W V → wpQuiet P l.toArray (LatC V) (fun a' => a' = aE) (l.take n) a)
    (hT : ∀ w' b c, Below W.heap.size W w' → w'.heap[b]? = some obj → W.heap.size ≤ b → w'.heap[c]? = some obj2 → W.heap.size ≤ c → b ≠ c → wpList P l.toArray Q (l.drop (n + 2)) ((aE.put (some d) (ptrB b)).put (some e) (ptrB c)) w') : (Code.region id l.toArray true).wp P Q a W := by
  simp only [Region.lexTailB, Bool.and_eq_true, decide_eq_true_eq] at hB
  obtain ⟨⟨⟨⟨hsel, hn⟩, hs⟩, hc⟩, hlex⟩ := hB
  have hn' : n + 2 < l.length := by simpa using hn
  have htl : (l.take n).length = n := by simp; omega
  have hdl : (l.drop (n + 2)).length = l.toArray.size - (n + 2) := by simp
  have inv0 : HeadInv .any l.toArray (n + 2) (Array.replicate l.toArray.size false) :=
    ⟨by simp, fun j oj _ hl => (by rw [getD_replicate_false] at hl; cases hl), fun t _ ht => getD_in (by simpa using ht) (getD_replicate_false _ _)⟩
  have hg := grow2_of (P := P) (ops := l.toArray) (W := W) (d := d) (e := e) (Lq := fun a'' b c => ∀ w', Below W.heap.size W w' → w'.heap[b]? = some obj → W.heap.size ≤ b → w'.heap[c]? = some obj2 → W.heap.size ≤ c → b ≠ c → wpList P l.toArray Q (l.drop (n + 2)) a'' w') (l.take n) a (grow_of_quiet (fun b c w' h1 h2 h3 h4 h5 h6 => hT w' b c h1 h2 h3 h4 h5 h6) (l.take n) a hds h)
  have H := wpHead2_lex (md := .any) (g := l.toArray.size - (n + 2)) hde hoa hda hob hdb hsel hs hc hn (l.take n) 0 _ a 0 0 (fun j hj => by
    have hj' : j < n := by rw [htl] at hj; exact hj
    simp [hj']) (by simpa using htl) (fun j hj => by omega) inv0 (by rw [htl]; exact hlex) hg
  refine wp_region_any hm ?_
  have := wpAny_of_wpHead2 (Q := Q) (obj := obj) (obj2 := obj2) (g := l.toArray.size - (n + 2)) hAl hAl2 (fun listed a' w' β γ hw' h1 h2 h3 h4 h5 hL => by
    have := wpAny_of_seq (md := .any) (Q' := Q) (l.drop (n + 2)) (n + 2) listed a' w' (fun j => by simp [List.getElem?_drop]) (by rw [hdl]; exact hL.2.1) (hL.2.2 w' hw'.below h1 h2 h3 h4 h5)
    rwa [hdl] at this) (fun _ _ _ _ hL => hL.1) _ _ _ _ _ _ (LatC.of (Below.refl W.heap.size W).drew) (fun hf => by rw [getD_replicate_false] at hf; cases hf) (fun hf => by rw [getD_replicate_false] at hf; cases hf) (fun hf => by rw [getD_replicate_false] at hf; cases hf) H
  rw [htl, show n + 2 + (l.toArray.size - (n + 2)) = l.toArray.size by omega] at this
  exact this
end
end Go.Proofs.YtakfnojiaakfpaaGreatDoor
