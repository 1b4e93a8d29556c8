/- A region that draws its order: operations that only read or make new memory, a new block at any time among them, then some in one forced order; walked in an order of one's own. -/
import Derived.Test.YtakfnojiaakfpaaGreatDoorTailB
namespace Go.Proofs.YtakfnojiaakfpaaGreatDoor
open Go Go.RowKit
section
variable {P : Program} {ops : Array Oper} {md : Region.Mode} {W : World} {pv : Nat → Value} {obj : Obj} {hd mid tl : List Nat} {n d : Nat}
/-- In every world behind W in which block b is the new one the operation yields v, and leaves a world behind that one. -/
def YieldsB (P : Program) (ops : Array Oper) (W : World) (obj : Obj) (b : Nat) (o : Oper) (v : Value) (a : Act) : Prop :=
  (Region.wanted o (yielded ops a.tmps) = true ∧ ∀ w, LatC W w → w.heap[b]? = some obj → o.quietAt P a (LatC w) w v) ∨ (Region.wanted o (yielded ops a.tmps) = false ∧ v = undef)
theorem YieldsB.of_same {obj : Obj} {b : Nat} {o : Oper} {v : Value} {a a' : Act} (hy : YieldsB P ops W obj b o v a) (he : execOp a'.eval o = execOp a.eval o) (hw : Region.wanted o (yielded ops a'.tmps) = Region.wanted o (yielded ops a.tmps)) : YieldsB P ops W obj b o v a' := by
  unfold YieldsB Oper.quietAt at *
  rw [he, hw]
  exact hy
def bOp (P : Program) (ops : Array Oper) (W : World) (obj : Obj) (b : Nat) (i : Nat) (K : Act → Prop) (a : Act) : Prop := ∃ o v, ops[i]? = some o ∧ YieldsB P ops W obj b o v a ∧ K (a.put o.dst v)
theorem heap_keeps {w u : World} {b : Nat} {obj : Obj} (h : w.heap[b]? = some obj) (hu : LatC w u) : u.heap[b]? = some obj := (hu.below.block b (Array.getElem?_eq_some_iff.1 h).1).trans h
theorem YieldsB.qOp {obj : Obj} {b i : Nat} {o : Oper} {v : Value} {a : Act} (hi : ops[i]? = some o) (hy : YieldsB P ops W obj b o v a) {w : World} (hw : LatC W w) (hb : w.heap[b]? = some obj) {K : Act → Prop} (h : K (a.put o.dst v)) : qOp P ops (LatC w) i K a :=
  YieldsIn.qOp hi (hy.imp (fun ⟨h1, h2⟩ => ⟨h1, fun u hu => quietUpon_mono (fun _ h3 => hu.trans h3) (h2 u (hw.trans hu) (heap_keeps hb hu))⟩) id) h
theorem bOp_put {obj : Obj} {b j : Nat} {oi oj : Oper} {v : Value} (hj : ops[j]? = some oj) (hap : oi.apart ops oj = true) (hsi : ∀ cs b, oi.op ≠ .select cs b) (hsj : ∀ cs b, oj.op ≠ .select cs b) {K : Act → Prop} {a : Act} {Y : Act → Prop}
    (hY : ∀ a', execOp a'.eval oi = execOp a.eval oi → Region.wanted oi (yielded ops a'.tmps) = Region.wanted oi (yielded ops a.tmps) → Y a → Y a') (hy : Y a) (h : bOp P ops W obj b j K (a.put oi.dst v)) :
    bOp P ops W obj b j (fun a' => Y a' ∧ K (a'.put oi.dst v)) a := by
  obtain ⟨h1, h2, h3⟩ := Oper.apart_spec hap
  obtain ⟨o, u, ho, hu, hk⟩ := h
  have : o = oj := Option.some.inj (ho.symm.trans hj)
  subst this
  exact ⟨o, u, hj, hu.of_same (execOp_put o hsj a oi.dst v h1).symm (wanted_put o a oi.dst v h1).symm, hY _ (execOp_put oi hsi a o.dst u h3) (wanted_put oi a o.dst u h3) hy, by rw [← Act.put_comm a v u h2]; exact hk⟩
def wpHeadS (P : Program) (md : Region.Mode) (ops : Array Oper) (W : World) (pv : Nat → Value) (obj : Obj) (hd : List Nat) (n d : Nat) (mid : List Nat) (L : Array Bool → Act → Nat → Prop) : Nat → Array Bool → Act → Nat → Prop
  | 0, listed, a, β => L listed a β
  | f + 1, listed, a, β => Region.ready md ops listed ≠ [] ∧ ∀ i ∈ Region.ready md ops listed,
    (i ∈ hd ∧ gOp P ops W i (fun a' => wpHeadS P md ops W pv obj hd n d mid L f (listed.setIfInBounds i true) a' β) a) ∨ (i = n ∧ ∀ b, wpHeadS P md ops W pv obj hd n d mid L f (listed.setIfInBounds i true) (a.put (some d) (pv b)) b) ∨
    (i ∈ mid ∧ listed.getD n false = true ∧ bOp P ops W obj β i (fun a' => wpHeadS P md ops W pv obj hd n d mid L f (listed.setIfInBounds i true) a' β) a)
theorem wpAny_of_wpHeadS {g : Nat} {L : Array Bool → Act → Nat → Prop} {Q : Exit → Act → World → Prop} (hnd : n ∉ hd) (hnm : n ∉ mid)
    (hAl : ∀ (a : Act) (w : World) (K : Act → World → Prop), K (a.put (some d) (pv w.heap.size)) (w.alloc obj) → wpOp P ops Q n K a w)
    (hL : ∀ listed a w β, LatC W w → w.heap[β]? = some obj → W.heap.size ≤ β → L listed a β → wpAny P md ops Q g listed a w) (hLn : ∀ listed a β, L listed a β → listed.getD n false = true) :
    ∀ (f : Nat) (listed : Array Bool) (a : Act) (β : Nat) (w : World), LatC W w → (listed.getD n false = true → w.heap[β]? = some obj ∧ W.heap.size ≤ β) → wpHeadS P md ops W pv obj hd n d mid L f listed a β → wpAny P md ops Q (f + g) listed a w
  | 0, listed, a, β, w, hw, hb, h => by
    rw [Nat.zero_add]
    obtain ⟨h1, h2⟩ := hb (hLn _ _ _ h)
    exact hL _ _ _ β hw h1 h2 h
  | f + 1, listed, a, β, w, hw, hb, h => by
    rw [show f + 1 + g = (f + g) + 1 by omega]
    refine ⟨fun h0 => absurd h0 h.1, fun i hi => ?_⟩
    rcases h.2 i hi with ⟨hin, o, v, ho, hy, hk⟩ | ⟨hin, hk⟩ | ⟨hin, hln, o, v, ho, hy, hk⟩
    · refine wpOp_of_qOp (C := LatC w) (K := fun a' => wpHeadS P md ops W pv obj hd n d mid L f (listed.setIfInBounds i true) a' β) (LatC.refl w) (fun a' w' hw' hk' => ?_) (hy.qOp ho hw hk)
      refine wpAny_of_wpHeadS hnd hnm hAl hL hLn f _ a' β w' (hw.trans hw') (fun hn => ?_) hk'
      rw [getD_set_ne false (show i ≠ n from fun e => hnd (e ▸ hin))] at hn
      obtain ⟨h1, h2⟩ := hb hn
      exact ⟨heap_keeps h1 hw', h2⟩
    · rw [hin]
      refine hAl a w _ ?_
      rw [hin] at hk
      refine wpAny_of_wpHeadS hnd hnm hAl hL hLn f _ _ w.heap.size (w.alloc obj) (hw.trans (.of ((Below.refl _ _).alloc (Nat.le_refl _) _))) (fun _ => ⟨heap_alloc_new w obj, hw.below.size⟩) (hk _)
    · obtain ⟨h1, h2⟩ := hb hln
      refine wpOp_of_qOp (C := LatC w) (K := fun a' => wpHeadS P md ops W pv obj hd n d mid L f (listed.setIfInBounds i true) a' β) (LatC.refl w) (fun a' w' hw' hk' => ?_) (hy.qOp ho hw h1 hk)
      exact wpAny_of_wpHeadS hnd hnm hAl hL hLn f _ a' β w' (hw.trans hw') (fun _ => ⟨heap_keeps h1 hw', h2⟩) hk'
theorem getD_set_any {l : Array Bool} {j k : Nat} {x : Bool} (h : l.getD k x = true) : (l.setIfInBounds j true).getD k x = true := by
  by_cases hjk : j = k
  · subst hjk
    rcases Nat.lt_or_ge j l.size with h' | h'
    · exact getD_set_self h' x
    · have : l.setIfInBounds j true = l := by simp [Array.setIfInBounds, Nat.not_lt.2 h']
      rw [this]; exact h
  · rw [getD_set_ne x hjk]; exact h
structure HeadInvS (md : Region.Mode) (ops : Array Oper) (tl : List Nat) (listed : Array Bool) : Prop where
  size : listed.size = ops.size
  closed : ∀ j oj, ops[j]? = some oj → listed.getD j false = true → ∀ e ∈ oj.after, Region.binds md e = true → listed.getD e.on false = true
  tail : ∀ t ∈ tl, listed.getD t true = false
theorem HeadInvS.set {i : Nat} {listed : Array Bool} (inv : HeadInvS md ops tl listed) (hi : i ∈ Region.ready md ops listed) (hit : i ∉ tl) : HeadInvS md ops tl (listed.setIfInBounds i true) := by
  obtain ⟨_, oi, hoi, hall⟩ := mem_ready.1 hi
  refine ⟨by simp [inv.size], fun j oj hj hl e he hb => ?_, fun t ht => by rw [getD_set_ne true (show i ≠ t from fun e => hit (e ▸ ht))]; exact inv.tail t ht⟩
  by_cases hij : i = j
  · subst hij
    have : oj = oi := Option.some.inj (hj.symm.trans hoi)
    subst this
    exact getD_set_true (hall e he hb)
  · rw [getD_set_ne false hij] at hl
    exact getD_set_true (inv.closed j oj hj hl e he hb)
/-- Each is waited for by one behind it. -/
def Region.sinkS (md : Region.Mode) (ops : Array Oper) (t0 : Nat) : List Nat → Bool
  | [] => true
  | i :: r => ((r ++ [t0]).any fun j => Region.waitsFor md ops j i) && Region.sinkS md ops t0 r
def Region.waitB (md : Region.Mode) (ops : Array Oper) (hn tl : List Nat) : Bool :=
  match tl with
  | [] => false
  | t0 :: ts => Region.sinkS md ops t0 hn && ts.all fun t => (t0 :: ts).any fun j => Region.waitsFor md ops t j
theorem sink_waits {t0 : Nat} {listed : Array Bool} (inv : HeadInvS md ops tl listed) : ∀ (r : List Nat), Region.sinkS md ops t0 r = true → (∃ i ∈ r, listed.getD i true = false) → t0 ∉ Region.ready md ops listed
  | [], _, h => by obtain ⟨i, hi, _⟩ := h; cases hi
  | i :: r, hs, h => by
    rw [Region.sinkS, Bool.and_eq_true] at hs
    obtain ⟨hs1, hs2⟩ := hs
    by_cases hr : ∃ k ∈ r, listed.getD k true = false
    · exact sink_waits inv r hs2 hr
    obtain ⟨k, hk, hun⟩ := h
    have hki : k = i := by
      rcases List.mem_cons.1 hk with h1 | h1
      · exact h1
      · exact absurd ⟨k, h1, hun⟩ hr
    subst hki
    obtain ⟨j, hj, hw⟩ := List.any_eq_true.1 hs1
    obtain ⟨oj, hoj, e, he, hb, hon⟩ := Region.waitsFor_spec hw
    intro ht
    rcases List.mem_append.1 hj with hj | hj
    · cases hl : listed.getD j false with
      | true =>
        have h2 := inv.closed j oj hoj hl e he hb
        rw [hon, getD_both hun] at h2
        cases h2
      | false =>
        have hjs : j < listed.size := by rw [inv.size]; exact (Array.getElem?_eq_some_iff.1 hoj).1
        exact hr ⟨j, hj, getD_in hjs hl⟩
    · have : j = t0 := by simpa using hj
      subst this
      obtain ⟨_, ot, hot, hall⟩ := mem_ready.1 ht
      have : oj = ot := Option.some.inj (hoj.symm.trans hot)
      subst this
      have h2 := hall e he hb
      rw [hon, getD_both hun] at h2
      cases h2
theorem tail_waitsS {hn : List Nat} {listed : Array Bool} (hw : Region.waitB md ops hn tl = true) (inv : HeadInvS md ops tl listed) {i : Nat} (hi : i ∈ hn) (hun : listed.getD i true = false) : ∀ t ∈ tl, t ∉ Region.ready md ops listed := by
  cases tl with
  | nil => intro t ht; cases ht
  | cons t0 ts =>
    simp only [Region.waitB, Bool.and_eq_true] at hw
    intro t ht hr
    rcases List.mem_cons.1 ht with rfl | ht
    · exact sink_waits inv hn hw.1 ⟨i, hi, hun⟩ hr
    · obtain ⟨j, hj, hwt⟩ := List.any_eq_true.1 (List.all_eq_true.1 hw.2 t ht)
      obtain ⟨ot, hot, e, he, hb, hon⟩ := Region.waitsFor_spec hwt
      obtain ⟨_, o', ho', hall⟩ := mem_ready.1 hr
      have : ot = o' := Option.some.inj (hot.symm.trans ho')
      subst this
      have h2 := hall e he hb
      rw [hon, getD_both (inv.tail j hj)] at h2
      cases h2
/-- All are named, none twice. -/
def Region.coverB (ops : Array Oper) (hd : List Nat) (n : Nat) (mid tl : List Nat) : Bool :=
  (hd.all fun i => !(i == n) && !mid.contains i && !tl.contains i) && (mid.all fun i => !(i == n) && !tl.contains i) && !tl.contains n && decide (hd.length + 1 + mid.length + tl.length = ops.size)
structure Covers (ops : Array Oper) (hd : List Nat) (n : Nat) (mid tl : List Nat) : Prop where
  hdn : n ∉ hd
  hdt : ∀ i ∈ hd, i ∉ tl
  mdn : n ∉ mid
  mdt : ∀ i ∈ mid, i ∉ tl
  ntl : n ∉ tl
  len : hd.length + 1 + mid.length + tl.length = ops.size
theorem coverB_spec (h : Region.coverB ops hd n mid tl = true) : Covers ops hd n mid tl := by
  simp only [Region.coverB, Bool.and_eq_true, decide_eq_true_eq, List.all_eq_true, Bool.not_eq_true', beq_eq_false_iff_ne] at h
  obtain ⟨⟨⟨h1, h2⟩, h3⟩, h4⟩ := h
  have no : ∀ {i : Nat} {l : List Nat}, l.contains i = false → i ∉ l := fun h hm => by rw [List.contains_iff_mem.2 hm] at h; cases h
  exact ⟨fun hm => (h1 n hm).1.1 rfl, fun i hi => no (h1 i hi).2, fun hm => (h2 n hm).1 rfl, fun i hi => no (h2 i hi).2, no h3, h4⟩
theorem wpHeadS_first {i : Nat} {oi oa : Oper} {v : Value} {L : Array Bool → Act → Nat → Prop} (hi : ops[i]? = some oi) (hoa : ops[n]? = some oa) (hda : oa.dst = some d) (hsel : ∀ (j : Nat) (o : Oper) cs b, ops[j]? = some o → o.op ≠ .select cs b)
    (hw : Region.waitB md ops (hd ++ n :: mid) tl = true) (hc : Covers ops hd n mid tl) (hin : i ∈ hd) (hdone : ∀ listed a β, L listed a β → ∀ j ∈ Region.ready md ops listed, j ∈ tl) :
    ∀ (f : Nat) (listed : Array Bool) (a : Act) (β : Nat), HeadInvS md ops tl listed →
      (∀ j oj, ops[j]? = some oj → j ≠ i → listed.getD j true = false → (∀ e ∈ oj.after, Region.binds md e = true → e.on ≠ i) → oi.apart ops oj = true) →
      i ∈ Region.ready md ops listed → YieldsG P ops W oi v a → wpHeadS P md ops W pv obj hd n d mid L f (listed.setIfInBounds i true) (a.put oi.dst v) β → wpHeadS P md ops W pv obj hd n d mid L (f + 1) listed a β := by
  intro f
  induction f with
  | zero =>
    intro listed a β inv _ hr hy H
    have hun := (mem_ready.1 hr).1
    refine ⟨fun h => (by rw [h] at hr; cases hr), fun j hj => ?_⟩
    by_cases hji : j = i
    · subst hji
      exact .inl ⟨hin, oi, v, hi, hy, H⟩
    · have h1 := hdone _ _ _ H j (ready_mono hj hji)
      exact absurd hj (tail_waitsS hw inv (List.mem_append_left _ hin) hun j h1)
  | succ f ih =>
    intro listed a β inv hfree hr hy H
    have hun := (mem_ready.1 hr).1
    refine ⟨fun h => (by rw [h] at hr; cases hr), fun j hj => ?_⟩
    have hjt : j ∉ tl := fun h => tail_waitsS hw inv (List.mem_append_left _ hin) hun j h hj
    by_cases hji : j = i
    · subst hji
      exact .inl ⟨hin, oi, v, hi, hy, H⟩
    · obtain ⟨hjun, oj, hoj, hall⟩ := mem_ready.1 hj
      have hnot : ∀ e ∈ oj.after, Region.binds md e = true → e.on ≠ i := fun e he hb heq => by
        have h1 := hall e he hb
        rw [heq, getD_both hun] at h1
        cases h1
      have hap := hfree j oj hoj hji hjun hnot
      have hfree' : ∀ k ok, ops[k]? = some ok → k ≠ i → (listed.setIfInBounds j true).getD k true = false → (∀ e ∈ ok.after, Region.binds md e = true → e.on ≠ i) → oi.apart ops ok = true := fun k ok hk hki hun hno => by
        refine hfree k ok hk hki ?_ hno
        by_cases hjk : j = k
        · subst hjk; exact hjun
        · rw [getD_set_ne true hjk] at hun; exact hun
      rcases H.2 j (ready_mono hj hji) with ⟨hjlt, h1⟩ | ⟨rfl, h1⟩ | ⟨hjm, hjn, h1⟩
      · obtain ⟨o, u, ho, hu, h3, h4⟩ := gOp_put hoj hap (fun cs b => hsel i oi cs b hi) (fun cs b => hsel j oj cs b hoj) hy h1
        refine .inl ⟨hjlt, o, u, ho, hu, ih (listed.setIfInBounds j true) _ β (inv.set hj hjt) hfree' (ready_mono hr (Ne.symm hji)) h3 ?_⟩
        rw [Array.setIfInBounds_comm _ _ hji]
        exact h4
      · have hoe : oj = oa := Option.some.inj (hoj.symm.trans hoa)
        subst hoe
        obtain ⟨p1, p2, p3⟩ := Oper.apart_spec hap
        rw [hda] at p3
        refine .inr (.inl ⟨rfl, fun b => ih (listed.setIfInBounds j true) _ b (inv.set hj hjt) hfree' (ready_mono hr (Ne.symm hji)) (hy.of_same (execOp_put oi (fun cs b => hsel i oi cs b hi) a (some d) (pv b) p3) (wanted_put oi a (some d) (pv b) p3)) ?_⟩)
        rw [Array.setIfInBounds_comm _ _ hji, ← Act.put_comm a v (pv b) (fun d' hd' => by rw [← hda]; exact p2 d' hd')]
        exact h1 b
      · have hni : i ≠ n := fun e => hc.hdn (e ▸ hin)
        rw [getD_set_ne false hni] at hjn
        obtain ⟨o, u, ho, hu, h3, h4⟩ := bOp_put (Y := fun a => YieldsG P ops W oi v a) hoj hap (fun cs b => hsel i oi cs b hi) (fun cs b => hsel j oj cs b hoj) (fun _ he hw hy => hy.of_same he hw) hy h1
        refine .inr (.inr ⟨hjm, hjn, o, u, ho, hu, ih (listed.setIfInBounds j true) _ β (inv.set hj hjt) hfree' (ready_mono hr (Ne.symm hji)) h3 ?_⟩)
        rw [Array.setIfInBounds_comm _ _ hji]
        exact h4
theorem wpHeadS_mid {i : Nat} {oi : Oper} {v : Value} {L : Array Bool → Act → Nat → Prop} (hi : ops[i]? = some oi) (hsel : ∀ (j : Nat) (o : Oper) cs b, ops[j]? = some o → o.op ≠ .select cs b)
    (hw : Region.waitB md ops (hd ++ n :: mid) tl = true) (hc : Covers ops hd n mid tl) (hin : i ∈ mid) (hdone : ∀ listed a β, L listed a β → ∀ j ∈ Region.ready md ops listed, j ∈ tl) :
    ∀ (f : Nat) (listed : Array Bool) (a : Act) (β : Nat), HeadInvS md ops tl listed → (∀ j ∈ hd, listed.getD j true = true) → listed.getD n true = true → listed.getD n false = true →
      (∀ j oj, ops[j]? = some oj → j ≠ i → listed.getD j true = false → (∀ e ∈ oj.after, Region.binds md e = true → e.on ≠ i) → oi.apart ops oj = true) →
      i ∈ Region.ready md ops listed → YieldsB P ops W obj β oi v a → wpHeadS P md ops W pv obj hd n d mid L f (listed.setIfInBounds i true) (a.put oi.dst v) β → wpHeadS P md ops W pv obj hd n d mid L (f + 1) listed a β := by
  intro f
  induction f with
  | zero =>
    intro listed a β inv _ _ hnl _ hr hy H
    have hun := (mem_ready.1 hr).1
    refine ⟨fun h => (by rw [h] at hr; cases hr), fun j hj => ?_⟩
    by_cases hji : j = i
    · subst hji
      exact .inr (.inr ⟨hin, hnl, oi, v, hi, hy, H⟩)
    · have h1 := hdone _ _ _ H j (ready_mono hj hji)
      exact absurd hj (tail_waitsS hw inv (List.mem_append_right _ (List.mem_cons_of_mem _ hin)) hun j h1)
  | succ f ih =>
    intro listed a β inv hhd hnt hnl hfree hr hy H
    have hun := (mem_ready.1 hr).1
    refine ⟨fun h => (by rw [h] at hr; cases hr), fun j hj => ?_⟩
    have hjt : j ∉ tl := fun h => tail_waitsS hw inv (List.mem_append_right _ (List.mem_cons_of_mem _ hin)) hun j h hj
    by_cases hji : j = i
    · subst hji
      exact .inr (.inr ⟨hin, hnl, oi, v, hi, hy, H⟩)
    · obtain ⟨hjun, oj, hoj, hall⟩ := mem_ready.1 hj
      have hnot : ∀ e ∈ oj.after, Region.binds md e = true → e.on ≠ i := fun e he hb heq => by
        have h1 := hall e he hb
        rw [heq, getD_both hun] at h1
        cases h1
      have hap := hfree j oj hoj hji hjun hnot
      have hfree' : ∀ k ok, ops[k]? = some ok → k ≠ i → (listed.setIfInBounds j true).getD k true = false → (∀ e ∈ ok.after, Region.binds md e = true → e.on ≠ i) → oi.apart ops ok = true := fun k ok hk hki hun hno => by
        refine hfree k ok hk hki ?_ hno
        by_cases hjk : j = k
        · subst hjk; exact hjun
        · rw [getD_set_ne true hjk] at hun; exact hun
      have keep : ∀ (k : Nat) (x : Bool), listed.getD k x = true → (listed.setIfInBounds j true).getD k x = true := fun k x h => getD_set_any h
      rcases H.2 j (ready_mono hj hji) with ⟨hjlt, h1⟩ | ⟨rfl, h1⟩ | ⟨hjm, hjn, h1⟩
      · rw [hhd j hjlt] at hjun
        cases hjun
      · rw [hnt] at hjun
        cases hjun
      · obtain ⟨o, u, ho, hu, h3, h4⟩ := bOp_put (Y := fun a => YieldsB P ops W obj β oi v a) hoj hap (fun cs b => hsel i oi cs b hi) (fun cs b => hsel j oj cs b hoj) (fun _ he hw hy => hy.of_same he hw) hy h1
        refine .inr (.inr ⟨hjm, hnl, o, u, ho, hu, ih (listed.setIfInBounds j true) _ β (inv.set hj hjt) (fun k hk => keep k true (hhd k hk)) (keep n true hnt) (keep n false hnl) hfree' (ready_mono hr (Ne.symm hji)) h3 ?_⟩)
        rw [Array.setIfInBounds_comm _ _ hji]
        exact h4
def wpGrowS (P : Program) (ops : Array Oper) (W : World) (Lq : Act → Prop) : List Oper → Act → Prop
  | [], a => Lq a
  | o :: r, a => ∃ v, YieldsG P ops W o v a ∧ wpGrowS P ops W Lq r (a.put o.dst v)
def wpGrowB (P : Program) (ops : Array Oper) (W : World) (obj : Obj) (b : Nat) (Lq : Act → Prop) : List Oper → Act → Prop
  | [], a => Lq a
  | o :: r, a => ∃ v, YieldsB P ops W obj b o v a ∧ wpGrowB P ops W obj b Lq r (a.put o.dst v)
/-- The tail: one that may come up, each time. -/
def Region.seqL (md : Region.Mode) (ops : Array Oper) : List Nat → Array Bool → Bool
  | [], listed => (Region.ready md ops listed).isEmpty
  | k :: r, listed => decide (Region.ready md ops listed = [k]) && Region.seqL md ops r (listed.setIfInBounds k true)
def Region.lexM (md : Region.Mode) (ops : Array Oper) (tl : List Nat) : List Nat → Array Bool → Bool
  | [], listed => Region.seqL md ops tl listed
  | k :: r, listed => (Region.ready md ops listed).contains k && Region.free md ops listed k && Region.lexM md ops tl r (listed.setIfInBounds k true)
def Region.lexS (md : Region.Mode) (ops : Array Oper) (n : Nat) (mid tl : List Nat) : List Nat → Array Bool → Bool
  | [], listed => decide (Region.ready md ops listed = [n]) && Region.lexM md ops tl mid (listed.setIfInBounds n true)
  | k :: r, listed => (Region.ready md ops listed).contains k && Region.free md ops listed k && Region.lexS md ops n mid tl r (listed.setIfInBounds k true)
theorem seqL_ready {listed : Array Bool} (h : Region.seqL md ops tl listed = true) : ∀ j ∈ Region.ready md ops listed, j ∈ tl := by
  cases tl with
  | nil => intro j hj; simp only [Region.seqL, List.isEmpty_iff] at h; rw [h] at hj; cases hj
  | cons k r =>
    intro j hj
    simp only [Region.seqL, Bool.and_eq_true, decide_eq_true_eq] at h
    rw [h.1] at hj
    have : j = k := by simpa using hj
    subst this
    exact List.mem_cons_self
theorem wpAny_of_seqL {Q' : Exit → Act → World → Prop} : ∀ (r : List Nat) (l : List Oper) (listed : Array Bool) (a : Act) (w : World), r.map (fun i => ops[i]?) = l.map some → Region.seqL md ops r listed = true → wpList P ops Q' l a w → wpAny P md ops Q' r.length listed a w
  | [], [], _, _, _, _, hB, h => ⟨by simpa [Region.seqL] using hB, h⟩
  | [], _ :: _, _, _, _, he, _, _ => by simp at he
  | _ :: _, [], _, _, _, he, _, _ => by simp at he
  | k :: r, o :: l, listed, a, w, he, hB, h => by
    simp only [List.map_cons, List.cons.injEq] at he
    obtain ⟨h0, he⟩ := he
    simp only [Region.seqL, Bool.and_eq_true, decide_eq_true_eq] at hB
    refine ⟨fun h1 => (by rw [hB.1] at h1; cases h1), fun i hi => ?_⟩
    rw [hB.1] at hi
    have hik : i = k := by simpa using hi
    subst hik
    have hw : wpOp P ops Q' i (wpList P ops Q' l) a w := by unfold wpOp; simp only [h0]; exact h
    exact wpOp_mono (fun a' w' h' => wpAny_of_seqL r l _ a' w' he hB.2 h') hw
theorem wpHeadS_lexM {Lq : Act → Nat → Prop} (hsel : Region.noSelect ops = true) (hw : Region.waitB md ops (hd ++ n :: mid) tl = true) (hc : Covers ops hd n mid tl) :
    ∀ (r : List Nat) (l : List Oper) (listed : Array Bool) (a : Act) (β : Nat), r.map (fun i => ops[i]?) = l.map some → (∀ j ∈ r, j ∈ mid) → HeadInvS md ops tl listed → (∀ j ∈ hd, listed.getD j true = true) → listed.getD n true = true → listed.getD n false = true → Region.lexM md ops tl r listed = true → wpGrowB P ops W obj β (fun a' => Lq a' β) l a →
    wpHeadS P md ops W pv obj hd n d mid (fun listed' a' b => listed'.getD n false = true ∧ Region.seqL md ops tl listed' = true ∧ Lq a' b) r.length listed a β
  | [], [], _, _, _, _, _, _, _, _, hnl, hB, h => ⟨hnl, hB, h⟩
  | [], _ :: _, _, _, _, he, _, _, _, _, _, _, _ => by simp at he
  | _ :: _, [], _, _, _, he, _, _, _, _, _, _, _ => by simp at he
  | k :: r, o :: l, listed, a, β, he, hr0, inv, hhd, hnt, hnl, hB, h => by
    simp only [List.map_cons, List.cons.injEq] at he
    obtain ⟨h0, he⟩ := he
    simp only [Region.lexM, Bool.and_eq_true] at hB
    obtain ⟨⟨hr, hf⟩, hB'⟩ := hB
    have hkd := hr0 k List.mem_cons_self
    have hr' : k ∈ Region.ready md ops listed := by simpa using hr
    obtain ⟨v, hy, hK⟩ := h
    have keep : ∀ (i : Nat) (x : Bool), listed.getD i x = true → (listed.setIfInBounds k true).getD i x = true := fun i x h => getD_set_any h
    exact wpHeadS_mid h0 (Region.noSelect_spec hsel) hw hc hkd (fun listed' a' b hL => seqL_ready hL.2.1) r.length listed a β inv hhd hnt hnl (Region.free_spec h0 hf) hr' hy
      (wpHeadS_lexM hsel hw hc r l _ _ β he (fun j hj => hr0 j (List.mem_cons_of_mem _ hj)) (inv.set hr' (hc.mdt k hkd)) (fun j hj => keep j true (hhd j hj)) (keep n true hnt) (keep n false hnl) hB' hK)
theorem wpHeadS_lex {oa : Oper} {Lq : Act → Nat → Prop} {lm : List Oper} (hoa : ops[n]? = some oa) (hda : oa.dst = some d) (hsel : Region.noSelect ops = true) (hw : Region.waitB md ops (hd ++ n :: mid) tl = true) (hc : Covers ops hd n mid tl) (hlm : mid.map (fun i => ops[i]?) = lm.map some) :
    ∀ (r : List Nat) (l : List Oper) (listed : Array Bool) (a : Act) (β : Nat), r.map (fun i => ops[i]?) = l.map some → (∀ j ∈ r, j ∈ hd) → (∀ j ∈ hd, j ∈ r ∨ listed.getD j true = true) → HeadInvS md ops tl listed → Region.lexS md ops n mid tl r listed = true → wpGrowS P ops W (fun a' => ∀ b, wpGrowB P ops W obj b (fun a'' => Lq a'' b) lm (a'.put (some d) (pv b))) l a →
    wpHeadS P md ops W pv obj hd n d mid (fun listed' a' b => listed'.getD n false = true ∧ Region.seqL md ops tl listed' = true ∧ Lq a' b) (r.length + (mid.length + 1)) listed a β
  | [], [], listed, a, β, _, _, hall, inv, hB, h => by
    simp only [Region.lexS, Bool.and_eq_true, decide_eq_true_eq] at hB
    have hn : n < listed.size := by rw [inv.size]; exact (Array.getElem?_eq_some_iff.1 hoa).1
    rw [List.length_nil, Nat.zero_add]
    refine ⟨fun h1 => (by rw [hB.1] at h1; cases h1), fun i hi => ?_⟩
    have hi0 := hi
    rw [hB.1] at hi
    have hik : i = n := by simpa using hi
    subst hik
    refine .inr (.inl ⟨rfl, fun b => ?_⟩)
    refine wpHeadS_lexM hsel hw hc mid lm _ _ b hlm (fun j hj => hj) (inv.set hi0 hc.ntl) (fun j hj => ?_) (getD_set_self hn true) (getD_set_self hn false) hB.2 (h b)
    rw [getD_set_ne true (show i ≠ j from fun e => hc.hdn (e ▸ hj))]
    exact (hall j hj).resolve_left (fun h => by cases h)
  | [], _ :: _, _, _, _, he, _, _, _, _, _ => by simp at he
  | _ :: _, [], _, _, _, he, _, _, _, _, _ => by simp at he
  | k :: r, o :: l, listed, a, β, he, hr0, hall, inv, hB, h => by
    simp only [List.map_cons, List.cons.injEq] at he
    obtain ⟨h0, he⟩ := he
    simp only [Region.lexS, Bool.and_eq_true] at hB
    obtain ⟨⟨hr, hf⟩, hB'⟩ := hB
    have hkd := hr0 k List.mem_cons_self
    have hr' : k ∈ Region.ready md ops listed := by simpa using hr
    obtain ⟨v, hy, hK⟩ := h
    have hks : k < listed.size := by rw [inv.size]; exact (Array.getElem?_eq_some_iff.1 h0).1
    rw [List.length_cons, show r.length + 1 + (mid.length + 1) = (r.length + (mid.length + 1)) + 1 by omega]
    refine wpHeadS_first h0 hoa hda (Region.noSelect_spec hsel) hw hc hkd (fun listed' a' b hL => seqL_ready hL.2.1) (r.length + (mid.length + 1)) listed a β inv (Region.free_spec h0 hf) hr' hy
      (wpHeadS_lex hoa hda hsel hw hc hlm r l _ _ β he (fun j hj => hr0 j (List.mem_cons_of_mem _ hj)) (fun j hj => ?_) (inv.set hr' (hc.hdt k hkd)) hB' hK)
    by_cases hjk : k = j
    · subst hjk
      exact .inr (getD_set_self hks true)
    · rw [getD_set_ne true hjk]
      rcases hall j hj with h1 | h1
      · rcases List.mem_cons.1 h1 with h2 | h2
        · exact absurd h2.symm hjk
        · exact .inl h2
      · exact .inr h1
theorem growS_of_quiet {aE : Act} {Lq : Act → Prop} (hq : Lq aE) : ∀ (l : List Oper) (a : Act), dstsB l a.tmps.size = true → (∀ V, LatC W V → wpQuiet P ops (LatC V) (fun a' => a' = aE) l a) → wpGrowS P ops W Lq l a
  | [], a, _, h => by
    have h : a = aE := h W (LatC.refl W)
    rw [h]
    exact hq
  | o :: r, a, hd, h => by
    rw [dstsB, Bool.and_eq_true] at hd
    obtain ⟨h1, h2⟩ := hd
    cases hdo : o.dst with
    | none => rw [hdo] at h1; cases h1
    | some e =>
      rw [hdo] at h1
      simp only [Bool.and_eq_true, decide_eq_true_eq] at h1
      obtain ⟨he, hr⟩ := h1
      have key : ∀ C (u : Value), wpQuiet P ops C (fun a' => a' = aE) r (a.put o.dst u) → aE.tmps[e]? = some u := by
        intro C u hu
        rw [quiet_keeps r _ hr hu, hdo]
        simp [Act.put, he]
      have hall : ∀ V, LatC W V → ∃ u, (if Region.wanted o (yielded ops a.tmps) = true then ∀ w, LatC V w → o.quietAt P a (LatC V) w u else u = undef) ∧ wpQuiet P ops (LatC V) (fun a' => a' = aE) r (a.put o.dst u) := by
        intro V hV
        have := h V hV
        rw [wpQuiet] at this
        by_cases hw : Region.wanted o (yielded ops a.tmps) = true
        · rw [if_pos hw] at this
          obtain ⟨u, h3, h4⟩ := this
          exact ⟨u, by rw [if_pos hw]; exact h3, h4⟩
        · rw [if_neg hw] at this
          exact ⟨undef, by rw [if_neg hw], this⟩
      obtain ⟨v, hv1, hv2⟩ := hall W (LatC.refl W)
      have hkv := key _ v hv2
      have hsame : ∀ V, LatC W V → (if Region.wanted o (yielded ops a.tmps) = true then ∀ w, LatC V w → o.quietAt P a (LatC V) w v else v = undef) ∧ wpQuiet P ops (LatC V) (fun a' => a' = aE) r (a.put o.dst v) := by
        intro V hV
        obtain ⟨u, h3, h4⟩ := hall V hV
        have hku := key _ u h4
        have : u = v := Option.some.inj (hku.symm.trans hkv)
        subst this
        exact ⟨h3, h4⟩
      refine ⟨v, ?_, growS_of_quiet hq r _ (by rw [put_size]; exact h2) fun V hV => (hsame V hV).2⟩
      by_cases hw : Region.wanted o (yielded ops a.tmps) = true
      · refine .inl ⟨hw, fun w hw' => ?_⟩
        have := (hsame w hw').1
        rw [if_pos hw] at this
        exact this w (LatC.refl w)
      · rw [if_neg hw] at hv1
        exact .inr ⟨by simpa using hw, hv1⟩
/-- The same where the new block lies. -/
theorem growB_of_quiet {b : Nat} {aE : Act} {Lq : Act → Prop} (hno : (¬ ∃ V, LatC W V ∧ V.heap[b]? = some obj) → ∀ a, Lq a) (hq : Lq aE) : ∀ (l : List Oper) (a : Act), dstsB l a.tmps.size = true → (∀ V, LatC W V → V.heap[b]? = some obj → wpQuiet P ops (LatC V) (fun a' => a' = aE) l a) → wpGrowB P ops W obj b Lq l a := by
  by_cases hex : ∃ V, LatC W V ∧ V.heap[b]? = some obj
  · obtain ⟨V0, hV0, hV0b⟩ := hex
    intro l
    induction l with
    | nil =>
      intro a _ h
      have h : a = aE := h V0 hV0 hV0b
      rw [h]
      exact hq
    | cons o r ih =>
      intro a hd h
      rw [dstsB, Bool.and_eq_true] at hd
      obtain ⟨h1, h2⟩ := hd
      cases hdo : o.dst with
      | none => rw [hdo] at h1; cases h1
      | some e =>
        rw [hdo] at h1
        simp only [Bool.and_eq_true, decide_eq_true_eq] at h1
        obtain ⟨he, hr⟩ := h1
        have key : ∀ C (u : Value), wpQuiet P ops C (fun a' => a' = aE) r (a.put o.dst u) → aE.tmps[e]? = some u := by
          intro C u hu
          rw [quiet_keeps r _ hr hu, hdo]
          simp [Act.put, he]
        have hall : ∀ V, LatC W V → V.heap[b]? = some obj → ∃ u, (if Region.wanted o (yielded ops a.tmps) = true then ∀ w, LatC V w → o.quietAt P a (LatC V) w u else u = undef) ∧ wpQuiet P ops (LatC V) (fun a' => a' = aE) r (a.put o.dst u) := by
          intro V hV hVb
          have := h V hV hVb
          rw [wpQuiet] at this
          by_cases hw : Region.wanted o (yielded ops a.tmps) = true
          · rw [if_pos hw] at this
            obtain ⟨u, h3, h4⟩ := this
            exact ⟨u, by rw [if_pos hw]; exact h3, h4⟩
          · rw [if_neg hw] at this
            exact ⟨undef, by rw [if_neg hw], this⟩
        obtain ⟨v, hv1, hv2⟩ := hall V0 hV0 hV0b
        have hkv := key _ v hv2
        have hsame : ∀ V, LatC W V → V.heap[b]? = some obj → (if Region.wanted o (yielded ops a.tmps) = true then ∀ w, LatC V w → o.quietAt P a (LatC V) w v else v = undef) ∧ wpQuiet P ops (LatC V) (fun a' => a' = aE) r (a.put o.dst v) := by
          intro V hV hVb
          obtain ⟨u, h3, h4⟩ := hall V hV hVb
          have hku := key _ u h4
          have : u = v := Option.some.inj (hku.symm.trans hkv)
          subst this
          exact ⟨h3, h4⟩
        refine ⟨v, ?_, ih _ (by rw [put_size]; exact h2) fun V hV hVb => (hsame V hV hVb).2⟩
        by_cases hw : Region.wanted o (yielded ops a.tmps) = true
        · refine .inl ⟨hw, fun w hw' hwb => ?_⟩
          have := (hsame w hw' hwb).1
          rw [if_pos hw] at this
          exact this w (LatC.refl w)
        · rw [if_neg hw] at hv1
          exact .inr ⟨by simpa using hw, hv1⟩
  · intro l
    induction l with
    | nil => intro a _ _; exact hno hex a
    | cons o r ih =>
      intro a hd _
      rw [dstsB, Bool.and_eq_true] at hd
      refine ⟨undef, ?_, ih _ (by rw [put_size]; exact hd.2) fun V hV hVb => absurd ⟨V, hV, hVb⟩ hex⟩
      cases hw : Region.wanted o (yielded ops a.tmps) with
      | true => exact .inl ⟨hw, fun w hw' hwb => absurd ⟨w, hw', hwb⟩ hex⟩
      | false => exact .inr ⟨hw, rfl⟩
def pickL (l : List Oper) : List Nat → List Oper
  | [] => []
  | i :: r => match l[i]? with
    | some o => o :: pickL l r
    | none => pickL l r
theorem pickL_map {l : List Oper} : ∀ (r : List Nat), (∀ i ∈ r, i < l.length) → r.map (fun i => l.toArray[i]?) = (pickL l r).map some
  | [], _ => rfl
  | i :: r, h => by
    have hi := h i List.mem_cons_self
    rw [List.map_cons, pickL_map r fun j hj => h j (List.mem_cons_of_mem _ hj), pickL, List.getElem?_eq_getElem hi]
    simp [hi]
def Region.lexPermB (md : Region.Mode) (ops : Array Oper) (hd : List Nat) (n : Nat) (mid tl : List Nat) : Bool :=
  Region.noSelect ops && Region.coverB ops hd n mid tl && Region.waitB md ops (hd ++ n :: mid) tl && Region.lexS md ops n mid tl hd (Array.replicate ops.size false) && ((hd ++ n :: mid ++ tl).all fun i => decide (i < ops.size))
/-- A region that draws: walked in an order of one's own: what only reads or makes new memory; the new block; what reads it; a tail that is in one order. -/
theorem wp_region_later_allocP {id : Nat} {Q : Exit → Act → World → Prop} {a aE : Act} {aM : Nat → Act} {l : List Oper} {oa : Oper} (obj : Obj) (hd : List Nat) (n d : Nat) (mid tl : List Nat) (pv : Nat → Value) (hm : P.follows .mixedOrders = true) (hB : Region.lexPermB .any l.toArray hd n mid tl = true) (hoa : l.toArray[n]? = some oa) (hda : oa.dst = some d)
    (hds : dstsB (pickL l hd) a.tmps.size = true) (hdm : ∀ a' : Act, a'.tmps.size = a.tmps.size → dstsB (pickL l mid) a'.tmps.size = true)
    (hAl : ∀ (a : Act) (w : World) (K : Act → World → Prop), K (a.put (some d) (pv w.heap.size)) (w.alloc obj) → wpOp P l.toArray Q n K a w)
    (h : ∀ V, LatC W V → wpQuiet P l.toArray (LatC V) (fun a' => a' = aE) (pickL l hd) a)
    (hM : ∀ b V, LatC W V → V.heap[b]? = some obj → wpQuiet P l.toArray (LatC V) (fun a' => a' = aM b) (pickL l mid) (aE.put (some d) (pv b)))
    (hT : ∀ w' b, Below W.heap.size W w' → w'.heap[b]? = some obj → W.heap.size ≤ b → wpList P l.toArray Q (pickL l tl) (aM b) w') : (Code.region id l.toArray true).wp P Q a W := by
  simp only [Region.lexPermB, Bool.and_eq_true] at hB
  obtain ⟨⟨⟨⟨hsel, hcv⟩, hw⟩, hlex⟩, hin⟩ := hB
  have hc := coverB_spec hcv
  have hin' : ∀ i ∈ hd ++ n :: mid ++ tl, i < l.length := fun i hi => by simpa using List.all_eq_true.1 hin i hi
  have inv0 : HeadInvS .any l.toArray tl (Array.replicate l.toArray.size false) :=
    ⟨by simp, fun j oj _ hl => (by rw [getD_replicate_false] at hl; cases hl), fun t ht => getD_in (by simpa using hin' t (List.mem_append_right _ ht)) (getD_replicate_false _ _)⟩
  have hsz : aE.tmps.size = a.tmps.size := by
    have keepsz : ∀ (r : List Oper) (a : Act), wpQuiet P l.toArray (LatC W) (fun a' => a' = aE) r a → aE.tmps.size = a.tmps.size := by
      intro r
      induction r with
      | nil => intro a h; have h : a = aE := h; rw [h]
      | cons o r ih =>
        intro a h
        rw [wpQuiet] at h
        split at h
        · obtain ⟨v, _, h2⟩ := h
          rw [ih _ h2, put_size]
        · rw [ih _ h, put_size]
    exact keepsz _ _ (h W (LatC.refl W))
  have hg := growS_of_quiet (P := P) (ops := l.toArray) (W := W) (Lq := fun a' => ∀ b, wpGrowB P l.toArray W obj b (fun a'' => (fun a'' b => ∀ w', Below W.heap.size W w' → w'.heap[b]? = some obj → W.heap.size ≤ b → wpList P l.toArray Q (pickL l tl) a'' w') a'' b) (pickL l mid) (a'.put (some d) (pv b)))
    (fun b => growB_of_quiet (fun hno _ w' h1 h2 _ => absurd ⟨w', LatC.of h1, h2⟩ hno) (fun w' h1 h2 h3 => hT w' b h1 h2 h3) (pickL l mid) _ (hdm _ (by rw [put_size]; exact hsz)) (hM b)) (pickL l hd) a hds h
  have H := wpHeadS_lex (md := .any) (pv := pv) (Lq := fun a'' b => ∀ w', Below W.heap.size W w' → w'.heap[b]? = some obj → W.heap.size ≤ b → wpList P l.toArray Q (pickL l tl) a'' w') hoa hda hsel hw hc (pickL_map mid fun i hi => hin' i (List.mem_append_left _ (List.mem_append_right _ (List.mem_cons_of_mem _ hi)))) hd (pickL l hd) _ a 0
    (pickL_map hd fun i hi => hin' i (List.mem_append_left _ (List.mem_append_left _ hi))) (fun j hj => hj) (fun j hj => .inl hj) inv0 hlex hg
  refine wp_region_any hm ?_
  have := wpAny_of_wpHeadS (Q := Q) (g := tl.length) hc.hdn hc.mdn hAl (fun listed a' w' β hw' h1 h2 hL =>
    wpAny_of_seqL (md := .any) (Q' := Q) tl (pickL l tl) listed a' w' (pickL_map tl fun i hi => hin' i (List.mem_append_right _ hi)) hL.2.1 (hL.2.2 w' hw'.below h1 h2)) (fun _ _ _ hL => hL.1) _ _ _ _ _ (LatC.of (Below.refl W.heap.size W).drew) (fun hf => by rw [getD_replicate_false] at hf; cases hf) H
  rw [show hd.length + (mid.length + 1) + tl.length = l.toArray.size by have := hc.len; omega] at this
  exact this
end
end Go.Proofs.YtakfnojiaakfpaaGreatDoor
