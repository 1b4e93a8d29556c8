/- Nodes appended: a row of nodes of the call's own whose parts may be of others. Plain words. -/
import Derived.Test.YtdikmklijpcjdaaNodC
namespace Go.Proofs.Ytdikmklijpcjdaa
open Go.RowKit

theorem NodAt.below {w w' : World} {B : Nat} {x : List Value} {n : Nod} (h : NodAt w B x n) (hb : Below B w w') : NodAt w' B x n := h.keep fun _ _ hp => hb.cell (p := ⟨_, _, none⟩) hp
theorem NodAt.one {w : World} {B : Nat} {x : List Value} {n : Nod} (h : NodAt w B x n) : ∀ u ∈ x, u.oneCell' = true := by
  obtain ⟨Am, cm, An, cn, rfl, _⟩ := h
  exact one_nod n Am cm An cn _ (by simp)
/-- A node's parts: the call's own, or of before. -/
def PartN (w : World) (base : Nat) (y : List Value) (x : Nod) : Prop :=
  (∃ Am cm An cn, y = nodC x Am cm An cn ∧ Own w base 45 3 Am x.mat.length cm (matsC x.mat) ∧ Own w base 9 1 An x.names.length cn (textsC x.names)) ∨ NodAt w base y x
/-- A row of nodes that the call has made. -/
def MixN (w : World) (base : Nat) (A : Option Addr) (n c : Nat) (ns : List Nod) : Prop :=
  ∃ cs, Own w base 37 10 A n c cs ∧ ns.length = n ∧ ∀ (k : Nat) (x : Nod), ns[k]? = some x → ∃ y, cs[k]? = some y ∧ PartN w base y x
theorem PartN.at_ {w : World} {base : Nat} {y : List Value} {x : Nod} (h : PartN w base y x) (hB : base ≤ w.heap.size) : NodAt w w.heap.size y x := by
  rcases h with ⟨Am, cm, An, cn, rfl, ho, hp⟩ | h
  · exact ⟨Am, cm, An, cn, rfl, ho.rd, hp.rd, ho.cap.1, ho.cap.2, hp.cap.1, hp.cap.2⟩
  · exact h.more hB
theorem PartN.belowAll {w w' : World} {base : Nat} {y : List Value} {x : Nod} (h : PartN w base y x) (hb : Below w.heap.size w w') (hB : base ≤ w.heap.size) : PartN w' base y x := by
  rcases h with ⟨Am, cm, An, cn, rfl, ho, hp⟩ | h
  · exact .inl ⟨Am, cm, An, cn, rfl, ho.belowAll hb, hp.belowAll hb⟩
  · exact .inr (h.below (hb.mono hB))
theorem PartN.grown {w w' : World} {base n c : Nat} {A : Option Addr} {cs : List (List Value)} {y : List Value} {x : Nod} (h : PartN w base y x) (hO : Own w base 37 10 A n c cs) (hg : w.grownBy w' (A.map Addr.block)) (hb : Below base w w') : PartN w' base y x := by
  rcases h with ⟨Am, cm, An, cn, rfl, ho, hp⟩ | h
  · exact .inl ⟨Am, cm, An, cn, rfl, ho.grown hg (ho.ne_ hO (by decide)), hp.grown hg (hp.ne_ hO (by decide))⟩
  · exact .inr (h.below hb)
theorem OwnNods.mix {w : World} {base n c : Nat} {A : Option Addr} {ns : List Nod} (h : OwnNods w base A n c ns) : MixN w base A n c ns := by
  obtain ⟨cs, h1, h2, h3⟩ := h
  refine ⟨cs, h1, h2, fun k x hx => ?_⟩
  obtain ⟨Am, cm, An, cn, hy, ho, hp⟩ := h3 k x hx
  exact ⟨_, hy, .inl ⟨Am, cm, An, cn, rfl, ho, hp⟩⟩
theorem MixN.rd {w : World} {base n c : Nat} {A : Option Addr} {ns : List Nod} (h : MixN w base A n c ns) (hB : base ≤ w.heap.size) : RdNods w w.heap.size A ns := by
  obtain ⟨cs, h1, h2, h3⟩ := h
  refine ⟨cs, h1.rd, by rw [h1.len, h2], fun k s hs => ?_⟩
  obtain ⟨y, hy, hp⟩ := h3 k s hs
  exact ⟨y, hy, hp.at_ hB⟩
theorem MixN.belowAll {w w' : World} {base n c : Nat} {A : Option Addr} {ns : List Nod} (h : MixN w base A n c ns) (hb : Below w.heap.size w w') (hB : base ≤ w.heap.size) : MixN w' base A n c ns := by
  obtain ⟨cs, h1, h2, h3⟩ := h
  refine ⟨cs, h1.belowAll hb, h2, fun k s hs => ?_⟩
  obtain ⟨y, hy, hp⟩ := h3 k s hs
  exact ⟨y, hy, hp.belowAll hb hB⟩
/-- What an append of nodes asks of its source: the row in a block below B, its elements' parts below the base. -/
def SrcN (w : World) (B base : Nat) (A : Option Addr) (ms : List Nod) : Prop :=
  ∃ ds, Rd w B 10 A ds ∧ ds.length = ms.length ∧ ∀ (k : Nat) (x : Nod), ms[k]? = some x → ∃ y, ds[k]? = some y ∧ NodAt w base y x
theorem RdNods.src {w : World} {B : Nat} {A : Option Addr} {ms : List Nod} (h : RdNods w B A ms) : SrcN w B B A ms := h
theorem wpList_append_nods {P : Program} {w : World} {ops : Array Oper} {rest : List Oper} {o : Oper} {a : Act} {Q : Exit → Act → World → Prop} (hgd : o.guard = none) (s x : Operand) (t : TypeId)
    (ho : o.op = .call { callee := .builtin .append, args := #[s, x], argTypes := #[t, t] }) (hE : EI P t 37 10 120)
    {base : Nat} {A : Option Addr} {n c : Nat} {ns : List Nod} (hs : a.eval s = .slice A n c) (hown : MixN w base A n c ns)
    {B : Nat} {A2 : Option Addr} {m c2 : Nat} {ms : List Nod} (hx : a.eval x = .slice A2 m c2) (hr : SrcN w B base A2 ms) (hm : ms.length = m)
    (hbytes : (n + m) * 120 ≤ 140737488355328) (hbase : base ≤ w.heap.size)
    (h : ∀ A' c' w', MixN w' base A' (n + m) c' (ns ++ ms) → Below base w w' → wpList P ops Q rest (a.put o.dst (.slice A' (n + m) c')) w') :
    wpList P ops Q (o :: rest) a w := by
  obtain ⟨cs, h1, h2, h3⟩ := hown
  obtain ⟨ds, g1, g2, g3⟩ := hr
  have hone : ∀ y ∈ ds, ∀ u ∈ y, u.oneCell' = true := by
    intro y hy
    obtain ⟨k, hk⟩ := List.mem_iff_getElem?.1 hy
    have hkl : k < ms.length := by rw [← g2]; exact (List.getElem?_eq_some_iff.1 hk).1
    obtain ⟨y', hy', hn⟩ := g3 k _ (List.getElem?_eq_getElem hkl)
    rw [hk] at hy'
    injection hy' with hy'
    subst hy'
    exact hn.one
  refine wpList_append_rd w hgd s x t ho hE hs h1 hx g1 (by rw [g2, hm]) hone (by simp only [maxLen]; omega) hbytes hbase ?_
  intro A' c' w' ho' hg hat hb
  refine h A' c' w' ⟨cs ++ ds, ho', by rw [List.length_append, h2, hm], fun k z hz => ?_⟩ hb
  have hcl : cs.length = ns.length := by rw [h1.len, h2]
  by_cases hk : k < ns.length
  · rw [List.getElem?_append_left hk] at hz
    obtain ⟨y, hy, hp⟩ := h3 k z hz
    exact ⟨y, by rw [List.getElem?_append_left (by omega)]; exact hy, hp.grown h1 hg hb⟩
  · rw [List.getElem?_append_right (by omega)] at hz
    obtain ⟨y, hy, hp⟩ := g3 _ z hz
    exact ⟨y, by rw [List.getElem?_append_right (by omega), hcl]; exact hy, .inr (hp.below hb)⟩
/-- A node without matchers and names, newly made. -/
theorem SrcN.one {w : World} {e : TypeId} {base : Nat} (x : Nod) (hm : x.mat = []) (hn : x.names = []) {cs : Array Value} (hc : cs.toList = nodC x none 0 none 0) :
    SrcN (w.alloc (.cells cs e)) (w.heap.size + 1) base (some ⟨w.heap.size, 0, none⟩) [x] := by
  refine ⟨[nodC x none 0 none 0], Rd.new w (by simp [nodC]) cs (by simpa using hc), rfl, fun k y hy => ?_⟩
  cases k with
  | succ k => simp at hy
  | zero =>
    simp at hy
    subst hy
    exact ⟨_, rfl, none, 0, none, 0, rfl, by rw [hm]; exact Rd.nil_, by rw [hn]; exact Rd.nil_, by rw [hm]; exact Nat.le_refl _, by simp [maxLen], by rw [hn]; exact Nat.le_refl _, by simp [maxLen]⟩
end Go.Proofs.Ytdikmklijpcjdaa
