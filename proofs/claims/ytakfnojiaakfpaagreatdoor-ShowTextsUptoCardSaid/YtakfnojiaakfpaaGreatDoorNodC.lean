/- Nodes are copied. -/
import Derived.Test.YtakfnojiaakfpaaGreatDoorNodS
namespace Go.Proofs.YtakfnojiaakfpaaGreatDoor
section
/-! ## Blk -/
open Go.RowKit

def Blk (w : World) (T : Nat) (e : TypeId) (cs : List Value) : Prop := w.heap[T]? = some (.cells cs.toArray e (0, 0))
section
variable {w w' : World} {T B : Nat} {e : TypeId} {cs : List Value}
theorem Blk.lt (h : Blk w T e cs) : T < w.heap.size := (Array.getElem?_eq_some_iff.1 h).1
theorem Blk.cell (h : Blk w T e cs) {j : Nat} {v : Value} (hv : cs[j]? = some v) : w.cell? ⟨T, j, none⟩ = some v := by
  rw [cell_of_row w T j _ e (0, 0) h]; simpa using hv
theorem Blk.frozen (h : Blk w T e cs) (j : Nat) : w.frozen? ⟨T, j, none⟩ = false := frozen_of_row w T j _ _ h
theorem Blk.set (h : Blk w T e cs) (j : Nat) (u : Value) : Blk (w.setCell ⟨T, j, none⟩ u) T e (cs.set j u) := by
  have := heap_setCell_same w T j _ _ u h
  simpa [Blk] using this
theorem Blk.keep (h : Blk w T e cs) (hk : w'.heap[T]? = w.heap[T]?) : Blk w' T e cs := hk.trans h
theorem Blk.below (h : Blk w T e cs) (hb : Below B w w') (hT : T < B) : Blk w' T e cs := h.keep (hb.block T hT)
theorem Blk.alloc (h : Blk w T e cs) (o : Obj) : Blk (w.alloc o) T e cs := h.keep (Below.heap_alloc w o T h.lt)
theorem Blk.new (w : World) (e : TypeId) (cs : List Value) : Blk (w.alloc (.cells cs.toArray e)) w.heap.size e cs := heap_alloc_new w _
theorem Blk.grown {row : Option Nat} (h : Blk w T e cs) (hg : w.grownBy w' row) (hr : some T ≠ row) : Blk w' T e cs := h.keep (hg.block T h.lt hr)
theorem Blk.other (h : Blk w T e cs) {a : Addr} (ha : T ≠ a.block) (u : Value) : Blk (w.setCell a u) T e cs := h.keep (Below.heap_setCell w a u T ha)
theorem Blk.drewN (h : Blk w T e cs) (n : Nat) : Blk (w.drewN n) T e cs := h
end
theorem own_ne_blk {w : World} {base sz n c P : Nat} {e e2 : TypeId} {A : Option Addr} {xs : List (List Value)} {cs : List Value} (h : Own w base e sz A n c xs) (hb : Blk w P e2 cs) (hne : e ≠ e2) : some P ≠ A.map Addr.block := by
  rcases h.2.2.2.2 with ⟨hv, h0⟩ | ⟨g, cap, cur, hv, hbg, hg, _⟩
  · injection hv with e1; subst e1; simp
  · injection hv with e1
    subst e1
    intro e
    simp at e
    subst e
    rw [hb] at hg
    injection hg with hg
    injection hg with _ ht
    exact hne ht.symm
theorem Own.setOther {w : World} {base sz n c P : Nat} {e : TypeId} {A : Option Addr} {xs : List (List Value)} (h : Own w base e sz A n c xs) (hne : some P ≠ A.map Addr.block) (j : Nat) (u : Value) : Own (w.setCell ⟨P, j, none⟩ u) base e sz A n c xs := by
  refine ⟨h.1, h.2.1, h.2.2.1, h.2.2.2.1, ?_⟩
  rcases h.2.2.2.2 with hn | ⟨g, cap, cur, hv, hbg, hg, rest⟩
  · exact .inl hn
  · refine .inr ⟨g, cap, cur, hv, hbg, ?_, rest⟩
    injection hv with e1
    subst e1
    rw [Below.heap_setCell w ⟨P, j, none⟩ u g (by rintro rfl; exact hne rfl)]
    exact hg
end
section
/-! ## NodC -/
open Go.RowKit

theorem one_nod (n : Nod) (Am : Option Addr) (cm : Nat) (An : Option Addr) (cn : Nat) : ∀ y ∈ [nodC n Am cm An cn], ∀ u ∈ y, u.oneCell' = true := by
  intro y hy u hu
  simp at hy
  subst hy
  simp [nodC] at hu
  rcases hu with rfl | rfl | rfl | rfl | rfl | rfl | rfl | rfl | rfl | rfl <;> rfl
theorem eiNod : EI Tryz.prog 22 41 10 120 := EI.mk' Tryz.underlying22 (z := .agg #[.int .i64 0, .int .i64 0, .string ByteArray.empty, .slice none 0 0, .int .i64 0, .int .i64 0, .int .i64 0, .slice none 0 0, .bool false, .int .i64 0]) (by kernel_rfl) rfl (by omega)
/-- Nodes that the call has made. -/
def OwnNods (w : World) (base : Nat) (A : Option Addr) (n c : Nat) (ns : List Nod) : Prop :=
  ∃ cs, Own w base 41 10 A n c cs ∧ ns.length = n ∧ ∀ (k : Nat) (x : Nod), ns[k]? = some x → ∃ Am cm An cn, cs[k]? = some (nodC x Am cm An cn) ∧ Own w base 37 3 Am x.mat.length cm (matsC x.mat) ∧ Own w base 9 1 An x.names.length cn (textsC x.names)
theorem OwnNods.rd {w : World} {base n c : Nat} {A : Option Addr} {ns : List Nod} (h : OwnNods w base A n c ns) : RdNods w w.heap.size A ns := by
  obtain ⟨cs, h1, h2, h3⟩ := h
  refine ⟨cs, h1.rd, by rw [h1.len, h2], fun k s hs => ?_⟩
  obtain ⟨Am, cm, An, cn, hx, ho, hp⟩ := h3 k s hs
  exact ⟨_, hx, Am, cm, An, cn, rfl, ho.rd, hp.rd, ho.cap.1, ho.cap.2, hp.cap.1, hp.cap.2⟩
theorem OwnNods.belowAll {w w' : World} {base n c : Nat} {A : Option Addr} {ns : List Nod} (h : OwnNods w base A n c ns) (hb : Below w.heap.size w w') : OwnNods w' base A n c ns := by
  obtain ⟨cs, h1, h2, h3⟩ := h
  refine ⟨cs, h1.belowAll hb, h2, fun k s hs => ?_⟩
  obtain ⟨Am, cm, An, cn, hx, ho, hp⟩ := h3 k s hs
  exact ⟨Am, cm, An, cn, hx, ho.belowAll hb, hp.belowAll hb⟩
theorem OwnNods.setBelow {w : World} {base n c : Nat} {A : Option Addr} {ns : List Nod} (h : OwnNods w base A n c ns) {a : Addr} (ha : w.heap.size ≤ a.block) (u : Value) : OwnNods (w.setCell a u) base A n c ns :=
  h.belowAll ((Below.refl _ _).setCell ha u)
theorem OwnNods.snoc {w w' : World} {base n c c' : Nat} {A A' : Option Addr} {ns : List Nod} {x : Nod} {Am An : Option Addr} {cm cn : Nat} {cs : List (List Value)} (h2 : ns.length = n)
    (h3 : ∀ (k : Nat) (x : Nod), ns[k]? = some x → ∃ Am cm An cn, cs[k]? = some (nodC x Am cm An cn) ∧ Own w base 37 3 Am x.mat.length cm (matsC x.mat) ∧ Own w base 9 1 An x.names.length cn (textsC x.names))
    (h1 : Own w base 41 10 A n c cs) (ho : Own w' base 41 10 A' (n + 1) c' (cs ++ [nodC x Am cm An cn]))
    (hm : Own w base 37 3 Am x.mat.length cm (matsC x.mat)) (hn : Own w base 9 1 An x.names.length cn (textsC x.names)) (hg : w.grownBy w' (A.map Addr.block)) : OwnNods w' base A' (n + 1) c' (ns ++ [x]) := by
  refine ⟨_, ho, by simp [h2], fun k r hr => ?_⟩
  by_cases hk : k < ns.length
  · rw [List.getElem?_append_left hk] at hr
    obtain ⟨A3, c3, A4, c4, hx, ho3, ho4⟩ := h3 k r hr
    refine ⟨A3, c3, A4, c4, ?_, ho3.grown hg (ho3.ne_ h1 (by decide)), ho4.grown hg (ho4.ne_ h1 (by decide))⟩
    rw [List.getElem?_append_left (List.getElem?_eq_some_iff.1 hx).1, hx]
  · rw [List.getElem?_append_right (by omega)] at hr
    have hk2 : k - ns.length = 0 := by
      rcases Nat.eq_zero_or_pos (k - ns.length) with h0 | h0
      · exact h0
      · rw [List.getElem?_eq_none (by simp; omega)] at hr; cases hr
    rw [hk2] at hr
    simp at hr
    subst hr
    refine ⟨Am, cm, An, cn, ?_, hm.grown hg (hm.ne_ h1 (by decide)), hn.grown hg (hn.ne_ h1 (by decide))⟩
    rw [List.getElem?_append_right (by rw [h1.len]; omega), h1.len, show k - n = 0 from by omega]
    rfl
theorem Rd.nod {w : World} {e : TypeId} {b : Nat} (x : Nod) (Am : Option Addr) (cm : Nat) (An : Option Addr) (cn : Nat) (hb : b = w.heap.size) :
    Rd (w.alloc (.cells #[.int .i64 x.kind, .int .i64 x.op, .string x.text, .slice Am x.mat.length cm, .int .i64 x.width, .int .i64 x.back, .int .i64 x.grp, .slice An x.names.length cn, .bool x.cmp, .int .i64 x.parts] e)) (b + 1) 10 (some ⟨b, 0, none⟩) [nodC x Am cm An cn] := by
  subst hb
  exact Rd.new w (by simp [nodC]) _ rfl
theorem Own.setLow {w : World} {base sz n c : Nat} {e : TypeId} {A : Option Addr} {xs : List (List Value)} (h : Own w base e sz A n c xs) {a : Addr} (ha : a.block < base) (u : Value) : Own (w.setCell a u) base e sz A n c xs :=
  ⟨h.1, h.2.1, h.2.2.1, ownsRow_setCell_below h.2.2.2 ha u⟩
def okNod (x : Nod) : Prop := x.mat.length * 40 ≤ 140737488355328 ∧ x.names.length * 16 ≤ 140737488355328
def CopyNods (ns : List Nod) (n : Nat) (w : World) (e : Ending) (w' : World) : Prop := ∃ A c, e = .returned (.slice A n c) ∧ OwnNods w' w.heap.size A n c ns ∧ Below w.heap.size w w'
set_option maxRecDepth 100000 in
set_option maxHeartbeats 4000000 in
theorem copyNodes_any (ns : List Nod) (A1 : Option Addr) (n1 c1 B1 : Nat) (w : World) (h1 : RdNods w B1 A1 ns) (hn1 : ns.length = n1) (hB : B1 ≤ w.heap.size) (hm1 : n1 * 120 ≤ 140737488355328) (hok : ∀ x ∈ ns, okNod x) :
    Calls Tryz.prog 10 #[.slice A1 n1 c1] w (CopyNods ns n1 w) := by
  have Hn1 := Lib.hid hn1
  have HOK := Lib.hid hok
  clear hn1 hok
  go_enter Tryz.func10, Tryz.ntmps10
  go_wp2
  go_loopw [3, 4] (fun v i wr => ∃ (k c : Nat) (A : Option Addr), k ≤ n1 ∧ i = .int .i64 k ∧ v = .slice A k c ∧ OwnNods wr w.heap.size A k c (ns.take k) ∧ Below w.heap.size w wr) (fun _ i _ => n1 - (intOf i).toNat)
  case atStart => exact ⟨0, 0, none, by omega, rfl, rfl, ⟨[], Own.nil_ (by omega), rfl, fun k s h => by simp at h⟩, Below.refl _ _⟩
  case round =>
    obtain ⟨k, c, A, hk, rfl, rfl, ho, hb⟩ := hrel
    by_cases hlt : k < n1
    · obtain ⟨x, e1⟩ := get_lt Hn1 hlt
      obtain ⟨b1, o1, Am, cm, An, cn, hA1, hb1, p0, p1, p2, p3, p4, p5, p6, p7, p8, p9, r1, r2, _, _, _, _⟩ := (h1.below (hb.mono hB)).at_ e1
      subst hA1
      have E1 := Lib.hid e1
      obtain ⟨ok1, ok2⟩ := HOK.out x (List.mem_of_getElem? e1)
      have hk0 : (0 : Int) ≤ (k : Int) := Int.natCast_nonneg _
      have hk1 : (k : Int) < (n1 : Int) := by omega
      have hsz := hb.size
      clear e1
      go_wp2_with fail
      refine (copyMatchers_any x.mat Am x.mat.length cm B1 _ (Rd.keep r1 (fun b o hb' => ((Below.refl wr.heap.size wr).alloc (Nat.le_refl _) _).cell (p := ⟨b, o, none⟩) (by show b < _; omega))) rfl (by simp; omega) ok1).mono ?_
      rintro e w2 ⟨Am', cm', rfl, hom, hb2⟩
      have hz2 := hb2.size
      simp only [World.size_alloc] at hz2
      have HT2 : Blk w2 wr.heap.size 41 (nodC x Am cm An cn) := (Blk.new wr _ _).below hb2 (by simp)
      have hb02 : Below wr.heap.size wr w2 := ((Below.refl _ _).alloc (Nat.le_refl _) _).trans (hb2.mono (by simp))
      have q3 := HT2.cell (j := 3) rfl
      have q7 := HT2.cell (j := 7) rfl
      have qf := HT2.frozen
      go_wp2_with fail
      have HT3 := HT2.set 3 (.slice Am' x.mat.length cm')
      have hom3 := Own.setLow hom (a := ⟨wr.heap.size, 3, none⟩) (by simp) (.slice Am' x.mat.length cm')
      have hb03 := hb02.setCell (p := ⟨wr.heap.size, 3, none⟩) (Nat.le_refl _) (.slice Am' x.mat.length cm')
      have hz3 : wr.heap.size + 1 ≤ (w2.setCell ⟨wr.heap.size, 3, none⟩ (.slice Am' x.mat.length cm')).heap.size := by simpa using hz2
      clear q3 q7 qf HT2 hom hb02 hb2 hz2
      generalize w2.setCell ⟨wr.heap.size, 3, none⟩ (.slice Am' x.mat.length cm') = w3 at *
      refine (copyTexts_any x.names An x.names.length cn wr.heap.size w3 ((r2.more (B' := wr.heap.size) (by omega)).below hb03) rfl (by omega) ok2).mono ?_
      rintro e w4 ⟨An', cn', rfl, hon, hb4⟩
      have hz4 := hb4.size
      have HT4 := HT3.below hb4 (by omega)
      have hb04 := (hb03.trans (hb4.mono (by omega))).setCell (p := ⟨wr.heap.size, 7, none⟩) (Nat.le_refl _) (.slice An' x.names.length cn')
      have hom4 := (hom3.belowAll hb4).setLow (a := ⟨wr.heap.size, 7, none⟩) (by simp) (.slice An' x.names.length cn')
      have hon4 := hon.setLow (a := ⟨wr.heap.size, 7, none⟩) (by show wr.heap.size < _; omega) (.slice An' x.names.length cn')
      have hz5 : wr.heap.size + 1 ≤ (w4.setCell ⟨wr.heap.size, 7, none⟩ (.slice An' x.names.length cn')).heap.size := by simp; omega
      obtain ⟨cs, hO1, hO2, hO3⟩ := ho
      have hO4 := hO1.belowAll hb04
      have HO2 := Lib.hid hO2
      have HO3 := Lib.hid hO3
      have q0 := HT4.cell (j := 0) rfl
      have q1 := HT4.cell (j := 1) rfl
      have q2 := HT4.cell (j := 2) rfl
      have q3 := HT4.cell (j := 3) rfl
      have q4 := HT4.cell (j := 4) rfl
      have q5 := HT4.cell (j := 5) rfl
      have q6 := HT4.cell (j := 6) rfl
      have q7 := HT4.cell (j := 7) rfl
      have q8 := HT4.cell (j := 8) rfl
      have q9 := HT4.cell (j := 9) rfl
      have qf := HT4.frozen
      clear HT4 HT3 hO2 hO3 hb4 hon hom3
      go_wp2_with (at_builtin; refine wpList_append_rd (ys := [nodC x Am' cm' An' cn']) _ rfl (.tmp 24) (.tmp 26) _ rfl eiNod rfl (hO4.alloc _) rfl (Rd.nod x Am' cm' An' cn' (by simp)) rfl (one_nod x Am' cm' An' cn') (by simp only [maxLen]; omega) (by omega) (by simp; omega) ?_; intro A' c' w5 ho hg hat hb5)
      have R : OwnNods w5 w.heap.size A' (k + 1) c' (ns.take (k + 1)) := by
        rw [List.take_add_one, E1.out]
        exact OwnNods.snoc HO2.out (fun j y hy => by
          obtain ⟨a1, a2, a3, a4, hx, g1, g2⟩ := HO3.out j y hy
          exact ⟨a1, a2, a3, a4, hx, (g1.belowAll hb04).alloc _, (g2.belowAll hb04).alloc _⟩) (hO4.alloc _) ho ((hom4.lower (by simp; omega)).alloc _) ((hon4.lower (by omega)).alloc _) hg
      have hbE := ((hb.trans (hb04.mono hsz)).alloc (by omega) _).trans hb5
      go_roundw
      case rel => exact ⟨k + 1, c', A', by omega, by go_num, rfl, R, hbE⟩
      case measure => simp [intOf]; omega
    · have hkn : k = n1 := by omega
      have HT : Hid (ns.take k = ns) := by rw [hkn, ← Hn1.out]; exact List.take_length
      have HK := Lib.hid hkn
      clear hkn
      go_wp2
      go_ret
      refine ⟨A, c, by simp; exact HK.out, ?_, hb⟩
      rw [HT.out] at ho
      rw [← HK.out]
      exact ho
end
end Go.Proofs.YtakfnojiaakfpaaGreatDoor
