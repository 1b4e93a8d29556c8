/- What the bound of an 'upto' statement gives: nodes, with the sizes of their parts; the frame of a law whose row lists variables. -/
import Derived.Test.YtakfnojiaakfpaaGreatDoorShwT
import Derived.Test.YtakfnojiaakfpaaGreatDoorNodS
import Derived.Test.YtakfnojiaakfpaaGreatDoorShwM
import Derived.Deep.DeepHandedRow
import Derived.JoinedCond
namespace Go.Proofs.YtakfnojiaakfpaaGreatDoor
open Go.ChangeShapes Go.WideShapes Go.RowKit Go.Deep
section
variable {H : Type} {enc : TypeId × Value → H} {P : Program} {w : World}
theorem bulk_one (d : DataW H) : 1 ≤ Rows.uptoBulk d := by
  cases d with
  | lit l => cases l <;> simp [Rows.uptoBulk]
  | nil => simp [Rows.uptoBulk]
  | ptr d => simp [Rows.uptoBulk]
  | slice elems spare => simp [Rows.uptoBulk]
  | agg parts => simp [Rows.uptoBulk]
  | iface t d => simp [Rows.uptoBulk]
  | map entries => simp [Rows.uptoBulk]
  | held h => simp [Rows.uptoBulk]
theorem bulk_len : ∀ (l : List (DataW H)), l.length ≤ Rows.uptoBulkAll l
  | [] => Nat.le_refl _
  | d :: r => by have h1 := bulk_one d; have h2 := bulk_len r; simp only [Rows.uptoBulkAll, List.length_cons]; omega
theorem bulk_part {d : DataW H} : ∀ {l : List (DataW H)}, d ∈ l → Rows.uptoBulk d ≤ Rows.uptoBulkAll l
  | x :: r, h => by
    simp only [Rows.uptoBulkAll]
    rcases List.mem_cons.1 h with rfl | h
    · omega
    · have := bulk_part h; omega
theorem got_sliceB {t e : TypeId} {sz : Nat} {cs : List Value} {d : DataW H} (ht : P.underlying t = some (.slice e)) (hC : P.cellsOf e = sz) (hsz : 0 < sz) (h : Got enc P w t cs d) :
    ∃ A n c, ∃ es : List (List Value), cs = [.slice A n c] ∧ n ≤ c ∧ c ≤ maxLen ∧ es.length = n ∧ Rd w w.heap.size sz A es ∧ ∃ ds : List (DataW H), ds.length = n ∧ Rows.uptoBulkAll ds + 1 ≤ Rows.uptoBulk d ∧ ∀ (i : Nat) (x : List Value) (d' : DataW H), es[i]? = some x → ds[i]? = some d' → Got enc P w e x d' := by
  obtain ⟨fuel, ps, hg⟩ := h
  rcases open_slice ht hg with ⟨rfl, hx⟩ | ⟨a, len, cap, m, n, D, Pl, rfl, hb, hl, hm, hmm, hx, hi⟩
  · exact ⟨none, 0, 0, [], rfl, Nat.le_refl _, by simp [maxLen], rfl, Rd.nil_, [], rfl, by have := bulk_one d; simp only [Rows.uptoBulkAll]; omega, by simp⟩
  · injection hx with hx _
    subst hx
    simp only [if_true] at hmm
    subst hmm
    have key : ∀ i, i < len → ∃ cs', cs'.length = sz ∧ (∀ j, j < sz → w.cell? ((a.add (i * sz)).add j) = cs'[j]?) ∧ Got enc P w e cs' (D i) := by
      intro i hil
      obtain ⟨cs', hc, htr⟩ := hi i (by omega)
      rw [hC] at hc
      obtain ⟨_, hcl, hat⟩ := World.cells?_some hc
      exact ⟨cs', hcl, hat, n, _, htr⟩
    obtain ⟨F, hF⟩ : ∃ F : Nat → List Value, ∀ i, i < len → (F i).length = sz ∧ (∀ j, j < sz → w.cell? ((a.add (i * sz)).add j) = (F i)[j]?) ∧ Got enc P w e (F i) (D i) := by
      refine ⟨fun i => if h : i < len then (key i h).choose else [], fun i hil => ?_⟩
      simp only [hil, dif_pos]
      exact (key i hil).choose_spec
    refine ⟨some a, len, m, (List.range len).map F, rfl, hl, hm, by simp, ⟨?_, ?_⟩, (List.range len).map D, by simp, by simp only [Rows.uptoBulk]; omega, ?_⟩
    · intro x hx
      obtain ⟨i, hi2, rfl⟩ := List.mem_map.1 hx
      exact (hF i (List.mem_range.1 hi2)).1
    · intro hne
      have h0 : 0 < len := by
        rcases Nat.eq_zero_or_pos len with h0 | h0
        · subst h0; simp at hne
        · exact h0
      have hc0 := (hF 0 h0).2.1 0 hsz
      have hsp : a.spot = none := by
        have hsome : ∃ v, (F 0)[0]? = some v := ⟨_, List.getElem?_eq_getElem (by rw [(hF 0 h0).1]; exact hsz)⟩
        obtain ⟨v, hv⟩ := hsome
        rw [hv] at hc0
        simp only [Nat.zero_mul] at hc0
        have hadd : (a.add 0).add 0 = a := by simp [Addr.add]
        rw [hadd] at hc0
        cases hs : a.spot with
        | none => rfl
        | some q =>
          unfold World.cell? at hc0
          split at hc0
          · simp [hs] at hc0
          · cases hc0
      obtain ⟨b, o, sp⟩ := a
      simp only at hsp
      subst hsp
      refine ⟨b, o, rfl, ?_, ?_⟩
      · obtain ⟨v, hv⟩ : ∃ v, (F 0)[0]? = some v := ⟨_, List.getElem?_eq_getElem (by rw [(hF 0 h0).1]; exact hsz)⟩
        rw [hv] at hc0
        have := World.block_lt_of_cell? w _ hc0
        rw [add_none, add_none] at this
        exact this
      · intro k x j v hx hv
        have hk : k < len := by have := (List.getElem?_eq_some_iff.1 hx).1; simpa using this
        rw [List.getElem?_map, List.getElem?_range hk] at hx
        simp at hx
        subst hx
        have hj : j < sz := by rw [← (hF k hk).1]; exact (List.getElem?_eq_some_iff.1 hv).1
        have := (hF k hk).2.1 j hj
        rw [add_none, add_none, hv] at this
        exact this
    · intro i x d' hx hd
      have hil : i < len := by have := (List.getElem?_eq_some_iff.1 hx).1; simpa using this
      rw [List.getElem?_map, List.getElem?_range hil] at hx hd
      simp at hx hd
      subst hx hd
      exact (hF i hil).2.2
theorem got_fieldsB {t : TypeId} {fs : Array Field} {cs : List Value} {d : DataW H} (ht : P.underlying t = some (.struct fs)) (hone : oneCellFields P fs = true) (hC : P.cellsOf t = fs.size) (h : Got enc P w t cs d) :
    cs.length = fs.size ∧ ∃ ds : List (DataW H), ds.length = fs.size ∧ Rows.uptoBulkAll ds + 1 ≤ Rows.uptoBulk d ∧ ∀ (j : Nat) (f : Field), fs[j]? = some f → ∃ v d', cs[j]? = some v ∧ ds[j]? = some d' ∧ Got enc P w f.type [v] d' := by
  obtain ⟨fuel, ps, hg⟩ := h
  obtain ⟨xs, n, _, hx, hlen, hxl, hat⟩ := DataW.trod_struct ht hg
  injection hx with hx _
  subst hx
  rw [hC] at hlen
  refine ⟨hlen, xs.map (·.1), by rw [List.length_map, hxl], by simp only [Rows.uptoBulk]; omega, fun j f hj => ?_⟩
  have hjl : j < fs.size := (Array.getElem?_eq_some_iff.1 hj).1
  obtain ⟨ho, hk⟩ := hone_of hone j f hj
  have h1 := hat j f hj
  have hv : cs[j]? = some (cs[j]'(by omega)) := List.getElem?_eq_getElem (by omega)
  have hys : xs[j]? = some (xs[j]'(by omega)) := List.getElem?_eq_getElem (by omega)
  rw [ho, hk] at h1
  have e1 : (cs.drop j).take 1 = [cs[j]'(by omega)] := by
    rw [List.drop_eq_getElem_cons (by omega)]
    rfl
  rw [e1, hys] at h1
  exact ⟨_, _, hv, by rw [List.getElem?_map, hys]; rfl, ⟨n, _, h1⟩⟩
end
section
variable {H : Type} {enc : TypeId × Value → H} {w : World}
theorem got_strB {t : TypeId} {v : Value} {d : DataW H} (ht : Tryz.prog.underlying t = some .string) (h : Got enc Tryz.prog w t [v] d) : ∃ s : ByteArray, v = .string s ∧ s.size ≤ maxLen ∧ s.size + 1 ≤ Rows.uptoBulk d := by
  obtain ⟨fuel, ps, hg⟩ := h
  obtain ⟨s, hs, hd, hm⟩ := DataW.trod_string ht hg
  simp only [Prod.mk.injEq] at hd
  refine ⟨s, by simpa using hs, hm, ?_⟩
  rw [hd.1]
  simp only [Rows.uptoBulk]
  rw [Lib.size_eq]
  exact Nat.le_refl _
theorem got_matB {cs : List Value} {d : DataW H} (h : Got enc Tryz.prog w 37 cs d) (hk : Rows.uptoBulk d ≤ 1048576) : ∃ m : Mat, cs = matC m ∧ m.name.size ≤ 1048576 := by
  obtain ⟨hl, ds, hdl, hbk, hat⟩ := got_fieldsB Tryz.underlying37 (by kernel_rfl) (by kernel_rfl) h
  obtain ⟨v0, d0, h0, e0, g0⟩ := hat 0 _ rfl
  obtain ⟨v1, d1, h1, e1, g1⟩ := hat 1 _ rfl
  obtain ⟨v2, d2, h2, e2, g2⟩ := hat 2 _ rfl
  obtain ⟨k, rfl, _⟩ := got_int Tryz.underlying3 g0
  obtain ⟨s1, rfl, _, b1⟩ := got_strB Tryz.underlying9 g1
  obtain ⟨s2, rfl, _, _⟩ := got_strB Tryz.underlying9 g2
  have hb1 := bulk_part (List.mem_of_getElem? e1)
  refine ⟨⟨k, s1, s2⟩, ?_, (show s1.size ≤ 1048576 by omega)⟩
  match cs, hl with
  | [a, b, c], _ =>
    simp at h0 h1 h2
    subst h0 h1 h2
    rfl
theorem got_matsB {v : Value} {d : DataW H} (h : Got enc Tryz.prog w 38 [v] d) (hk : Rows.uptoBulk d ≤ 1048576) :
    ∃ A c, ∃ ms : List Mat, v = .slice A ms.length c ∧ ms.length ≤ c ∧ c ≤ maxLen ∧ ms.length ≤ 1048576 ∧ Rd w w.heap.size 3 A (matsC ms) ∧ ∀ m ∈ ms, m.name.size ≤ 1048576 := by
  obtain ⟨A, n, c, es, hv, h1, h2, h4, h5, ds, hdl, hbk, h6⟩ := got_sliceB Tryz.underlying38 (by kernel_rfl : _ = 3) (by omega) h
  have hled : es.length = ds.length := by rw [h4, hdl]
  have hlen := bulk_len ds
  obtain ⟨ms, rfl, hms⟩ := list_choose (f := matC) (p := fun m => m.name.size ≤ 1048576) (fun x hx => by
    obtain ⟨i, hi, e⟩ := List.getElem_of_mem hx
    have g := h6 i x (ds[i]'(hled ▸ hi)) (by rw [List.getElem?_eq_getElem hi, e]) (List.getElem?_eq_getElem (hled ▸ hi))
    have hp := bulk_part (List.getElem_mem (hled ▸ hi : i < ds.length))
    exact got_matB g (by omega))
  obtain rfl : ms.length = n := by simpa using h4
  exact ⟨A, c, ms, by simpa using hv, h1, h2, by omega, h5, hms⟩
/-- The sizes of texts. -/
def sumT (l : List ByteArray) : Nat := (l.map fun s => s.size + 1).sum
theorem joinT_sum : ∀ l : List ByteArray, (joinT l).size ≤ 2 * sumT l
  | [] => by simp [joinT]
  | [x] => by simp [joinT, sumT]; omega
  | x :: y :: r => by
    have ih := joinT_sum (y :: r)
    show (x ++ sCommaB ++ joinT (y :: r)).size ≤ _
    rw [ByteArray.size_append, ByteArray.size_append]
    have e : sumT (x :: y :: r) = x.size + 1 + sumT (y :: r) := by simp [sumT]
    rw [e]
    show x.size + 2 + _ ≤ _
    omega
theorem sumT_part : ∀ {l : List ByteArray} {s : ByteArray}, s ∈ l → s.size ≤ sumT l
  | x :: r, s, h => by
    have e : sumT (x :: r) = x.size + 1 + sumT r := by simp [sumT]
    rcases List.mem_cons.1 h with rfl | h
    · omega
    · have := sumT_part h
      omega
theorem sumT_len : ∀ l : List ByteArray, l.length ≤ sumT l
  | [] => Nat.zero_le _
  | x :: r => by
    have e : sumT (x :: r) = x.size + 1 + sumT r := by simp [sumT]
    have := sumT_len r
    rw [List.length_cons]
    omega
theorem pick_texts : ∀ (es : List (List Value)) (ds : List (DataW H)), es.length = ds.length → (∀ x ∈ es, x.length = 1) → (∀ (i : Nat) (x : List Value) (d' : DataW H), es[i]? = some x → ds[i]? = some d' → Got enc Tryz.prog w 9 x d') → ∃ ls : List ByteArray, es = textsC ls ∧ sumT ls ≤ Rows.uptoBulkAll ds
  | [], [], _, _, _ => ⟨[], rfl, by simp [sumT]⟩
  | x :: es, d :: ds, hl, h1, h => by
    have hx := h1 x List.mem_cons_self
    have g := h 0 x d rfl rfl
    obtain ⟨ls, e, hs⟩ := pick_texts es ds (by simpa using hl) (fun y hy => h1 y (List.mem_cons_of_mem x hy)) (fun i y d' hy hd => h (i + 1) y d' (by simpa using hy) (by simpa using hd))
    match x, hx, g with
    | [u], _, g =>
      obtain ⟨s, rfl, _, b⟩ := got_strB Tryz.underlying9 g
      refine ⟨s :: ls, by rw [e]; rfl, ?_⟩
      simp only [Rows.uptoBulkAll, sumT, List.map_cons, List.sum_cons] at hs ⊢
      omega
theorem got_textsB {v : Value} {d : DataW H} (h : Got enc Tryz.prog w 39 [v] d) :
    ∃ A c, ∃ ms : List ByteArray, v = .slice A ms.length c ∧ ms.length ≤ c ∧ c ≤ maxLen ∧ Rd w w.heap.size 1 A (textsC ms) ∧ sumT ms + 1 ≤ Rows.uptoBulk d := by
  obtain ⟨A, n, c, es, hv, h1, h2, h4, h5, ds, hdl, hbk, h6⟩ := got_sliceB Tryz.underlying39 (by kernel_rfl : _ = 1) (by omega) h
  obtain ⟨ms, rfl, hs⟩ := pick_texts es ds (by omega) h5.1 h6
  obtain rfl : ms.length = n := by simpa [textsC] using h4
  exact ⟨A, c, ms, by simpa using hv, h1, h2, h5, by omega⟩
/-- What is known of a node that came in. -/
def okInB (x : Nod) : Prop := okNod x ∧ okShow x
theorem got_nodB {cs : List Value} {d : DataW H} (h : Got enc Tryz.prog w 41 cs d) (hk : Rows.uptoBulk d ≤ 1048576) : ∃ x : Nod, NodAt w w.heap.size cs x ∧ okInB x := by
  obtain ⟨hl, ds, hdl, hbk, hat⟩ := got_fieldsB Tryz.underlying41 (by kernel_rfl) (by kernel_rfl) h
  obtain ⟨v0, d0, h0, e0, g0⟩ := hat 0 _ rfl
  obtain ⟨v1, d1, h1, e1, g1⟩ := hat 1 _ rfl
  obtain ⟨v2, d2, h2, e2, g2⟩ := hat 2 _ rfl
  obtain ⟨v3, d3, h3, e3, g3⟩ := hat 3 _ rfl
  obtain ⟨v4, d4, h4, e4, g4⟩ := hat 4 _ rfl
  obtain ⟨v5, d5, h5, e5, g5⟩ := hat 5 _ rfl
  obtain ⟨v6, d6, h6, e6, g6⟩ := hat 6 _ rfl
  obtain ⟨v7, d7, h7, e7, g7⟩ := hat 7 _ rfl
  obtain ⟨v8, d8, h8, e8, g8⟩ := hat 8 _ rfl
  obtain ⟨v9, d9, h9, e9, g9⟩ := hat 9 _ rfl
  have q2 := bulk_part (List.mem_of_getElem? e2)
  have q3 := bulk_part (List.mem_of_getElem? e3)
  have q7 := bulk_part (List.mem_of_getElem? e7)
  obtain ⟨k0, rfl, _⟩ := got_int Tryz.underlying3 g0
  obtain ⟨k1, rfl, _⟩ := got_int Tryz.underlying3 g1
  obtain ⟨s, rfl, _, bs⟩ := got_strB Tryz.underlying9 g2
  obtain ⟨Am, cm, mm, rfl, a1, a2, a3, a4, a5⟩ := got_matsB g3 (by omega)
  obtain ⟨k4, rfl, _⟩ := got_int Tryz.underlying2 g4
  obtain ⟨k5, rfl, _⟩ := got_int Tryz.underlying2 g5
  obtain ⟨k6, rfl, _⟩ := got_int Tryz.underlying3 g6
  obtain ⟨An, cn, nn, rfl, b1, b2, b3, b4⟩ := got_textsB g7
  obtain ⟨bb, rfl⟩ := got_bool Tryz.underlying4 g8
  obtain ⟨k9, rfl, _⟩ := got_int Tryz.underlying3 g9
  have hnl := sumT_len nn
  have hjn := joinT_sum nn
  have hnp : ∀ s ∈ nn, s.size ≤ 1048576 := fun s hs => by have := sumT_part hs; omega
  refine ⟨⟨k0, k1, s, mm, k4, k5, k6, nn, bb, k9⟩, ⟨Am, cm, An, cn, ?_, a4, b3, a1, a2, b1, b2⟩, ⟨(show mm.length * 40 ≤ 140737488355328 by omega), (show nn.length * 16 ≤ 140737488355328 by omega)⟩,
    ⟨fun s hs => by have := hnp s hs; unfold maxLen; omega, (show nn.length ≤ maxLen by unfold maxLen; omega), (show mm.length ≤ maxLen by unfold maxLen; omega), fun m hm => by have := a5 m hm; unfold maxLen; omega, (show s.size ≤ 140737488355328 by omega)⟩, (show (joinT nn).size ≤ 1000000000000 by omega), (show nn.length ≤ 1000000000000 by omega)⟩
  match cs, hl with
  | [x0, x1, x2, x3, x4, x5, x6, x7, x8, x9], _ =>
    simp at h0 h1 h2 h3 h4 h5 h6 h7 h8 h9
    subst h0 h1 h2 h3 h4 h5 h6 h7 h8 h9
    rfl
theorem nods_chooseB {es : List (List Value)} : (∀ x ∈ es, ∃ s : Nod, NodAt w w.heap.size x s ∧ okInB s) → ∃ ss : List Nod, es.length = ss.length ∧ (∀ (k : Nat) (s : Nod), ss[k]? = some s → ∃ x, es[k]? = some x ∧ NodAt w w.heap.size x s) ∧ ∀ s ∈ ss, okInB s := by
  induction es with
  | nil => intro _; exact ⟨[], rfl, by simp, by simp⟩
  | cons x r ih =>
    intro h
    obtain ⟨s, hs, ok⟩ := h x (by simp)
    obtain ⟨ss, h1, h2, h3⟩ := ih (fun y hy => h y (by simp [hy]))
    refine ⟨s :: ss, by simp [h1], fun k q hq => ?_, fun q hq => ?_⟩
    · cases k with
      | zero => simp at hq; subst hq; exact ⟨x, rfl, hs⟩
      | succ k => simpa using h2 k q (by simpa using hq)
    · rcases List.mem_cons.1 hq with rfl | hq
      · exact ok
      · exact h3 q hq
theorem got_nodsB {v : Value} {d : DataW H} (h : Got enc Tryz.prog w 22 [v] d) (hk : Rows.uptoBulk d ≤ 1048576) :
    ∃ A c, ∃ ss : List Nod, v = .slice A ss.length c ∧ ss.length * 120 ≤ 140737488355328 ∧ RdNods w w.heap.size A ss ∧ ∀ s ∈ ss, okInB s := by
  obtain ⟨A, n, c, es, hv, h1, h2, h4, h5, ds, hdl, hbk, h6⟩ := got_sliceB Tryz.underlying22 (by kernel_rfl : _ = 10) (by omega) h
  have hled : es.length = ds.length := by rw [h4, hdl]
  have hlen := bulk_len ds
  obtain ⟨ss, g1, g2, g3⟩ := nods_chooseB (w := w) (fun x hx => by
    obtain ⟨i, hi, e⟩ := List.getElem_of_mem hx
    have g := h6 i x (ds[i]'(hled ▸ hi)) (by rw [List.getElem?_eq_getElem hi, e]) (List.getElem?_eq_getElem (hled ▸ hi))
    have hp := bulk_part (List.getElem_mem (hled ▸ hi : i < ds.length))
    exact got_nodB g (by omega))
  obtain rfl : ss.length = n := by omega
  exact ⟨A, c, ss, by simpa using hv, by omega, ⟨es, h5, g1, g2⟩, g3⟩
end
/-- Each argument reads as its datum. -/
def GotAllB {H : Type} (enc : TypeId × Value → H) (P : Program) (w : World) : List TypeId → List Value → List (DataW H) → Prop
  | [], [], [] => True
  | t :: ts, v :: vs, d :: ds => (Got enc P w t v.cells.toList d ∧ ∃ base, Value.okWide P w .any base t v) ∧ GotAllB enc P w ts vs ds
  | _, _, _ => False
section
variable {H : Type} {enc : TypeId × Value → H}
theorem gotAllB_of {P : Program} {w : World} {base : Nat} : ∀ {ts : List TypeId} {vs : List Value} {ds : List (DataW H)} {ps : List MemPlace}, DataW.TrodAll enc P w 0 (fun _ => true) true ts vs ds ps →
    (∀ (j : Nat) t v, ts[j]? = some t → vs[j]? = some v → Value.okWide P w .any base t v) → GotAllB enc P w ts vs ds ∧ ds.length = ts.length
  | [], [], [], _, _, _ => ⟨trivial, rfl⟩
  | t :: ts, v :: vs, d :: ds, _, ⟨p, q, h1, h2, _⟩, hv => by
    have ih := gotAllB_of h2 (fun j t v ht hv' => hv (j + 1) t v (by simpa using ht) (by simpa using hv'))
    exact ⟨⟨⟨got_of h1, base, hv 0 t v rfl rfl⟩, ih.1⟩, by simp [ih.2]⟩
theorem gotAllB_cons {P : Program} {w : World} {t : TypeId} {ts : List TypeId} : ∀ {vs : List Value} {ds : List (DataW H)}, GotAllB enc P w (t :: ts) vs ds → ∃ v vs' d ds', vs = v :: vs' ∧ ds = d :: ds' ∧ (Got enc P w t v.cells.toList d ∧ ∃ base, Value.okWide P w .any base t v) ∧ GotAllB enc P w ts vs' ds'
  | v :: vs, d :: ds, h => ⟨v, vs, d, ds, rfl, rfl, h.1, h.2⟩
theorem gotAllB_nil {P : Program} {w : World} : ∀ {vs : List Value} {ds : List (DataW H)}, GotAllB enc P w [] vs ds → vs = [] ∧ ds = []
  | [], [], _ => ⟨rfl, rfl⟩
theorem law_liftedUC {C : Checked} {os : Os} {f : FuncId} {fn : Func} {s : ChangeSpec} {conds : List PathCond} {apart fresh handsOn again : Bool} {tb : TypeId} {F : Stop.Interp} {laid : List (String × DataW Unit)}
    (own : ownKnob C.prog.godebug = none) (started : os.Started) (noInit : C.prog.inits.idxOf? f = none) (hfn : C.prog.funcs[f]? = some fn)
    (witness : ∃ (w : World) (tape : Tape) (i : Input), w.os = os ∧ (w.forCall tape i).Shaped C.prog ∧ i.vars = [] ∧ Input.okWide C.prog (w.forCall tape i) .any w.heap.size f i ∧
      (Rows.OpenSpec.upto s).preRow enc C.prog fn conds apart laid (w.forCall tape i).memory i.args ∧ ({} : Assume).holds C.prog (lone (Frame.enter C.prog f i.args .normal) [] (w.forCall tape i)))
    (hl : laidOutB C.prog = true) (hpar : ∀ t ∈ fn.params.toList, C.prog.readableRec t = true ∧ t < C.prog.types.size) (hvars : s.vars = []) (hr : fn.resultTypes = #[tb]) (hbool : C.prog.underlying tb = some .bool)
    (hs : ∀ ds : List (DataW H), ds.length = fn.params.toList.length → s.fn H (ds ++ []) = { results := [.lit (.bool true)], args := ds })
    (contract : ∀ (W : World) (args : Array Value) (ds : List (DataW H)), laidMetH C.prog laid W → GotAllB enc C.prog W fn.params.toList args.toList ds → Rows.uptoBulkAll ds ≤ 1048576 → Calls C.prog f args W fun e W' => e = .returned (.bool true) ∧ Below W.heap.size W W') :
    ReturnsInHanded {} C os f .any ((Rows.OpenSpec.upto s).preRow enc C.prog fn conds apart laid) (((Rows.OpenSpec.upto s).at F).post enc C.prog fn apart fresh handsOn again) := by
  refine returnsInHanded_of_row (s := Rows.OpenSpec.upto s) own started noInit hfn witness ?_
  intro W base args ds gs before hval hW _ hcond _ hL _ _
  have hW' := hW
  obtain ⟨p, q, hA, hV, rfl, hfz, hnd⟩ := hW
  have hV' : DataW.TrodVars enc C.prog W (fun _ => true) s.vars gs q := hV
  rw [hvars] at hV'
  obtain ⟨rfl, rfl⟩ := trodVars_none hV'
  have hk := hcond Rows.uptoSmall rfl
  have hb : Rows.uptoBulkAll (ds ++ []) ≤ 1048576 := of_decide_eq_true hk
  rw [List.append_nil] at hb
  have hg := gotAllB_of (base := base) hA (fun j t v ht hv => hval j t v (by rw [← Array.getElem?_toList]; exact ht) (by rw [← Array.getElem?_toList]; exact hv))
  refine (contract W args ds hL hg.1 hb).mono fun e W' ⟨he, hw⟩ => ?_
  subst he
  exact ⟨_, rfl, law_post (s := s) hl hpar hvars hW' hr hbool (hs ds hg.2) hw⟩
end
end Go.Proofs.YtakfnojiaakfpaaGreatDoor
