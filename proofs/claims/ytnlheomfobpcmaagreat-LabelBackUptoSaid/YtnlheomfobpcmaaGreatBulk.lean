/- What the bound of an 'upto' statement gives: label sets and bytes, with the sum of their sizes. -/
import Derived.Test.YtnlheomfobpcmaaGreatOpen2
import Derived.Test.YtnlheomfobpcmaaGreatCheckE
import Derived.JoinedCond
namespace Go.Proofs.YtnlheomfobpcmaaGreat
open Go.ChangeShapes Go.WideShapes Go.RowKit Go.Deep

section
variable {H : Type} {enc : TypeId × Value → H} {P : Program} {w : World}
theorem bulk_one (d : DataW H) : 1 ≤ Rows.uptoBulk d := by
  cases d with
  | lit l => cases l <;> simp [Rows.uptoBulk]
  | nil => simp [Rows.uptoBulk]
  | ptr d => simp [Rows.uptoBulk]
  | slice elems spare => simp [Rows.uptoBulk]
  | agg parts => simp [Rows.uptoBulk]
  | iface t d => simp [Rows.uptoBulk]
  | map entries => simp [Rows.uptoBulk]
  | held h => simp [Rows.uptoBulk]
theorem bulk_len : ∀ (l : List (DataW H)), l.length ≤ Rows.uptoBulkAll l
  | [] => Nat.le_refl _
  | d :: r => by have h1 := bulk_one d; have h2 := bulk_len r; simp only [Rows.uptoBulkAll, List.length_cons]; omega
theorem bulk_part {d : DataW H} : ∀ {l : List (DataW H)}, d ∈ l → Rows.uptoBulk d ≤ Rows.uptoBulkAll l
  | x :: r, h => by
    simp only [Rows.uptoBulkAll]
    rcases List.mem_cons.1 h with rfl | h
    · omega
    · have := bulk_part h; omega
theorem got_sliceB {t e : TypeId} {sz : Nat} {cs : List Value} {d : DataW H} (ht : P.underlying t = some (.slice e)) (hC : P.cellsOf e = sz) (hsz : 0 < sz) (h : Got enc P w t cs d) :
    ∃ A n c, ∃ es : List (List Value), cs = [.slice A n c] ∧ n ≤ c ∧ c ≤ maxLen ∧ es.length = n ∧ Rd w w.heap.size sz A es ∧ ∃ ds : List (DataW H), ds.length = n ∧ Rows.uptoBulkAll ds + 1 ≤ Rows.uptoBulk d ∧ ∀ (i : Nat) (x : List Value) (d' : DataW H), es[i]? = some x → ds[i]? = some d' → Got enc P w e x d' := by
  obtain ⟨fuel, ps, hg⟩ := h
  rcases open_slice ht hg with ⟨rfl, hx⟩ | ⟨a, len, cap, m, n, D, Pl, rfl, hb, hl, hm, hmm, hx, hi⟩
  · exact ⟨none, 0, 0, [], rfl, Nat.le_refl _, by simp [maxLen], rfl, Rd.nil_, [], rfl, by have := bulk_one d; simp only [Rows.uptoBulkAll]; omega, by simp⟩
  · injection hx with hx _
    subst hx
    simp only [if_true] at hmm
    subst hmm
    have key : ∀ i, i < len → ∃ cs', cs'.length = sz ∧ (∀ j, j < sz → w.cell? ((a.add (i * sz)).add j) = cs'[j]?) ∧ Got enc P w e cs' (D i) := by
      intro i hil
      obtain ⟨cs', hc, htr⟩ := hi i (by omega)
      rw [hC] at hc
      obtain ⟨_, hcl, hat⟩ := World.cells?_some hc
      exact ⟨cs', hcl, hat, n, _, htr⟩
    obtain ⟨F, hF⟩ : ∃ F : Nat → List Value, ∀ i, i < len → (F i).length = sz ∧ (∀ j, j < sz → w.cell? ((a.add (i * sz)).add j) = (F i)[j]?) ∧ Got enc P w e (F i) (D i) := by
      refine ⟨fun i => if h : i < len then (key i h).choose else [], fun i hil => ?_⟩
      simp only [hil, dif_pos]
      exact (key i hil).choose_spec
    refine ⟨some a, len, m, (List.range len).map F, rfl, hl, hm, by simp, ⟨?_, ?_⟩, (List.range len).map D, by simp, by simp only [Rows.uptoBulk]; omega, ?_⟩
    · intro x hx
      obtain ⟨i, hi2, rfl⟩ := List.mem_map.1 hx
      exact (hF i (List.mem_range.1 hi2)).1
    · intro hne
      have h0 : 0 < len := by
        rcases Nat.eq_zero_or_pos len with h0 | h0
        · subst h0; simp at hne
        · exact h0
      have hc0 := (hF 0 h0).2.1 0 hsz
      have hsp : a.spot = none := by
        have hsome : ∃ v, (F 0)[0]? = some v := ⟨_, List.getElem?_eq_getElem (by rw [(hF 0 h0).1]; exact hsz)⟩
        obtain ⟨v, hv⟩ := hsome
        rw [hv] at hc0
        simp only [Nat.zero_mul] at hc0
        have hadd : (a.add 0).add 0 = a := by simp [Addr.add]
        rw [hadd] at hc0
        cases hs : a.spot with
        | none => rfl
        | some q =>
          unfold World.cell? at hc0
          split at hc0
          · simp [hs] at hc0
          · cases hc0
      obtain ⟨b, o, sp⟩ := a
      simp only at hsp
      subst hsp
      refine ⟨b, o, rfl, ?_, ?_⟩
      · obtain ⟨v, hv⟩ : ∃ v, (F 0)[0]? = some v := ⟨_, List.getElem?_eq_getElem (by rw [(hF 0 h0).1]; exact hsz)⟩
        rw [hv] at hc0
        have := World.block_lt_of_cell? w _ hc0
        rw [add_none, add_none] at this
        exact this
      · intro k x j v hx hv
        have hk : k < len := by have := (List.getElem?_eq_some_iff.1 hx).1; simpa using this
        rw [List.getElem?_map, List.getElem?_range hk] at hx
        simp at hx
        subst hx
        have hj : j < sz := by rw [← (hF k hk).1]; exact (List.getElem?_eq_some_iff.1 hv).1
        have := (hF k hk).2.1 j hj
        rw [add_none, add_none, hv] at this
        exact this
    · intro i x d' hx hd
      have hil : i < len := by have := (List.getElem?_eq_some_iff.1 hx).1; simpa using this
      rw [List.getElem?_map, List.getElem?_range hil] at hx hd
      simp at hx hd
      subst hx hd
      exact (hF i hil).2.2
theorem got_fieldsB {t : TypeId} {fs : Array Field} {cs : List Value} {d : DataW H} (ht : P.underlying t = some (.struct fs)) (hone : oneCellFields P fs = true) (hC : P.cellsOf t = fs.size) (h : Got enc P w t cs d) :
    cs.length = fs.size ∧ ∃ ds : List (DataW H), ds.length = fs.size ∧ Rows.uptoBulkAll ds + 1 ≤ Rows.uptoBulk d ∧ ∀ (j : Nat) (f : Field), fs[j]? = some f → ∃ v d', cs[j]? = some v ∧ ds[j]? = some d' ∧ Got enc P w f.type [v] d' := by
  obtain ⟨fuel, ps, hg⟩ := h
  obtain ⟨xs, n, _, hx, hlen, hxl, hat⟩ := DataW.trod_struct ht hg
  injection hx with hx _
  subst hx
  rw [hC] at hlen
  refine ⟨hlen, xs.map (·.1), by rw [List.length_map, hxl], by simp only [Rows.uptoBulk]; omega, fun j f hj => ?_⟩
  have hjl : j < fs.size := (Array.getElem?_eq_some_iff.1 hj).1
  obtain ⟨ho, hk⟩ := hone_of hone j f hj
  have h1 := hat j f hj
  have hv : cs[j]? = some (cs[j]'(by omega)) := List.getElem?_eq_getElem (by omega)
  have hys : xs[j]? = some (xs[j]'(by omega)) := List.getElem?_eq_getElem (by omega)
  rw [ho, hk] at h1
  have e1 : (cs.drop j).take 1 = [cs[j]'(by omega)] := by
    rw [List.drop_eq_getElem_cons (by omega)]
    rfl
  rw [e1, hys] at h1
  exact ⟨_, _, hv, by rw [List.getElem?_map, hys]; rfl, ⟨n, _, h1⟩⟩
end
section
variable {H : Type} {enc : TypeId × Value → H} {w : World}
theorem got_strB {t : TypeId} {v : Value} {d : DataW H} (ht : Tryz.prog.underlying t = some .string) (h : Got enc Tryz.prog w t [v] d) : ∃ s : ByteArray, v = .string s ∧ s.size ≤ maxLen ∧ s.size + 1 ≤ Rows.uptoBulk d := by
  obtain ⟨fuel, ps, hg⟩ := h
  obtain ⟨s, hs, hd, hm⟩ := DataW.trod_string ht hg
  simp only [Prod.mk.injEq] at hd
  refine ⟨s, by simpa using hs, hm, ?_⟩
  rw [hd.1]
  simp only [Rows.uptoBulk]
  rw [Lib.size_eq]
  exact Nat.le_refl _
/-- The sizes of a set's texts. -/
def sumL (ls : List Lab) : Nat := (ls.map fun l => l.1.size + l.2.size + 1).sum
theorem got_labB {cs : List Value} {d : DataW H} (h : Got enc Tryz.prog w 51 cs d) : ∃ l : Lab, cs = labC l ∧ (l.1.size ≤ maxLen ∧ l.2.size ≤ maxLen) ∧ l.1.size + l.2.size + 1 ≤ Rows.uptoBulk d := by
  obtain ⟨hl, ds, hdl, hbk, hat⟩ := got_fieldsB Tryz.underlying51 (by kernel_rfl) (by kernel_rfl) h
  obtain ⟨v0, d0, h0, e0, g0⟩ := hat 0 _ rfl
  obtain ⟨v1, d1, h1, e1, g1⟩ := hat 1 _ rfl
  obtain ⟨s0, rfl, m0, b0⟩ := got_strB Tryz.underlying9 g0
  obtain ⟨s1, rfl, m1, b1⟩ := got_strB Tryz.underlying9 g1
  match cs, hl, ds, hdl with
  | [a, b], _, [x, y], _ =>
    simp at h0 h1 e0 e1
    subst h0 h1 e0 e1
    simp only [Rows.uptoBulkAll] at hbk
    exact ⟨(s0, s1), rfl, ⟨m0, m1⟩, by show s0.size + s1.size + 1 ≤ _; omega⟩
theorem pick_labs : ∀ (es : List (List Value)) (ds : List (DataW H)), es.length = ds.length → (∀ (i : Nat) (x : List Value) (d' : DataW H), es[i]? = some x → ds[i]? = some d' → Got enc Tryz.prog w 51 x d') → ∃ ls : List Lab, es = labsC ls ∧ okLabs ls ∧ sumL ls ≤ Rows.uptoBulkAll ds
  | [], [], _, _ => ⟨[], rfl, (by intro l hl; cases hl), by simp [sumL]⟩
  | x :: es, d :: ds, hl, h => by
    obtain ⟨l, hc, ho, hb⟩ := got_labB (h 0 x d rfl rfl)
    obtain ⟨ls, e, hok, hs⟩ := pick_labs es ds (by simpa using hl) (fun i y d' hy hd => h (i + 1) y d' (by simpa using hy) (by simpa using hd))
    refine ⟨l :: ls, by rw [hc, e]; rfl, ?_, ?_⟩
    · intro m hm
      rcases List.mem_cons.1 hm with rfl | hm
      · exact ho
      · exact hok m hm
    · simp only [Rows.uptoBulkAll, sumL, List.map_cons, List.sum_cons] at hs ⊢
      omega
theorem got_labsB {v : Value} {d : DataW H} (h : Got enc Tryz.prog w 22 [v] d) :
    ∃ A c, ∃ ls : List Lab, v = .slice A ls.length c ∧ ls.length ≤ c ∧ c ≤ maxLen ∧ Rd w w.heap.size 2 A (labsC ls) ∧ okLabs ls ∧ sumL ls + 1 ≤ Rows.uptoBulk d := by
  obtain ⟨A, n, c, es, hv, h1, h2, h4, h5, ds, hdl, hbk, h6⟩ := got_sliceB Tryz.underlying22 (by kernel_rfl : _ = 2) (by omega) h
  obtain ⟨ls, rfl, hok, hs⟩ := pick_labs es ds (by omega) h6
  obtain rfl : ls.length = n := by simpa [labsC] using h4
  exact ⟨A, c, ls, by simpa using hv, h1, h2, h5, hok, by omega⟩
theorem got_bytesB {v : Value} {d : DataW H} (h : Got enc Tryz.prog w 26 [v] d) :
    ∃ A c, ∃ l : List UInt8, v = .slice A l.length c ∧ l.length ≤ c ∧ c ≤ maxLen ∧ Rd w w.heap.size 1 A (bytesC l) ∧ l.length + 1 ≤ Rows.uptoBulk d := by
  obtain ⟨A, n, c, es, hv, h1, h2, h4, h5, ds, hdl, hbk, h6⟩ := got_sliceB Tryz.underlying26 (by kernel_rfl : _ = 1) (by omega) h
  have hled : es.length = ds.length := by rw [h4, hdl]
  obtain ⟨l, rfl, _⟩ := list_choose (f := fun c : UInt8 => [Value.int .u8 (c.toNat : Int)]) (p := fun _ => True) (fun x hx => by
    obtain ⟨i, hi, e⟩ := List.getElem_of_mem hx
    have g := h6 i x (ds[i]'(hled ▸ hi)) (by rw [List.getElem?_eq_getElem hi, e]) (List.getElem?_eq_getElem (hled ▸ hi))
    have hl := h5.1 x hx
    match x, hl, g with
    | [u], _, g =>
      obtain ⟨q, rfl, hw⟩ := got_int Tryz.underlying5 g
      have := u8_wf hw
      refine ⟨UInt8.ofNat q.toNat, ?_, trivial⟩
      rw [UInt8.toNat_ofNat']
      congr 2; omega)
  obtain rfl : l.length = n := by simpa using h4
  have := bulk_len ds
  exact ⟨A, c, l, by simpa using hv, h1, h2, h5, by omega⟩
end
/-- Each argument reads as its datum. -/
def GotAllB {H : Type} (enc : TypeId × Value → H) (P : Program) (w : World) : List TypeId → List Value → List (DataW H) → Prop
  | [], [], [] => True
  | t :: ts, v :: vs, d :: ds => (Got enc P w t v.cells.toList d ∧ ∃ base, Value.okWide P w .any base t v) ∧ GotAllB enc P w ts vs ds
  | _, _, _ => False
section
variable {H : Type} {enc : TypeId × Value → H}
theorem gotAllB_of {P : Program} {w : World} {base : Nat} : ∀ {ts : List TypeId} {vs : List Value} {ds : List (DataW H)} {ps : List MemPlace}, DataW.TrodAll enc P w 0 (fun _ => true) true ts vs ds ps →
    (∀ (j : Nat) t v, ts[j]? = some t → vs[j]? = some v → Value.okWide P w .any base t v) → GotAllB enc P w ts vs ds ∧ ds.length = ts.length
  | [], [], [], _, _, _ => ⟨trivial, rfl⟩
  | t :: ts, v :: vs, d :: ds, _, ⟨p, q, h1, h2, _⟩, hv => by
    have ih := gotAllB_of h2 (fun j t v ht hv' => hv (j + 1) t v (by simpa using ht) (by simpa using hv'))
    exact ⟨⟨⟨got_of h1, base, hv 0 t v rfl rfl⟩, ih.1⟩, by simp [ih.2]⟩
theorem gotAllB_cons {P : Program} {w : World} {t : TypeId} {ts : List TypeId} : ∀ {vs : List Value} {ds : List (DataW H)}, GotAllB enc P w (t :: ts) vs ds → ∃ v vs' d ds', vs = v :: vs' ∧ ds = d :: ds' ∧ (Got enc P w t v.cells.toList d ∧ ∃ base, Value.okWide P w .any base t v) ∧ GotAllB enc P w ts vs' ds'
  | v :: vs, d :: ds, h => ⟨v, vs, d, ds, rfl, rfl, h.1, h.2⟩
theorem gotAllB_nil {P : Program} {w : World} : ∀ {vs : List Value} {ds : List (DataW H)}, GotAllB enc P w [] vs ds → vs = [] ∧ ds = []
  | [], [], _ => ⟨rfl, rfl⟩
theorem law_liftedU {C : Checked} {os : Os} {f : FuncId} {fn : Func} {s : ChangeSpec} {conds : List PathCond} {apart fresh handsOn again : Bool} {tb : TypeId} {F : Stop.Interp}
    (own : ownKnob C.prog.godebug = none) (started : os.Started) (noInit : C.prog.inits.idxOf? f = none) (hfn : C.prog.funcs[f]? = some fn)
    (witness : ∃ (w : World) (tape : Tape) (i : Input), w.os = os ∧ (w.forCall tape i).Shaped C.prog ∧ i.vars = [] ∧ Input.okWide C.prog (w.forCall tape i) .any w.heap.size f i ∧
      (Rows.OpenSpec.upto s).pre6 enc C.prog fn conds apart (w.forCall tape i).memory i.args ∧ ({} : Assume).holds C.prog (lone (Frame.enter C.prog f i.args .normal) [] (w.forCall tape i)))
    (hl : laidOutB C.prog = true) (hpar : ∀ t ∈ fn.params.toList, C.prog.readableRec t = true ∧ t < C.prog.types.size) (hvars : s.vars = []) (hr : fn.resultTypes = #[tb]) (hbool : C.prog.underlying tb = some .bool)
    (hs : ∀ ds : List (DataW H), ds.length = fn.params.toList.length → s.fn H (ds ++ []) = { results := [.lit (.bool true)], args := ds })
    (contract : ∀ (W : World) (args : Array Value) (ds : List (DataW H)), GotAllB enc C.prog W fn.params.toList args.toList ds → Rows.uptoBulkAll ds ≤ 1048576 → Calls C.prog f args W fun e W' => e = .returned (.bool true) ∧ Below W.heap.size W W') :
    ReturnsInHanded {} C os f .any ((Rows.OpenSpec.upto s).pre6 enc C.prog fn conds apart) (((Rows.OpenSpec.upto s).at F).post enc C.prog fn apart fresh handsOn again) := by
  refine returnsInHanded_of_cond (s := Rows.OpenSpec.upto s) (k := Rows.uptoSmall) rfl own started noInit hfn witness ?_
  intro W base args ds gs before hval hW hcnd hk _
  have hW' := hW
  obtain ⟨p, q, hA, hV, rfl, hfz, hnd⟩ := hW
  have hV' : DataW.TrodVars enc C.prog W (fun _ => true) s.vars gs q := hV
  rw [hvars] at hV'
  obtain ⟨rfl, rfl⟩ := trodVars_none hV'
  have hb : Rows.uptoBulkAll (ds ++ []) ≤ 1048576 := of_decide_eq_true hk
  rw [List.append_nil] at hb
  have hg := gotAllB_of (base := base) hA (fun j t v ht hv => hval j t v (by rw [← Array.getElem?_toList]; exact ht) (by rw [← Array.getElem?_toList]; exact hv))
  refine (contract W args ds hg.1 hb).mono fun e W' ⟨he, hw⟩ => ?_
  subst he
  exact ⟨_, rfl, law_post (s := s) hl hpar hvars hW' hr hbool (hs ds hg.2) hw⟩
end
end Go.Proofs.YtnlheomfobpcmaaGreat
