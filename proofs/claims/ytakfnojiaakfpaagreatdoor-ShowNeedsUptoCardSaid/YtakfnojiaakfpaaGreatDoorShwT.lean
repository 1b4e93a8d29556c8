/- What the row's list of variables gives: the table of the powers of ten. -/
import Derived.Test.YtakfnojiaakfpaaGreatDoorLexSpec
import Derived.ProofKit
import Derived.SizedLaws
import Derived.WideKeyArgs
import Derived.Deep.Slices
import Derived.Deep.Fields
import Derived.ChangeSame
import Derived.Test.YtakfnojiaakfpaaGreatDoorRows
import Derived.Test.YtakfnojiaakfpaaGreatDoorNodS
import Derived.LaidMore
import Derived.OpenShut
import Derived.Stop.LaidErr
import Derived.Stop.Joined
import Derived.Lib.LaidTab
import Derived.Test.YtakfnojiaakfpaaGreatDoorShwC
import Derived.Test.YtakfnojiaakfpaaGreatDoorCards
namespace Go.Proofs.YtakfnojiaakfpaaGreatDoor
section
/-! ## Frame -/
open Go.ChangeShapes Go.WideShapes Go.ChangeAt Go.RowKit

theorem u64_wf {v : Int} (h : (Lit.int .u64 v).wf = true) : 0 ≤ v ∧ v < 18446744073709551616 := by
  have h2 : IntKind.u64.min ≤ v ∧ v ≤ IntKind.u64.max := by simpa [Lit.wf] using h
  have e1 : IntKind.u64.min = 0 := by decide +kernel
  have e2 : IntKind.u64.max = 18446744073709551615 := by decide +kernel
  omega
theorem i64_wf {v : Int} (h : (Lit.int .i64 v).wf = true) : -9223372036854775808 ≤ v ∧ v < 9223372036854775808 := by
  have h2 : IntKind.i64.min ≤ v ∧ v ≤ IntKind.i64.max := by simpa [Lit.wf] using h
  have e1 : IntKind.i64.min = -9223372036854775808 := by decide +kernel
  have e2 : IntKind.i64.max = 9223372036854775807 := by decide +kernel
  omega
section
variable {H : Type} {enc : TypeId × Value → H} {P : Program}
theorem trodAll_stays (hl : laidOutB P = true) {W W' : World} (hb : Below W.heap.size W W') {sp : Nat → Bool} : ∀ {ts : List TypeId} {vs : List Value} {ds : List (DataW H)} {ps : List MemPlace}, (∀ t ∈ ts, P.readableRec t = true ∧ t < P.types.size) →
    DataW.TrodAll enc P W 0 (fun _ => true) true ts vs ds ps → (∀ p ∈ ps, p.block < W.heap.size) → (∀ p ∈ ps, sp p.block = true) → DataW.TrodAll enc P W' 0 sp true ts vs ds ps
  | [], [], [], _, _, h, _, _ => h
  | _ :: _, _ :: _, _ :: _, _, hT, ⟨p, q, h1, h2, e⟩, hlt, hs =>
    ⟨p, q, WideElems.Trod_stays hl (hT _ (List.mem_cons.2 (Or.inl rfl))).1 (hT _ (List.mem_cons.2 (Or.inl rfl))).2 h1 (fun x hx => hb.same (hlt x (by rw [e]; exact List.mem_append_left _ hx))) (fun x hx => hs x (by rw [e]; exact List.mem_append_left _ hx)),
      trodAll_stays hl hb (fun t ht => hT t (List.mem_cons.2 (Or.inr ht))) h2 (fun x hx => hlt x (by rw [e]; exact List.mem_append_right _ hx)) (fun x hx => hs x (by rw [e]; exact List.mem_append_right _ hx)), e⟩
theorem law_post {f : Func} {s : ChangeSpec} {apart fresh handsOn again : Bool} {W W' : World} {args : Array Value} {ds : List (DataW H)} {before : List MemPlace} {tb : TypeId} (hl : laidOutB P = true)
    (hpar : ∀ t ∈ f.params.toList, P.readableRec t = true ∧ t < P.types.size) (hvars : s.vars = [])
    (hW : DataW.Whole enc P f.params.toList s.vars apart W args.toList ds [] before) (hr : f.resultTypes = #[tb]) (hbool : P.underlying tb = some .bool)
    (hs : s.fn H (ds ++ []) = { results := [.lit (.bool true)], args := ds }) (hb : Below W.heap.size W W') : s.post enc P f apart fresh handsOn again W args (.bool true) W' := by
  have hlt : ∀ p ∈ before, p.block < W.heap.size := fun p hp => hW.lt p hp
  have hold : ∀ p ∈ before, (fun b => decide (b < W.heap.size)) p.block = true := fun p hp => by simpa using hlt p hp
  obtain ⟨p, q, hA, hV, hpq, hz, hn⟩ := id hW
  rw [hvars] at hV
  obtain ⟨_, rfl⟩ := trodVars_none hV
  rw [List.append_nil] at hpq
  subst hpq
  have hres : ∀ (b : Nat) (sp : Nat → Bool) (hd : Bool), DataW.TrodAll enc P W' b sp hd f.resultTypes.toList ((Value.bool true).resultList f.resultTypes.size) (s.fn H (ds ++ [])).results [] := by
    intro b sp hd
    rw [hs, hr]
    exact trodAll_mk1 (shut_bool hbool true)
  have hargs : ∀ sp : Nat → Bool, (∀ p ∈ before, sp p.block = true) → DataW.TrodAll enc P W' 0 sp true f.params.toList args.toList (s.fn H (ds ++ [])).args before := by
    intro sp hsp
    rw [hs]
    exact trodAll_stays hl hb hpar hA hlt hsp
  have hvs : ∀ sp : Nat → Bool, DataW.TrodVars enc P W' sp s.vars (s.fn H (ds ++ [])).vars [] := by
    intro sp
    rw [hs, hvars]
    rfl
  refine ⟨ds, [], before, [], before, [], hW, hres _ _ _, hargs _ hold, hvs _, World.keptBut_mono (fun p hp => ⟨hp, .inr (.inl hp)⟩) (hb.frame (· ∈ before)), fun _ => ?_⟩
  refine ⟨ok_one hr rfl (okWide_bool_mk hbool true), _, _, ([] ++ before) ++ [], ⟨[] ++ before, [], trodAll_append (hargs _ (fun _ _ => rfl)) (hres _ _ _), hvs _, rfl, ?_, ?_⟩, ?_⟩
  · intro b off hp
    have hin : MemPlace.cell b off ∈ before := by simpa using hp
    rw [hb.frozen (hlt _ hin)]
    exact hz b off hin
  · intro ha
    simpa using hn ha
  · intro p hp _
    simpa using hp
end
end
section
/-! ## Open -/
open Go.ChangeShapes Go.WideShapes Go.RowKit Go.Deep

/-- The cells read as the datum, spare places too. -/
def Got {H : Type} (enc : TypeId × Value → H) (P : Program) (w : World) (t : TypeId) (cs : List Value) (d : DataW H) : Prop :=
  ∃ fuel ps, DataW.trod enc P w 0 (fun _ => true) true fuel t cs = some (d, ps)
/-- Within the form's reach. -/
def Fits {H : Type} (P : Program) (t : TypeId) (d : DataW H) : Prop := ∀ n ∈ d.weights P t, n ≤ reachBytes

section
variable {H : Type} {enc : TypeId × Value → H} {P : Program} {w : World}
theorem mem_weightsAll {e : TypeId} : ∀ {l : List (DataW H)} {d : DataW H}, d ∈ l → ∀ n ∈ d.weights P e, n ∈ DataW.weightsAll P e l
  | x :: r, d, h, n, hn => by
    simp only [DataW.weightsAll, List.mem_append]
    rcases List.mem_cons.1 h with rfl | h
    · exact .inl hn
    · exact .inr (mem_weightsAll h n hn)
theorem got_slice {t e : TypeId} {sz by_ : Nat} {cs : List Value} {d : DataW H} (ht : P.underlying t = some (.slice e)) (hC : P.cellsOf e = sz) (hby : P.bytesOf e = by_) (hsz : 0 < sz) (h : Got enc P w t cs d) (hf : Fits P t d) :
    ∃ A n c, ∃ es : List (List Value), cs = [.slice A n c] ∧ n ≤ c ∧ c ≤ maxLen ∧ n * by_ ≤ reachBytes ∧ es.length = n ∧ Rd w w.heap.size sz A es ∧ ∀ x ∈ es, ∃ d', Got enc P w e x d' ∧ Fits P e d' := by
  obtain ⟨fuel, ps, hg⟩ := h
  rcases open_slice ht hg with ⟨rfl, hx⟩ | ⟨a, len, cap, m, n, D, Pl, rfl, hb, hl, hm, hmm, hx, hi⟩
  · exact ⟨none, 0, 0, [], rfl, Nat.le_refl _, by simp [maxLen], by simp, rfl, Rd.nil_, by simp⟩
  · injection hx with hx _
    subst hx
    simp only [if_true] at hmm
    subst hmm
    have hlen : ((List.range len).map D).length = len := by simp
    have hw : ((List.range len).map D).length * by_ ≤ reachBytes := by
      have := hf ((((List.range len).map D).length + ((List.range (m - len)).map fun j => D (len + j)).length) * P.bytesOf e) (by simp only [DataW.weights, ht]; simp)
      rw [hby] at this
      exact Nat.le_trans (Nat.mul_le_mul_right _ (Nat.le_add_right _ _)) this
    rw [hlen] at hw
    have key : ∀ i, i < len → ∃ cs', cs'.length = sz ∧ (∀ j, j < sz → w.cell? ((a.add (i * sz)).add j) = cs'[j]?) ∧ Got enc P w e cs' (D i) := by
      intro i hil
      obtain ⟨cs', hc, htr⟩ := hi i (by omega)
      rw [hC] at hc
      obtain ⟨_, hcl, hat⟩ := World.cells?_some hc
      exact ⟨cs', hcl, hat, n, _, htr⟩
    obtain ⟨F, hF⟩ : ∃ F : Nat → List Value, ∀ i, i < len → (F i).length = sz ∧ (∀ j, j < sz → w.cell? ((a.add (i * sz)).add j) = (F i)[j]?) ∧ Got enc P w e (F i) (D i) := by
      refine ⟨fun i => if h : i < len then (key i h).choose else [], fun i hil => ?_⟩
      simp only [hil, dif_pos]
      exact (key i hil).choose_spec
    refine ⟨some a, len, m, (List.range len).map F, rfl, hl, hm, hw, by simp, ⟨?_, ?_⟩, ?_⟩
    · intro x hx
      obtain ⟨i, hi2, rfl⟩ := List.mem_map.1 hx
      exact (hF i (List.mem_range.1 hi2)).1
    · intro hne
      have h0 : 0 < len := by
        rcases Nat.eq_zero_or_pos len with h0 | h0
        · subst h0; simp at hne
        · exact h0
      have hc0 := (hF 0 h0).2.1 0 hsz
      have hsp : a.spot = none := by
        have hsome : ∃ v, (F 0)[0]? = some v := ⟨_, List.getElem?_eq_getElem (by rw [(hF 0 h0).1]; exact hsz)⟩
        obtain ⟨v, hv⟩ := hsome
        rw [hv] at hc0
        simp only [Nat.zero_mul] at hc0
        have hadd : (a.add 0).add 0 = a := by simp [Addr.add]
        rw [hadd] at hc0
        cases hs : a.spot with
        | none => rfl
        | some q =>
          unfold World.cell? at hc0
          split at hc0
          · simp [hs] at hc0
          · cases hc0
      obtain ⟨b, o, sp⟩ := a
      simp only at hsp
      subst hsp
      refine ⟨b, o, rfl, ?_, ?_⟩
      · obtain ⟨v, hv⟩ : ∃ v, (F 0)[0]? = some v := ⟨_, List.getElem?_eq_getElem (by rw [(hF 0 h0).1]; exact hsz)⟩
        rw [hv] at hc0
        have := World.block_lt_of_cell? w _ hc0
        rw [add_none, add_none] at this
        exact this
      · intro k x j v hx hv
        have hk : k < len := by have := (List.getElem?_eq_some_iff.1 hx).1; simpa using this
        rw [List.getElem?_map, List.getElem?_range hk] at hx
        simp at hx
        subst hx
        have hj : j < sz := by rw [← (hF k hk).1]; exact (List.getElem?_eq_some_iff.1 hv).1
        have := (hF k hk).2.1 j hj
        rw [add_none, add_none, hv] at this
        exact this
    · intro x hx
      obtain ⟨i, hi2, rfl⟩ := List.mem_map.1 hx
      have hil := List.mem_range.1 hi2
      refine ⟨D i, (hF i hil).2.2, fun q hq => hf q ?_⟩
      simp only [DataW.weights, ht, List.mem_cons, List.mem_append]
      exact .inr (.inl (mem_weightsAll (List.mem_map.2 ⟨i, hi2, rfl⟩) q hq))

theorem got_fields {t : TypeId} {fs : Array Field} {cs : List Value} {d : DataW H} (ht : P.underlying t = some (.struct fs)) (hone : oneCellFields P fs = true) (hC : P.cellsOf t = fs.size) (h : Got enc P w t cs d) (hf : Fits P t d) :
    cs.length = fs.size ∧ ∀ (j : Nat) (f : Field), fs[j]? = some f → ∃ v d', cs[j]? = some v ∧ Got enc P w f.type [v] d' ∧ Fits P f.type d' := by
  obtain ⟨fuel, ps, hg⟩ := h
  obtain ⟨xs, n, _, hx, hlen, hxl, hat⟩ := DataW.trod_struct ht hg
  injection hx with hx _
  subst hx
  rw [hC] at hlen
  refine ⟨hlen, fun j f hj => ?_⟩
  have hjl : j < fs.size := (Array.getElem?_eq_some_iff.1 hj).1
  obtain ⟨ho, hk⟩ := hone_of hone j f hj
  have h1 := hat j f hj
  have hv : cs[j]? = some (cs[j]'(by omega)) := List.getElem?_eq_getElem (by omega)
  have hys : xs[j]? = some (xs[j]'(by omega)) := List.getElem?_eq_getElem (by omega)
  rw [ho, hk] at h1
  have e1 : (cs.drop j).take 1 = [cs[j]'(by omega)] := by
    rw [List.drop_eq_getElem_cons (by omega)]
    rfl
  rw [e1, hys] at h1
  refine ⟨_, _, hv, ⟨n, _, h1⟩, fun q hq => hf q ?_⟩
  simp only [DataW.weights, ht]
  exact DataW.weights_mem_each (j := j) (t := f.type) (d := (xs[j]'(by omega)).1) (by rw [List.getElem?_map, Array.getElem?_toList, hj]; rfl) (by rw [List.getElem?_map, hys]; rfl) q hq
theorem got_string {t : TypeId} {v : Value} {d : DataW H} (ht : P.underlying t = some .string) (h : Got enc P w t [v] d) : ∃ s : ByteArray, v = .string s ∧ s.size ≤ maxLen := by
  obtain ⟨fuel, ps, hg⟩ := h
  obtain ⟨s, hs, _, hm⟩ := DataW.trod_string ht hg
  exact ⟨s, by simpa using hs, hm⟩
theorem got_int {t : TypeId} {k : IntKind} {v : Value} {d : DataW H} (ht : P.underlying t = some (.int k)) (h : Got enc P w t [v] d) : ∃ n : Int, v = .int k n ∧ (Lit.int k n).wf = true := by
  obtain ⟨fuel, ps, hg⟩ := h
  obtain ⟨s, hs, _, hm⟩ := DataW.trod_int ht hg
  exact ⟨s, by simpa using hs, hm⟩
theorem got_bool {t : TypeId} {v : Value} {d : DataW H} (ht : P.underlying t = some .bool) (h : Got enc P w t [v] d) : ∃ b : Bool, v = .bool b := by
  obtain ⟨fuel, ps, hg⟩ := h
  obtain ⟨s, hs, _⟩ := DataW.trod_bool ht hg
  exact ⟨s, by simpa using hs⟩
theorem got_of {t : TypeId} {v : Value} {d : DataW H} {ps : List MemPlace} (h : DataW.Trod enc P w 0 (fun _ => true) true t v d ps) : Got enc P w t v.cells.toList d := by
  obtain ⟨n, hn⟩ := h
  exact ⟨n, ps, hn⟩
theorem fits_of {ts : List TypeId} {ds : List (DataW H)} (h : (DataW.weightsEach P ts ds).all (· ≤ reachBytes) = true) {j : Nat} {t : TypeId} {d : DataW H} (ht : ts[j]? = some t) (hd : ds[j]? = some d) : Fits P t d :=
  fun n hn => by simpa using List.all_eq_true.1 h n (DataW.weights_mem_each ht hd n hn)
end
/-- Each argument reads as some datum, within the reach. -/
def GotAll {H : Type} (enc : TypeId × Value → H) (P : Program) (w : World) : List TypeId → List Value → Prop
  | [], [] => True
  | t :: ts, v :: vs => (∃ d, Got enc P w t v.cells.toList d ∧ Fits P t d ∧ ∃ base, Value.okWide P w .any base t v) ∧ GotAll enc P w ts vs
  | _, _ => False
section
variable {H : Type} {enc : TypeId × Value → H}
theorem gotAll_of {P : Program} {w : World} {base : Nat} : ∀ {ts : List TypeId} {vs : List Value} {ds : List (DataW H)} {ps : List MemPlace}, DataW.TrodAll enc P w 0 (fun _ => true) true ts vs ds ps → (∀ n ∈ DataW.weightsEach P ts ds, n ≤ reachBytes) →
    (∀ (j : Nat) t v, ts[j]? = some t → vs[j]? = some v → Value.okWide P w .any base t v) → GotAll enc P w ts vs ∧ ds.length = ts.length
  | [], [], [], _, _, _, _ => ⟨trivial, rfl⟩
  | t :: ts, v :: vs, d :: ds, _, ⟨p, q, h1, h2, _⟩, hf, hv => by
    have ih := gotAll_of h2 (fun n hn => hf n (by simp only [DataW.weightsEach, List.mem_append]; exact .inr hn)) (fun j t v ht hv' => hv (j + 1) t v (by simpa using ht) (by simpa using hv'))
    exact ⟨⟨⟨d, got_of h1, fun n hn => hf n (by simp only [DataW.weightsEach, List.mem_append]; exact .inl hn), base, hv 0 t v rfl rfl⟩, ih.1⟩, by simp [ih.2]⟩
theorem law_lifted {C : Checked} {os : Os} {f : FuncId} {fn : Func} {s : ChangeSpec} {conds : List PathCond} {apart fresh handsOn again : Bool} {tb : TypeId}
    (own : ownKnob C.prog.godebug = none) (started : os.Started) (noInit : C.prog.inits.idxOf? f = none) (hfn : C.prog.funcs[f]? = some fn)
    (witness : ∃ (w : World) (tape : Tape) (i : Input), w.os = os ∧ (w.forCall tape i).Shaped C.prog ∧ i.vars = [] ∧ Input.okWide C.prog (w.forCall tape i) .any w.heap.size f i ∧
      s.pre6 enc C.prog fn conds apart (w.forCall tape i).memory i.args ∧ ({} : Assume).holds C.prog (lone (Frame.enter C.prog f i.args .normal) [] (w.forCall tape i)))
    (hl : laidOutB C.prog = true) (hpar : ∀ t ∈ fn.params.toList, C.prog.readableRec t = true ∧ t < C.prog.types.size) (hvars : s.vars = []) (hr : fn.resultTypes = #[tb]) (hbool : C.prog.underlying tb = some .bool)
    (hs : ∀ ds : List (DataW H), ds.length = fn.params.toList.length → s.fn H (ds ++ []) = { results := [.lit (.bool true)], args := ds })
    (contract : ∀ (W : World) (args : Array Value), GotAll enc C.prog W fn.params.toList args.toList → Calls C.prog f args W fun e W' => e = .returned (.bool true) ∧ Below W.heap.size W W') :
    ReturnsInHanded {} C os f .any (s.pre6 enc C.prog fn conds apart) (s.post enc C.prog fn apart fresh handsOn again) := by
  refine returnsInHanded_of_change_sized own started noInit hfn witness ?_
  intro W base args ds gs before hval hW hcnd hsz _
  have hW' := hW
  obtain ⟨p, q, hA, hV, rfl, hfz, hnd⟩ := hW
  rw [hvars] at hV
  obtain ⟨rfl, rfl⟩ := trodVars_none hV
  have hvt : s.plain.varTypes C.prog = [] := by
    have : s.plain.vars = [] := hvars
    simp [DataSpec.varTypes, this]
  rw [hvt, List.append_nil, List.append_nil] at hsz
  have hg := gotAll_of (base := base) hA (fun n hn => by simpa using List.all_eq_true.1 hsz n hn) (fun j t v ht hv => hval j t v (by rw [← Array.getElem?_toList]; exact ht) (by rw [← Array.getElem?_toList]; exact hv))
  refine (contract W args hg.1).mono fun e W' ⟨he, hw⟩ => ?_
  subst he
  exact ⟨_, rfl, law_post hl hpar hvars hW' hr hbool (hs ds hg.2) hw⟩
theorem gotAll_four {P : Program} {w : World} {t0 t1 t2 t3 : TypeId} {args : Array Value} (h : GotAll enc P w [t0, t1, t2, t3] args.toList) : ∃ v0 v1 v2 v3, args = #[v0, v1, v2, v3] ∧
    (∃ d, Got enc P w t0 v0.cells.toList d ∧ Fits P t0 d ∧ ∃ base, Value.okWide P w .any base t0 v0) ∧ (∃ d, Got enc P w t1 v1.cells.toList d ∧ Fits P t1 d ∧ ∃ base, Value.okWide P w .any base t1 v1) ∧
    (∃ d, Got enc P w t2 v2.cells.toList d ∧ Fits P t2 d ∧ ∃ base, Value.okWide P w .any base t2 v2) ∧ (∃ d, Got enc P w t3 v3.cells.toList d ∧ Fits P t3 d ∧ ∃ base, Value.okWide P w .any base t3 v3) := by
  obtain ⟨l⟩ := args
  match l, h with
  | [v0, v1, v2, v3], ⟨h0, h1, h2, h3, _⟩ => exact ⟨v0, v1, v2, v3, rfl, h0, h1, h2, h3⟩
theorem gotAll_three {P : Program} {w : World} {t0 t1 t2 : TypeId} {args : Array Value} (h : GotAll enc P w [t0, t1, t2] args.toList) : ∃ v0 v1 v2, args = #[v0, v1, v2] ∧
    (∃ d, Got enc P w t0 v0.cells.toList d ∧ Fits P t0 d ∧ ∃ base, Value.okWide P w .any base t0 v0) ∧ (∃ d, Got enc P w t1 v1.cells.toList d ∧ Fits P t1 d ∧ ∃ base, Value.okWide P w .any base t1 v1) ∧
    (∃ d, Got enc P w t2 v2.cells.toList d ∧ Fits P t2 d ∧ ∃ base, Value.okWide P w .any base t2 v2) := by
  obtain ⟨l⟩ := args
  match l, h with
  | [v0, v1, v2], ⟨h0, h1, h2, _⟩ => exact ⟨v0, v1, v2, rfl, h0, h1, h2⟩
theorem gotAll_two {P : Program} {w : World} {t0 t1 : TypeId} {args : Array Value} (h : GotAll enc P w [t0, t1] args.toList) : ∃ v0 v1, args = #[v0, v1] ∧
    (∃ d, Got enc P w t0 v0.cells.toList d ∧ Fits P t0 d ∧ ∃ base, Value.okWide P w .any base t0 v0) ∧ (∃ d, Got enc P w t1 v1.cells.toList d ∧ Fits P t1 d ∧ ∃ base, Value.okWide P w .any base t1 v1) := by
  obtain ⟨l⟩ := args
  match l, h with
  | [v0, v1], ⟨h0, h1, _⟩ => exact ⟨v0, v1, rfl, h0, h1⟩
theorem gotAll_one {P : Program} {w : World} {t0 : TypeId} {args : Array Value} (h : GotAll enc P w [t0] args.toList) : ∃ v0, args = #[v0] ∧
    (∃ d, Got enc P w t0 v0.cells.toList d ∧ Fits P t0 d ∧ ∃ base, Value.okWide P w .any base t0 v0) := by
  obtain ⟨l⟩ := args
  match l, h with
  | [v0], ⟨h0, _⟩ => exact ⟨v0, rfl, h0⟩
end
theorem list_choose {α β : Type} {f : β → α} {p : β → Prop} : ∀ {es : List α}, (∀ x ∈ es, ∃ l, x = f l ∧ p l) → ∃ ls : List β, es = ls.map f ∧ ∀ l ∈ ls, p l
  | [], _ => ⟨[], rfl, by simp⟩
  | x :: r, h => by
    obtain ⟨l, hl, hp⟩ := h x (by simp)
    obtain ⟨ls, e, hls⟩ := list_choose (f := f) (p := p) (es := r) (fun y hy => h y (by simp [hy]))
    refine ⟨l :: ls, by rw [hl, e]; rfl, fun m hm => ?_⟩
    rcases List.mem_cons.1 hm with rfl | hm
    · exact hp
    · exact hls m hm
end
section
/-! ## Open2 -/
open Go.ChangeShapes Go.WideShapes Go.ChangeAt Go.RowKit

theorem Tryz.own : ownKnob Tryz.prog.godebug = none := by kernel_rfl
theorem Tryz.laidOut : laidOutB Tryz.prog = true := by kernel_rfl
theorem reach_val : reachBytes = 140737488351232 := by decide +kernel
theorem le_reach {n : Nat} (h : n ≤ reachBytes) : n ≤ 140737488351232 := reach_val ▸ h
section
variable {H : Type} {enc : TypeId × Value → H} {P : Program} {w : World}
theorem got_stringF {t : TypeId} {v : Value} {d : DataW H} (ht : P.underlying t = some .string) (h : Got enc P w t [v] d) (hf : Fits P t d) : ∃ s : ByteArray, v = .string s ∧ s.size ≤ reachBytes := by
  obtain ⟨fuel, ps, hg⟩ := h
  obtain ⟨s, hs, hd, hm⟩ := DataW.trod_string ht hg
  refine ⟨s, by simpa using hs, ?_⟩
  simp only [Prod.mk.injEq] at hd
  have := hf s.size (by rw [hd.1]; simp [DataW.weights])
  exact this
end
section
variable {H : Type} {enc : TypeId × Value → H} {w : World}
theorem u8_wf {v : Int} (h : (Lit.int .u8 v).wf = true) : 0 ≤ v ∧ v < 256 := by
  have h2 : IntKind.u8.min ≤ v ∧ v ≤ IntKind.u8.max := by simpa [Lit.wf] using h
  have e1 : IntKind.u8.min = 0 := by decide +kernel
  have e2 : IntKind.u8.max = 255 := by decide +kernel
  omega
theorem got_bytes {v : Value} {d : DataW H} (h : Got enc Tryz.prog w 91 [v] d) (hf : Fits Tryz.prog 91 d) :
    ∃ A c, ∃ l : List UInt8, v = .slice A l.length c ∧ l.length ≤ c ∧ c ≤ maxLen ∧ l.length * 1 ≤ reachBytes ∧ Rd w w.heap.size 1 A (bytesC l) := by
  obtain ⟨A, n, c, es, hv, h1, h2, h3, h4, h5, h6⟩ := got_slice Tryz.underlying91 (by kernel_rfl : _ = 1) (by kernel_rfl : _ = 1) (by omega) h hf
  obtain ⟨l, rfl, _⟩ := list_choose (f := fun c : UInt8 => [Value.int .u8 (c.toNat : Int)]) (p := fun _ => True) (fun x hx => by
    obtain ⟨d', g, f⟩ := h6 x hx
    have hl := h5.1 x hx
    match x, hl, g with
    | [u], _, g =>
      obtain ⟨q, rfl, hw⟩ := got_int Tryz.underlying5 g
      have := u8_wf hw
      refine ⟨UInt8.ofNat q.toNat, ?_, trivial⟩
      rw [UInt8.toNat_ofNat']
      congr 2; omega)
  obtain rfl : l.length = n := by simpa using h4
  exact ⟨A, c, l, by simpa using hv, h1, h2, h3, h5⟩
end
end
section
/-! ## FrameC -/
open Go.ChangeShapes Go.WideShapes Go.ChangeAt Go.RowKit

section
variable {H : Type} {enc : TypeId × Value → H}
theorem law_liftedC {C : Checked} {os : Os} {f : FuncId} {fn : Func} {s : ChangeSpec} {conds : List PathCond} {apart fresh handsOn again : Bool} {tb : TypeId} {laid : List (String × DataW Unit)}
    (own : ownKnob C.prog.godebug = none) (started : os.Started) (noInit : C.prog.inits.idxOf? f = none) (hfn : C.prog.funcs[f]? = some fn)
    (witness : ∃ (w : World) (tape : Tape) (i : Input), w.os = os ∧ (w.forCall tape i).Shaped C.prog ∧ i.vars = [] ∧ Input.okWide C.prog (w.forCall tape i) .any w.heap.size f i ∧
      ((s.pre enc C.prog fn conds apart (w.forCall tape i).memory i.args ∧ laidMetH C.prog laid (w.forCall tape i).memory) ∧ sizedMet enc C.prog fn (OpenSpec.ofChange s) apart (w.forCall tape i).memory i.args) ∧ ({} : Assume).holds C.prog (lone (Frame.enter C.prog f i.args .normal) [] (w.forCall tape i)))
    (hl : laidOutB C.prog = true) (hpar : ∀ t ∈ fn.params.toList, C.prog.readableRec t = true ∧ t < C.prog.types.size) (hvars : s.vars = []) (hr : fn.resultTypes = #[tb]) (hbool : C.prog.underlying tb = some .bool)
    (hs : ∀ ds : List (DataW H), ds.length = fn.params.toList.length → s.fn H (ds ++ []) = { results := [.lit (.bool true)], args := ds })
    (contract : ∀ (W : World) (args : Array Value), laidMetH C.prog laid W → GotAll enc C.prog W fn.params.toList args.toList → Calls C.prog f args W fun e W' => e = .returned (.bool true) ∧ Below W.heap.size W W') :
    ReturnsInHanded {} C os f .any (fun w args => (s.pre enc C.prog fn conds apart w args ∧ laidMetH C.prog laid w) ∧ sizedMet enc C.prog fn (OpenSpec.ofChange s) apart w args) (s.post enc C.prog fn apart fresh handsOn again) := by
  refine returnsInHanded_of_change_and (X := fun w _ => laidMetH C.prog laid w) (fun _ _ _ hh h => h.of_heap hh) own started noInit hfn witness ?_
  intro W base args ds gs before hval hW hcnd hsz hL _
  have hW' := hW
  obtain ⟨p, q, hA, hV, rfl, hfz, hnd⟩ := hW
  rw [hvars] at hV
  obtain ⟨rfl, rfl⟩ := trodVars_none hV
  have hvt : s.plain.varTypes C.prog = [] := by
    have : s.plain.vars = [] := hvars
    simp [DataSpec.varTypes, this]
  rw [hvt, List.append_nil, List.append_nil] at hsz
  have hg := gotAll_of (base := base) hA (fun n hn => by simpa using List.all_eq_true.1 hsz n hn) (fun j t v ht hv => hval j t v (by rw [← Array.getElem?_toList]; exact ht) (by rw [← Array.getElem?_toList]; exact hv))
  refine (contract W args hL hg.1).mono fun e W' ⟨he, hw⟩ => ?_
  subst he
  exact ⟨_, rfl, law_post hl hpar hvars hW' hr hbool (hs ds hg.2) hw⟩
end
end
section
/-! ## ShwT -/
open Go.ChangeShapes Go.WideShapes Go.ChangeAt Go.RowKit

theorem tab10_of {W : World} (h : laidMetH Tryz.prog [("math/bits.deBruijn32tab", Rows.laid_math_bits_deBruijn32tab), ("math/bits.deBruijn64tab", Rows.laid_math_bits_deBruijn64tab), ("internal/strconv.uint64pow10", Rows.laid_internal_strconv_uint64pow10)] W) : Tab10 W := by
  have h1 : laidMet Tryz.prog [("internal/strconv.uint64pow10", Rows.laid_internal_strconv_uint64pow10)] W := laidMet.tail (laidMet.tail h)
  exact Lib.tabIs_of_head (rest := []) (g := 1) (by kernel_rfl) (by kernel_rfl : _ = some 169) Tryz.underlying169 Tryz.underlying161 (by kernel_rfl) (by kernel_rfl) h1
end
end Go.Proofs.YtakfnojiaakfpaaGreatDoor
