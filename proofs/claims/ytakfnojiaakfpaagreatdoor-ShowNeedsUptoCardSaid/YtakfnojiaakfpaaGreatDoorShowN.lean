/- No pair of brackets is needless: counting. Plain. -/
import Derived.Test.YtakfnojiaakfpaaGreatDoorShowD
namespace Go.Proofs.YtakfnojiaakfpaaGreatDoor
open Go.RowKit

/-! ### brackets that open, in bytes and in tokens -/
def c40 (l : List UInt8) : Nat := l.countP fun c => c.toNat == 40
def bO (b : ByteArray) : Nat := c40 b.data.toList
theorem c40_app (a b : List UInt8) : c40 (a ++ b) = c40 a + c40 b := List.countP_append
theorem c40_cons (c : UInt8) (l : List UInt8) : c40 (c :: l) = c40 l + (if (c.toNat == 40) = true then 1 else 0) := List.countP_cons
theorem bO_app (a b : ByteArray) : bO (a ++ b) = bO a + bO b := by rw [bO, app_data, c40_app]; rfl
theorem bO_mk (l : List UInt8) : bO (mkB l) = c40 l := by rw [bO, mkB_toList]
def Mw (ts : List Tok) : Nat := (ts.map fun t => bO t.text).sum
theorem Mw_app (a b : List Tok) : Mw (a ++ b) = Mw a + Mw b := by simp [Mw]
theorem textS_c40 : ∀ (l : List UInt8) (b : Bool) (x : List UInt8) (n : Nat), textS b l = some (x, n) → c40 x ≤ c40 (l.take n)
  | [], b, x, n, h => by cases b <;> simp [textS] at h
  | c :: r, false, x, n, h => by
    rw [textS] at h
    split at h
    · cases h
    split at h
    · injection h with h; injection h with h1 h2; subst h1; simp [c40]
    split at h
    · simp only [Option.map_eq_some_iff] at h
      obtain ⟨⟨y, m⟩, hy, he⟩ := h
      injection he with h1 h2
      have := textS_c40 r _ y m hy
      subst h1 h2
      simp only [List.take_succ_cons, c40_cons]
      omega
    · simp only [Option.map_eq_some_iff] at h
      obtain ⟨⟨y, m⟩, hy, he⟩ := h
      injection he with h1 h2
      have := textS_c40 r _ y m hy
      subst h1 h2
      simp only [List.take_succ_cons, c40_cons]
      omega
  | c :: r, true, x, n, h => by
    rw [textS] at h
    split at h
    · simp only [Option.map_eq_some_iff] at h
      obtain ⟨⟨y, m⟩, hy, he⟩ := h
      injection he with h1 h2
      have := textS_c40 r _ y m hy
      subst h1 h2
      simp only [List.take_succ_cons, c40_cons]
      omega
    split at h
    · simp only [Option.map_eq_some_iff] at h
      obtain ⟨⟨y, m⟩, hy, he⟩ := h
      injection he with h1 h2
      have := textS_c40 r _ y m hy
      subst h1 h2
      simp only [List.take_succ_cons, c40_cons]
      have h10 : (((10 : UInt8).toNat == 40) = true) = False := by decide
      simp only [h10, if_false]
      omega
    · cases h
theorem take_while (p : UInt8 → Bool) (l : List UInt8) : l.takeWhile p = l.take (l.takeWhile p).length := List.prefix_iff_eq_take.1 (List.takeWhile_prefix p)
theorem oneL_c40 {at_ : Nat} {l : List UInt8} {ts : List Tok} {n : Nat} (h : oneL at_ l = .ok ts n) : Mw ts ≤ c40 (l.take n) := by
  cases l with
  | nil => simp [oneL] at h
  | cons c r =>
    rw [oneL] at h
    by_cases h1 : blankB c = true
    · rw [if_pos h1] at h; injection h with h _; subst h; simp [Mw]
    rw [if_neg h1] at h
    have h1t : ∀ (k : Int) (x : List UInt8) (sp : Nat), Mw [⟨k, at_, mkB x, sp⟩] = c40 x := by intro k x sp; simp [Mw, bO_mk]
    by_cases h2 : dchar c = true
    · rw [if_pos h2, numTok] at h
      split at h
      · injection h with h h'; subst h h'
        rw [h1t, ← take_while]
        exact Nat.le_refl _
      · split at h
        · injection h with h h'; subst h h'
          rw [h1t, ← take_while]
          exact Nat.le_refl _
        · cases h
    rw [if_neg h2] at h
    by_cases h3 : letB c = true
    · rw [if_pos h3] at h
      injection h with h h'; subst h h'
      rw [h1t, runN, ← take_while]
      exact Nat.le_refl _
    rw [if_neg h3] at h
    by_cases h4 : c.toNat = 34
    · rw [if_pos h4] at h
      cases ht : textS false r with
      | none => rw [ht, textTok] at h; cases h
      | some x =>
        obtain ⟨x, m⟩ := x
        rw [ht, textTok] at h
        have := textS_c40 r _ x m ht
        injection h with h h'; subst h h'
        rw [h1t, List.nil_append, Nat.add_comm 1 m, List.take_succ_cons, c40_cons]
        omega
    rw [if_neg h4] at h
    by_cases h5 : 0 < signN (c :: r)
    · rw [if_pos h5] at h
      injection h with h h'; subst h h'
      rw [h1t]
      exact Nat.le_refl _
    · rw [if_neg h5] at h; cases h
theorem lexL_c40 : ∀ (k : Nat) (l : List UInt8) (p : Nat) (ts : List Tok), l.length ≤ k → lexL p l = .ok ts → Mw ts ≤ c40 l
  | _, [], p, ts, _, h => by
    rw [lexL_nil] at h
    injection h with h
    subst h
    simp [Mw, bO_mk]
  | 0, c :: r, p, ts, hl, h => by simp at hl
  | k + 1, c :: r, p, ts, hl, h => by
    rw [lexL_cons] at h
    cases ho : oneL p (c :: r) with
    | err q e => rw [ho] at h; cases h
    | ok t1 n =>
      rw [ho] at h
      dsimp only at h
      cases hr : lexL (p + n) ((c :: r).drop n) with
      | err q e => rw [hr] at h; cases h
      | ok t2 =>
        rw [hr] at h
        injection h with h
        subst h
        have h1 := oneL_n ho
        have h2 := oneL_c40 ho
        have h3 := lexL_c40 k ((c :: r).drop n) (p + n) t2 (by rw [List.length_drop]; simp at hl ⊢; omega) hr
        have h4 : c40 (c :: r) = c40 ((c :: r).take n) + c40 ((c :: r).drop n) := by rw [← c40_app, List.take_append_drop]
        rw [Mw_app]
        omega
theorem lexR_c40 {s : ByteArray} {ts : List Tok} (h : lexR s = .ok ts) : Mw ts ≤ bO s := by
  unfold lexR at h
  split at h
  · cases h
  · exact lexL_c40 _ _ 0 ts (Nat.le_refl _) h

/-! ### what a tree's brackets cost -/
def sumO (l : List ByteArray) : Nat := (l.map bO).sum
def matsO (l : List Mat) : Nat := (l.map fun m => bO m.name + bO m.val).sum
def lowC (r k : Int) : Nat := if r < k then 1 else 0
def grpC (k1 k2 g : Int) (l : List ByteArray) : Nat := if g = k1 ∨ g = k2 then 1 + sumO l else 0
def stepC (n : Nod) (p : List (Nat × Int)) : Nat × Int :=
  if n.kind = 1 then (bO n.text, 7)
  else if n.kind = 2 ∨ n.kind = 3 then (matsO n.mat, 7)
  else if n.kind = 4 then ((p.getD 0 (0, 0)).1 + 1, 7)
  else if n.kind = 5 then ((p.getD 0 (0, 0)).1 + 1 + grpC 1 2 n.grp n.names, 7)
  else if n.kind = 6 then ((p.getD 0 (0, 0)).1 + lowC (p.getD 0 (0, 0)).2 (rowN n.op) + ((p.getD 1 (0, 0)).1 + lowC (p.getD 1 (0, 0)).2 (rowN n.op + 1)) + grpC 3 4 n.grp n.names, rowN n.op)
  else ((p.getD 0 (0, 0)).1 + lowC (p.getD 0 (0, 0)).2 6, 6)
def cntF : List Nod → List (Nat × Int) → List (Nat × Int)
  | [], st => st
  | n :: r, st => cntF r (st.take (st.length - n.parts.toNat) ++ [stepC n (st.drop (st.length - n.parts.toNat))])
theorem cntF_app : ∀ (a b : List Nod) (st : List (Nat × Int)), cntF (a ++ b) st = cntF b (cntF a st)
  | [], _, _ => rfl
  | _ :: a, b, _ => cntF_app a b _
/-- Nodes are a tree that costs so much, of such a row. -/
def Seg (seg : List Nod) (o : Nat) (r : Int) : Prop := ∀ st, cntF seg st = st ++ [(o, r)]
theorem seg_leaf {n : Nod} (h : n.parts = 0) {o : Nat} {r : Int} (e : stepC n [] = (o, r)) : Seg [n] o r := by
  intro st
  simp only [cntF, h]
  simp [e]
theorem seg_one {n : Nod} {a : List Nod} {oa o : Nat} {ra r : Int} (h : Seg a oa ra) (hp : n.parts = 1) (e : stepC n [(oa, ra)] = (o, r)) : Seg (a ++ [n]) o r := by
  intro st
  rw [cntF_app, h]
  simp only [cntF, hp]
  simp [e]
theorem seg_two {n : Nod} {a b : List Nod} {oa ob o : Nat} {ra rb r : Int} (h : Seg a oa ra) (h2 : Seg b ob rb) (hp : n.parts = 2) (e : stepC n [(oa, ra), (ob, rb)] = (o, r)) : Seg (a ++ b ++ [n]) o r := by
  intro st
  rw [cntF_app, cntF_app, h, h2]
  simp only [cntF, hp]
  have e1 : (st ++ [(oa, ra)] ++ [(ob, rb)]) = st ++ [(oa, ra), (ob, rb)] := by simp
  rw [e1]
  simp [e]

/-! ### the reader -/
def PS.mw (s : PS) : Nat := Mw s.toks
theorem mw_tail (s : PS) : Mw s.toks.tail + bO s.hd.text = s.mw := by
  obtain ⟨toks, d, o⟩ := s
  cases toks with
  | nil => rfl
  | cons t r => simp [PS.mw, PS.hd, Mw, Nat.add_comm]
theorem mw_on (s : PS) : s.on.mw + bO s.hd.text = s.mw := mw_tail s
theorem sign_mw {s s' : PS} {t : ByteArray} (h : s.sign t = .ok s') : s'.mw + bO t = s.mw ∧ s'.out = s.out := by
  unfold PS.sign at h
  split at h
  · rename_i hi
    injection h with h
    subst h
    have := mw_on s
    rw [is_text hi] at this
    exact ⟨this, rfl⟩
  · cases h
theorem name_mw {s s' : PS} {x : ByteArray} (h : s.name = .ok (s', x)) : s'.mw + bO x = s.mw ∧ s'.out = s.out := by
  unfold PS.name at h
  split at h
  · injection h with h
    injection h with h1 h2
    subst h1 h2
    exact ⟨mw_on s, rfl⟩
  · cases h
theorem comma_mw {s s' : PS} {b : Bool} (h : s.comma b = .ok s') : s'.mw ≤ s.mw ∧ s'.out = s.out := by
  unfold PS.comma at h
  split at h
  · injection h with h
    subst h
    exact ⟨Nat.le_refl _, rfl⟩
  · obtain ⟨h1, h2⟩ := sign_mw h
    exact ⟨by omega, h2⟩
theorem namesF_mw : ∀ (m : Nat) (s : PS) (acc : List ByteArray) (s' : PS) (l : List ByteArray), namesF m s acc = .ok (s', l) → s'.mw + sumO l ≤ s.mw + sumO acc ∧ s'.out = s.out
  | 0, s, acc, s', l, h => by cases h
  | m + 1, s, acc, s', l, h => by
    rw [namesF] at h
    split at h
    · injection h with h
      injection h with h1 h2
      subst h1 h2
      have := mw_on s
      exact ⟨by omega, rfl⟩
    · cases hc : s.comma acc.isEmpty with
      | error e => rw [hc] at h; cases h
      | ok s1 =>
        rw [hc] at h
        dsimp only at h
        cases hn : s1.name with
        | error e => rw [hn] at h; cases h
        | ok p =>
          obtain ⟨s2, x⟩ := p
          rw [hn] at h
          dsimp only at h
          obtain ⟨a1, a2⟩ := comma_mw hc
          obtain ⟨b1, b2⟩ := name_mw hn
          obtain ⟨c1, c2⟩ := namesF_mw m s2 _ s' l h
          have e : sumO (acc ++ [x]) = sumO acc + bO x := by simp [sumO]
          exact ⟨by omega, by rw [c2, b2, a2]⟩
theorem bO_sO : bO sO = 1 := by decide
theorem names_mw {s s' : PS} {l : List ByteArray} (h : s.names = .ok (s', l)) : s'.mw + 1 + sumO l ≤ s.mw ∧ s'.out = s.out := by
  unfold PS.names at h
  cases hc : s.sign sO with
  | error e => rw [hc] at h; cases h
  | ok s1 =>
    rw [hc] at h
    dsimp only at h
    obtain ⟨a1, a2⟩ := sign_mw hc
    obtain ⟨b1, b2⟩ := namesF_mw _ _ _ _ _ h
    rw [bO_sO] at a1
    have e : sumO [] = 0 := rfl
    exact ⟨by omega, by rw [b2, a2]⟩
theorem group_mw {s s' : PS} {w1 w2 : ByteArray} {k1 k2 g : Int} {l : List ByteArray} (hk1 : k1 ≠ 0) (hk2 : k2 ≠ 0) (h : s.group w1 w2 k1 k2 = .ok (s', g, l)) : s'.mw + grpC k1 k2 g l ≤ s.mw ∧ s'.out = s.out := by
  unfold PS.group at h
  have hon := mw_on s
  split at h
  · cases hc : s.on.names with
    | error e => rw [hc] at h; cases h
    | ok p =>
      obtain ⟨s1, x⟩ := p
      rw [hc] at h
      injection h with h
      injection h with h1 h2
      injection h2 with h2 h3
      subst h1 h2 h3
      obtain ⟨a1, a2⟩ := names_mw hc
      rw [grpC, if_pos (.inl rfl)]
      exact ⟨by omega, a2⟩
  split at h
  · cases hc : s.on.names with
    | error e => rw [hc] at h; cases h
    | ok p =>
      obtain ⟨s1, x⟩ := p
      rw [hc] at h
      injection h with h
      injection h with h1 h2
      injection h2 with h2 h3
      subst h1 h2 h3
      obtain ⟨a1, a2⟩ := names_mw hc
      rw [grpC, if_pos (.inr rfl)]
      exact ⟨by omega, a2⟩
  · injection h with h
    injection h with h1 h2
    injection h2 with h2 h3
    subst h1 h2 h3
    rw [grpC, if_neg (by rintro (h | h); exact hk1 h.symm; exact hk2 h.symm)]
    exact ⟨Nat.le_refl _, rfl⟩
theorem matsO_snoc (ms : List Mat) (m : Mat) : matsO (ms ++ [m]) = matsO ms + (bO m.name + bO m.val) := by simp [matsO]
theorem addM_is {ms ms' : List Mat} {m : Mat} {a : Int} (h : addM ms m a = .ok ms') : ms' = ms ++ [m] := by
  unfold addM at h
  split at h
  · injection h with h; exact h.symm
  · cases h
theorem matchersF_mw : ∀ (f : Nat) (b : Bool) (s : PS) (ms : List Mat) (s' : PS) (ms' : List Mat), matchersF f b s ms = .ok (s', ms') → s'.mw + matsO ms' ≤ s.mw + matsO ms ∧ s'.out = s.out
  | 0, _, _, _, _, _, h => by cases h
  | f + 1, b, s, ms, s', ms', h => by
    rw [matchersF] at h
    split at h
    · injection h with h
      injection h with h1 h2
      subst h1 h2
      have := mw_on s
      exact ⟨by omega, rfl⟩
    · cases hc : s.comma b with
      | error e => rw [hc] at h; cases h
      | ok s1 =>
        rw [hc] at h
        dsimp only at h
        cases hn : s1.name with
        | error e => rw [hn] at h; cases h
        | ok p =>
          obtain ⟨s2, x⟩ := p
          rw [hn] at h
          dsimp only at h
          split at h
          · cases h
          split at h
          · cases h
          cases ha : addM ms ⟨numW matsL s2.hd.text, x, s2.on.hd.text⟩ s2.on.hd.at_ with
          | error e => rw [ha] at h; cases h
          | ok ms2 =>
            rw [ha] at h
            dsimp only at h
            obtain rfl := addM_is ha
            obtain ⟨a1, a2⟩ := comma_mw hc
            obtain ⟨b1, b2⟩ := name_mw hn
            obtain ⟨c1, c2⟩ := matchersF_mw f false _ _ s' ms' h
            have e := matsO_snoc ms ⟨numW matsL s2.hd.text, x, s2.on.hd.text⟩
            have e1 := mw_on s2
            have e2 := mw_on s2.on
            dsimp only at e
            exact ⟨by omega, by rw [c2]; show s2.out = _; rw [b2, a2]⟩
theorem sel1_mw {s s' : PS} {ms : List Mat} (h : s.sel1 = .ok (s', ms)) : s'.mw + matsO ms ≤ s.mw ∧ s'.out = s.out := by
  unfold PS.sel1 at h
  split at h
  · cases ha : addM [] ⟨1, sNameN, s.hd.text⟩ s.hd.at_ with
    | error e => rw [ha] at h; cases h
    | ok ms2 =>
      rw [ha] at h
      injection h with h
      injection h with h1 h2
      subst h1 h2
      obtain rfl := addM_is ha
      have := mw_on s
      have e : matsO ([] ++ [⟨1, sNameN, s.hd.text⟩]) = bO s.hd.text := by
        rw [matsO_snoc]
        show 0 + (bO sNameN + bO s.hd.text) = bO s.hd.text
        rw [show bO sNameN = 0 by decide]
        omega
      exact ⟨by omega, rfl⟩
  · injection h with h
    injection h with h1 h2
    subst h1 h2
    exact ⟨Nat.le_refl _, rfl⟩
theorem sel2_mw {s s' : PS} {b : Bool} {ms ms' : List Mat} (h : s.sel2 b ms = .ok (s', ms')) : s'.mw + matsO ms' ≤ s.mw + matsO ms ∧ s'.out = s.out := by
  unfold PS.sel2 at h
  split at h
  · have := mw_on s
    obtain ⟨a1, a2⟩ := matchersF_mw _ _ _ _ _ _ h
    exact ⟨by omega, a2⟩
  split at h
  · injection h with h
    injection h with h1 h2
    subst h1 h2
    exact ⟨Nat.le_refl _, rfl⟩
  · cases h
theorem span_mw {s s' : PS} {v : Int} (h : s.span = .ok (s', v)) : s'.mw ≤ s.mw ∧ s'.out = s.out := by
  unfold PS.span at h
  split at h
  · injection h with h
    injection h with h1 h2
    subst h1 h2
    have := mw_on s
    exact ⟨by omega, rfl⟩
  · cases h
theorem sel3_mw {s s' : PS} {k w : Int} (h : s.sel3 = .ok (s', k, w)) : s'.mw ≤ s.mw ∧ s'.out = s.out ∧ (k = 2 ∨ k = 3) := by
  unfold PS.sel3 at h
  split at h
  · cases hc : s.on.span with
    | error e => rw [hc] at h; cases h
    | ok p =>
      obtain ⟨s1, v⟩ := p
      rw [hc] at h
      dsimp only at h
      cases hs : s1.sign sUnsq with
      | error e => rw [hs] at h; cases h
      | ok s2 =>
        rw [hs] at h
        injection h with h
        injection h with h1 h2
        injection h2 with h2 h3
        subst h1 h2 h3
        obtain ⟨a1, a2⟩ := span_mw hc
        obtain ⟨b1, b2⟩ := sign_mw hs
        have := mw_on s
        exact ⟨by omega, by rw [b2, a2]; rfl, .inr rfl⟩
  · injection h with h
    injection h with h1 h2
    injection h2 with h2 h3
    subst h1 h2 h3
    exact ⟨Nat.le_refl _, rfl, .inl rfl⟩
theorem sel4_mw {s s' : PS} {v : Int} (h : s.sel4 = .ok (s', v)) : s'.mw ≤ s.mw ∧ s'.out = s.out := by
  unfold PS.sel4 at h
  split at h
  · have := mw_on s
    obtain ⟨a1, a2⟩ := span_mw h
    exact ⟨by omega, a2⟩
  · injection h with h
    injection h with h1 h2
    subst h1 h2
    exact ⟨Nat.le_refl _, rfl⟩
/-- A part is read at a level, and its brackets are paid. -/
def Paid (l : Int) (s s' : PS) : Prop := ∃ (seg : List Nod) (o : Nat) (r : Int), s'.out = s.out ++ seg ∧ Seg seg o r ∧ 1 ≤ r ∧ s'.mw + o + lowC r l ≤ s.mw
def PaidP (l : Int) (f : PS → Rp PS) : Prop := ∀ s s', f s = .ok s' → Paid l s s'
theorem low_le {r l : Int} : lowC r l ≤ 1 := by unfold lowC; split <;> decide
theorem low_no {r l : Int} (h : l ≤ r) : lowC r l = 0 := by rw [lowC, if_neg (by omega)]
theorem low_mono {r l k : Int} (h : l ≤ k) : lowC r l ≤ lowC r k := by
  unfold lowC
  by_cases h1 : r < l
  · rw [if_pos h1, if_pos (by omega)]; exact Nat.le_refl _
  · rw [if_neg h1]; exact Nat.zero_le _
theorem choose_paid : PaidP 6 chooseP := by
  intro s s' h
  unfold chooseP at h
  cases h1 : s.sel1 with
  | error e => rw [h1] at h; cases h
  | ok p =>
    obtain ⟨s1, m1⟩ := p
    rw [h1] at h
    dsimp only at h
    cases h2 : s1.sel2 s.wordB m1 with
    | error e => rw [h2] at h; cases h
    | ok p =>
      obtain ⟨s2, m2⟩ := p
      rw [h2] at h
      dsimp only at h
      cases h3 : s2.sel3 with
      | error e => rw [h3] at h; cases h
      | ok p =>
        obtain ⟨s3, k, w⟩ := p
        rw [h3] at h
        dsimp only at h
        cases h4 : s3.sel4 with
        | error e => rw [h4] at h; cases h
        | ok p =>
          obtain ⟨s4, b⟩ := p
          rw [h4] at h
          injection h with h
          subst h
          obtain ⟨a1, a2⟩ := sel1_mw h1
          obtain ⟨b1, b2⟩ := sel2_mw h2
          obtain ⟨c1, c2, hk⟩ := sel3_mw h3
          obtain ⟨d1, d2⟩ := sel4_mw h4
          have e : stepC (selN k m2 w b) [] = (matsO m2, 7) := by
            have hk' : (selN k m2 w b).kind = 2 ∨ (selN k m2 w b).kind = 3 := hk
            rw [stepC, if_neg (by omega), if_pos hk']
            rfl
          refine ⟨[selN k m2 w b], matsO m2, 7, ?_, seg_leaf rfl e, by decide, ?_⟩
          · show s4.out ++ _ = _
            rw [d2, c2, b2, a2]
          · rw [low_no (by decide)]
            show s4.mw + _ + 0 ≤ _
            omega
theorem openP_of {part : PS → Rp PS} {s s' : PS} (h : openP part s = .ok s') : ∃ s1, part ⟨s.toks.tail, s.deep + 1, s.out⟩ = .ok s1 ∧ s'.mw = s1.mw ∧ s'.out = s1.out := by
  unfold openP at h
  split at h
  · cases h
  · cases hp : part ⟨s.toks.tail, s.deep + 1, s.out⟩ with
    | error e => rw [hp] at h; cases h
    | ok s1 =>
      rw [hp] at h
      injection h with h
      subst h
      exact ⟨s1, rfl, rfl, rfl⟩
theorem bracket_paid {e : PS → Rp PS} (he : PaidP 1 e) {s s' : PS} (h : bracketP e s = .ok s') : ∃ (seg : List Nod) (o : Nat) (r : Int), s'.out = s.out ++ seg ∧ Seg seg o r ∧ 1 ≤ r ∧ s'.mw + o + 1 ≤ s.mw := by
  unfold bracketP at h
  split at h
  · rename_i hi
    obtain ⟨s1, h1, h2, h3⟩ := openP_of h
    unfold innerP at h1
    cases hp : e ⟨s.toks.tail, s.deep + 1, s.out⟩ with
    | error x => rw [hp] at h1; cases h1
    | ok s2 =>
      rw [hp] at h1
      obtain ⟨a1, a2⟩ := sign_mw h1
      obtain ⟨seg, o, r, b1, b2, b3, b4⟩ := he _ _ hp
      have hm := mw_tail s
      rw [is_text hi, bO_sO] at hm
      have b4' : s2.mw + o + lowC r 1 ≤ Mw s.toks.tail := b4
      exact ⟨seg, o, r, by rw [h3, a2, b1], b2, b3, by omega⟩
  · cases h
theorem rows_all : ((List.range 14).all fun k => (List.range 6).all fun l => l == 0 || decide ((k : Int) < loL l) || decide (hiL l < (k : Int)) || (decide (loL l = 11) && decide ((k : Int) = 12)) || decide (rowN (k : Int) = (l : Int))) = true := by decide +kernel
theorem row_is {s : PS} {l : Nat} (h1 : 1 ≤ l) (h5 : l ≤ 5) (h : ¬ s.rowEnd (loL l) (hiL l) = true) : rowN (numW opsL s.hd.text) = (l : Int) := by
  have hr := ops_range s.hd.text
  rw [PS.rowEnd] at h
  generalize numW opsL s.hd.text = k at h hr ⊢
  have := List.all_eq_true.1 (List.all_eq_true.1 rows_all k.toNat (List.mem_range.2 (by omega))) l (List.mem_range.2 (by omega))
  rw [show ((k.toNat : Nat) : Int) = k by omega] at this
  have e2 : (l == 0) = false := by simp; omega
  simp only [e2, Bool.false_or, Bool.or_eq_true, Bool.and_eq_true, decide_eq_true_eq] at this
  simp only [Bool.or_eq_true, Bool.and_eq_true, decide_eq_true_eq] at h
  rcases this with ((h2 | h2) | h2) | h2
  · exact absurd (.inl (.inl (.inr h2))) h
  · exact absurd (.inl (.inr h2)) h
  · exact absurd (.inr h2) h
  · exact h2
theorem rowF_paid {part : PS → Rp PS} {l : Nat} (h1 : 1 ≤ l) (h5 : l ≤ 5) (hp : PaidP ((l : Int) + 1) part) : ∀ (m : Nat) (s s' base : PS), Paid l base s → rowF part (loL l) (hiL l) m s = .ok s' → Paid l base s'
  | 0, s, s', base, hb, h => by
    injection h with h
    subst h
    exact hb
  | m + 1, s, s', base, hb, h => by
    rw [rowF] at h
    split at h
    · injection h with h
      subst h
      exact hb
    · rename_i he
      have hrow := row_is h1 h5 he
      generalize hs2 : (if s.on.boolN (numW opsL s.hd.text) = true then s.on.on else s.on) = s2 at h
      have hm2 : s2.mw ≤ s.mw ∧ s2.out = s.out := by
        have e1 := mw_on s
        have e2 := mw_on s.on
        rw [← hs2]
        split
        · exact ⟨by omega, rfl⟩
        · exact ⟨by omega, rfl⟩
      cases hg : s2.group sOn sIgn 3 4 with
      | error e => rw [hg] at h; cases h
      | ok p =>
        obtain ⟨s3, g, nl⟩ := p
        rw [hg] at h
        dsimp only at h
        cases hq : part s3 with
        | error e => rw [hq] at h; cases h
        | ok s4 =>
          rw [hq] at h
          dsimp only at h
          refine rowF_paid h1 h5 hp m _ s' base ?_ h
          obtain ⟨a1, a2⟩ := group_mw (by decide) (by decide) hg
          obtain ⟨sb, ob, rb, b1, b2, b3, b4⟩ := hp _ _ hq
          obtain ⟨sa, oa, ra, c1, c2, c3, c4⟩ := hb
          have e : stepC (binN (numW opsL s.hd.text) g nl (s.on.boolN (numW opsL s.hd.text))) [(oa, ra), (ob, rb)] = (oa + lowC ra l + (ob + lowC rb ((l : Int) + 1)) + grpC 3 4 g nl, (l : Int)) := by
            rw [← hrow]
            rfl
          refine ⟨sa ++ sb ++ [binN (numW opsL s.hd.text) g nl (s.on.boolN (numW opsL s.hd.text))], _, _, ?_, seg_two c2 b2 rfl e, by omega, ?_⟩
          · show s4.out ++ _ = _
            rw [b1, a2, hm2.2, c1]
            simp
          · rw [low_no (Int.le_refl _)]
            show s4.mw + _ + 0 ≤ _
            omega
theorem rowP_paid {part : PS → Rp PS} {l : Nat} (h1 : 1 ≤ l) (h5 : l ≤ 5) (hp : PaidP ((l : Int) + 1) part) : PaidP l (rowP part (loL l) (hiL l)) := by
  intro s s' h
  unfold rowP at h
  cases hq : part s with
  | error e => rw [hq] at h; cases h
  | ok s1 =>
    rw [hq] at h
    obtain ⟨sa, oa, ra, c1, c2, c3, c4⟩ := hp _ _ hq
    have := low_mono (r := ra) (l := (l : Int)) (k := (l : Int) + 1) (by omega)
    exact rowF_paid h1 h5 hp _ s1 s' s ⟨sa, oa, ra, c1, c2, c3, by omega⟩ h
theorem or_paid {n : Nat} (h : PaidP 6 (unaryP n)) : PaidP 1 (orP (unaryP n)) := by
  have key : ∀ j : Nat, j ≤ 5 → PaidP ((6 - j : Nat) : Int) (LP (6 - j) n) := by
    intro j
    induction j with
    | zero => intro _; exact h
    | succ j ih =>
      intro hj
      have := ih (by omega)
      obtain ⟨l, hl⟩ : ∃ l, 6 - (j + 1) = l := ⟨_, rfl⟩
      have e : 6 - j = l + 1 := by omega
      rw [e] at this
      rw [hl, LP_eq (by omega) (by omega)]
      exact rowP_paid (by omega) (by omega) (by simpa using this)
  exact key 5 (by omega)
theorem one_paid {n : Nat} (h : PaidP 6 (unaryP n)) : PaidP 6 (oneP (orP (unaryP n))) := by
  have ho := or_paid h
  intro s s' hs
  unfold oneP at hs
  split at hs
  · injection hs with hs
    subst hs
    refine ⟨[numN s.hd.text], bO s.hd.text, 7, rfl, seg_leaf rfl rfl, by decide, ?_⟩
    have := mw_on s
    rw [low_no (by decide)]
    show s.on.mw + _ + 0 ≤ _
    omega
  split at hs
  · obtain ⟨seg, o, r, b1, b2, b3, b4⟩ := bracket_paid ho hs
    have := low_le (r := r) (l := 6)
    exact ⟨seg, o, r, b1, b2, b3, by omega⟩
  split at hs
  · cases hq : bracketP (orP (unaryP n)) s.on with
    | error e => rw [hq] at hs; cases hs
    | ok s1 =>
      rw [hq] at hs
      injection hs with hs
      subst hs
      obtain ⟨seg, o, r, b1, b2, b3, b4⟩ := bracket_paid ho hq
      have := mw_on s
      refine ⟨seg ++ [callN (numW funcsL s.hd.text)], o + 1, 7, ?_, seg_one b2 rfl rfl, by decide, ?_⟩
      · show s1.out ++ _ = _
        rw [b1]
        show s.out ++ seg ++ _ = _
        rw [List.append_assoc]
      · rw [low_no (by decide)]
        show s1.mw + _ + 0 ≤ _
        omega
  split at hs
  · cases hg : s.on.group sBy sWithout 1 2 with
    | error e => rw [hg] at hs; cases hs
    | ok p =>
      obtain ⟨s1, g, l⟩ := p
      rw [hg] at hs
      dsimp only at hs
      cases hq : bracketP (orP (unaryP n)) s1 with
      | error e => rw [hq] at hs; cases hs
      | ok s2 =>
        rw [hq] at hs
        injection hs with hs
        subst hs
        obtain ⟨a1, a2⟩ := group_mw (by decide) (by decide) hg
        obtain ⟨seg, o, r, b1, b2, b3, b4⟩ := bracket_paid ho hq
        have := mw_on s
        refine ⟨seg ++ [aggN (numW aggsL s.hd.text) g l], o + 1 + grpC 1 2 g l, 7, ?_, seg_one b2 rfl rfl, by decide, ?_⟩
        · show s2.out ++ _ = _
          rw [b1, a2]
          show s.out ++ seg ++ _ = _
          rw [List.append_assoc]
        · rw [low_no (by decide)]
          show s2.mw + _ + 0 ≤ _
          omega
  · exact choose_paid s s' hs
theorem unary_paid : ∀ n : Nat, PaidP 6 (unaryP n)
  | 0 => by
    intro s s' h
    cases h
  | n + 1 => by
    intro s s' h
    rw [unaryP] at h
    split at h
    · cases hp : openP (unaryP n) s with
      | error e => rw [hp] at h; cases h
      | ok s1 =>
        rw [hp] at h
        injection h with h
        subst h
        obtain ⟨s2, h1, h2, h3⟩ := openP_of hp
        obtain ⟨seg, o, r, b1, b2, b3, b4⟩ := unary_paid n _ _ h1
        have hm := mw_tail s
        have b4' : s2.mw + o + lowC r 6 ≤ Mw s.toks.tail := b4
        refine ⟨seg ++ [negN], o + lowC r 6, 6, ?_, seg_one b2 rfl rfl, by decide, ?_⟩
        · show s1.out ++ _ = _
          rw [h3, b1, List.append_assoc]
        · rw [low_no (r := 6) (l := 6) (by decide)]
          show s1.mw + _ + 0 ≤ _
          omega
    · exact one_paid (unary_paid n) s s' h
/-- What is read as a tree has no fewer brackets than it costs. -/
theorem parse_cost {s : ByteArray} {ns : List Nod} {a : Int} (h : parseR s = (ns, a, 0)) : ns = [] ∨ ∃ o r, Seg ns o r ∧ o ≤ bO s := by
  unfold parseR at h
  cases hl : lexR s with
  | err p e =>
    rw [hl] at h
    injection h with h _
    exact .inl h.symm
  | ok ts =>
    rw [hl] at h
    dsimp only at h
    cases hp : orP (unaryP ts.length) ⟨ts, 0, []⟩ with
    | error p =>
      obtain ⟨x, y⟩ := p
      rw [hp] at h
      injection h with h _
      exact .inl h.symm
    | ok st =>
      rw [hp] at h
      dsimp only at h
      split at h
      · injection h with h _
        obtain ⟨seg, o, r, b1, b2, _, b4⟩ := or_paid (unary_paid ts.length) _ _ hp
        have e : st.out = seg := by rw [b1]; rfl
        rw [e] at h
        subst h
        have h1 : st.mw + o + lowC r 1 ≤ Mw ts := b4
        have h2 := lexR_c40 hl
        exact .inr ⟨o, r, b2, by omega⟩
      · injection h with h _
        exact .inl h.symm
/-! ### what is written -/
def qS (s : Sd) : Nat × Int := (bO s.text, s.row)
theorem bO_sC : bO sC = 0 := by decide
theorem inside_cost (s : Sd) (w : ByteArray) : qS (s.inside w) = (bO w + 1 + bO s.text, 7) := by
  show (bO (w ++ sO ++ s.text ++ sC), _) = _
  rw [bO_app, bO_app, bO_app, bO_sO, bO_sC]
  rfl
theorem within_cost (s : Sd) (k : Int) : bO (s.within k).text = bO s.text + lowC s.row k := by
  unfold Sd.within lowC
  by_cases h : k ≤ s.row
  · rw [if_pos h, if_neg (by omega)]; rfl
  · rw [if_neg h, if_pos (by omega)]
    have := congrArg Prod.fst (inside_cost s ByteArray.empty)
    simp only [qS] at this
    rw [this, show bO ByteArray.empty = 0 by decide]
    omega
theorem c40_zero {l : List UInt8} (h : ∀ c ∈ l, c.toNat ≠ 40) : c40 l = 0 := by
  rw [c40, List.countP_eq_zero]
  intro c hc
  have := h c hc
  simpa using this
theorem dch_40 : ∀ n : Nat, n < 256 → dchar (UInt8.ofNat n) = true → n ≠ 40 := by decide +kernel
theorem decT_cost (v : Int) : bO (decT v) = 0 := by
  rw [decT, bO_mk]
  refine c40_zero fun c hc => ?_
  have := dch_40 c.toNat c.toNat_lt
  rw [UInt8.ofNat_toNat] at this
  exact this (dd_all _ c hc)
theorem spanT_cost (v : Int) : bO (spanT v) = 0 := by
  unfold spanT
  split
  · rw [bO_app, decT_cost]; decide
  split
  · rw [bO_app, decT_cost]; decide
  split
  · rw [bO_app, decT_cost]; decide
  · rw [bO_app, decT_cost]; decide
theorem joinT_cost : ∀ l : List ByteArray, bO (joinT l) = sumO l
  | [] => by decide
  | [x] => by simp [joinT, sumO]
  | x :: y :: r => by
    have ih := joinT_cost (y :: r)
    show bO (x ++ sCommaB ++ joinT (y :: r)) = _
    rw [bO_app, bO_app, ih, show bO sCommaB = 0 by decide]
    simp [sumO]
theorem namesT_cost (l : List ByteArray) : bO (namesT l) = 1 + sumO l := by
  rw [namesT, bO_app, bO_app, joinT_cost, bO_sO, bO_sC]
  rfl
theorem esc_cost : ∀ n : Nat, n < 256 → c40 (escT (UInt8.ofNat n)) = if n = 40 then 1 else 0 := by decide +kernel
theorem escs_cost : ∀ l : List UInt8, c40 (l.flatMap escT) = c40 l
  | [] => rfl
  | c :: r => by
    have h := esc_cost c.toNat c.toNat_lt
    rw [UInt8.ofNat_toNat] at h
    rw [List.flatMap_cons, c40_app, escs_cost r, c40_cons, h]
    simp only [beq_iff_eq]
    omega
theorem quoT_cost (s : ByteArray) : bO (quoT s) = bO s := by
  rw [quoT, bO_app, bO_app, bO_mk, escs_cost, show bO sQuote = 0 by decide]
  simp [bO]
theorem matsT_cost : ∀ k : Nat, bO (matsL.getD k ByteArray.empty) = 0
  | 0 => by decide
  | 1 => by decide
  | 2 => by decide
  | 3 => by decide
  | 4 => by decide
  | k + 5 => by
    have : matsL.getD (k + 5) ByteArray.empty = ByteArray.empty := by
      rw [List.getD_eq_getElem?_getD, List.getElem?_eq_none (by show 5 ≤ k + 5; omega)]
      rfl
    rw [this]
    decide
theorem matcherT_cost (m : Mat) : bO (matcherT m) = bO m.name + bO m.val := by
  rw [matcherT, bO_app, bO_app, matsT_cost, quoT_cost]
  rfl
theorem bracesT_cost (l : List Mat) : bO (bracesT l) = matsO l := by
  rw [bracesT, bO_app, bO_app, joinT_cost, show bO sCurl = 0 by decide, show bO sUncurl = 0 by decide, sumO, matsO, List.map_map]
  have : (bO ∘ matcherT) = fun m => bO m.name + bO m.val := by funext m; exact matcherT_cost m
  rw [this]
  omega
theorem sel0_cost (ms : List Mat) : bO (sel0 ms) = matsO ms := by
  by_cases h : namedT ms = true
  · obtain ⟨m, r, rfl, k1, k2, k3, k4, k5, k6⟩ := named_word h
    have e : matsO (m :: r) = bO m.val + matsO r := by
      show bO m.name + bO m.val + matsO r = _
      rw [k2, show bO sNameN = 0 by decide]
      omega
    unfold sel0
    rw [k5, k6, e]
    split
    · rename_i hr
      rw [hr.2]
      rfl
    · rw [bO_app, bracesT_cost]
  · rw [sel0, if_neg (fun hh => h hh.1), bO_app, bracesT_cost, headT, restT, if_neg h, if_neg h, show bO ByteArray.empty = 0 by decide]
    omega
theorem selT_cost (n : Nod) : bO (selT n) = matsO n.mat := by
  have h1 : bO (sel1T n) = matsO n.mat := by
    unfold sel1T
    split
    · rw [bO_app, bO_app, bO_app, sel0_cost, spanT_cost, show bO sSq = 0 by decide, show bO sUnsq = 0 by decide]; rfl
    · exact sel0_cost _
  unfold selT
  split
  · rw [bO_app, bO_app, h1, spanT_cost, show bO sOffsetB = 0 by decide]; rfl
  · exact h1
theorem getQ (p : List Sd) (k : Nat) : (p.map qS).getD k (0, 0) = qS (p.getD k sd0) := by
  rw [List.getD_eq_getElem?_getD, List.getD_eq_getElem?_getD, List.getElem?_map]
  cases p[k]? <;> rfl
theorem words_cost : ((List.range 14).all fun k => decide (bO (opsL.getD k ByteArray.empty) = 0) && decide (bO (funcsL.getD k ByteArray.empty) = 0) && decide (bO (aggsL.getD k ByteArray.empty) = 0)) = true := by decide +kernel
theorem word_cost {k : Nat} (h : k < 14) : bO (opsL.getD k ByteArray.empty) = 0 ∧ bO (funcsL.getD k ByteArray.empty) = 0 ∧ bO (aggsL.getD k ByteArray.empty) = 0 := by
  have := List.all_eq_true.1 words_cost k (List.mem_range.2 h)
  simp only [Bool.and_eq_true, decide_eq_true_eq] at this
  exact ⟨this.1.1, this.1.2, this.2⟩
theorem inB_at {lo hi k : Int} (h : inB lo hi k = true) : lo ≤ k ∧ k ≤ hi := by simpa [inB] using h
theorem bO_empty : bO ByteArray.empty = 0 := by decide
theorem say_cost {n : Nod} (hf : formB n = true) (p : List Sd) : qS (sayT n p) = stepC n (p.map qS) := by
  rcases form_node hf with ⟨e, h⟩ | ⟨hk, e, h1, h2, h3⟩ | ⟨e, h⟩ | ⟨e, h1, h2, h3⟩ | ⟨e, h1, h2, h3, h4⟩ | e
  · have k : n.kind = 1 := by rw [e]; rfl
    rw [sayT, stepC, if_pos k, if_pos k]
    rfl
  · have k : ¬ n.kind = 1 := by omega
    rw [sayT, stepC, if_neg k, if_neg k, if_pos hk, if_pos hk]
    show (bO (selT n), _) = _
    rw [selT_cost]
  · have k : n.kind = 4 := by rw [e]; rfl
    have e1 : ¬ n.kind = 1 := by omega
    have e23 : ¬ (n.kind = 2 ∨ n.kind = 3) := by omega
    rw [sayT, stepC, if_neg e1, if_neg e1, if_neg e23, if_neg e23, if_pos k, if_pos k, inside_cost, getQ]
    have hk := inB_at h
    rw [(word_cost (k := n.op.toNat) (by omega)).2.1]
    show (0 + 1 + bO _, _) = (bO _ + 1, _)
    rw [show ∀ x : Nat, 0 + 1 + x = x + 1 from fun x => by omega]
  · have k : n.kind = 5 := by rw [e]; rfl
    have e1 : ¬ n.kind = 1 := by omega
    have e23 : ¬ (n.kind = 2 ∨ n.kind = 3) := by omega
    have e4 : ¬ n.kind = 4 := by omega
    rw [sayT, stepC, if_neg e1, if_neg e1, if_neg e23, if_neg e23, if_neg e4, if_neg e4, if_pos k, if_pos k, inside_cost, getQ]
    have hk := inB_at h1
    have ha : bO (aggW n) = grpC 1 2 n.grp n.names := by
      rw [aggW, bO_app, (word_cost (k := n.op.toNat) (by omega)).2.2, grpC]
      rcases h3 with h | h | ⟨h, _⟩
      · rw [if_pos h, if_pos (.inl h), bO_app, bO_app, namesT_cost, show bO sByB = 0 by decide, show bO sBlank = 0 by decide]
        omega
      · rw [if_neg (by omega), if_pos h, if_pos (.inr h), bO_app, bO_app, namesT_cost, show bO sWithoutB = 0 by decide, show bO sBlank = 0 by decide]
        omega
      · rw [if_neg (by omega), if_neg (by omega), if_neg (by omega), bO_empty]
    rw [ha]
    show (_ + 1 + bO _, _) = (bO _ + 1 + _, _)
    rw [show ∀ x y : Nat, x + 1 + y = y + 1 + x from fun x y => by omega]
  · have k : n.kind = 6 := by rw [e]; rfl
    have e1 : ¬ n.kind = 1 := by omega
    have e23 : ¬ (n.kind = 2 ∨ n.kind = 3) := by omega
    have e4 : ¬ n.kind = 4 := by omega
    have e5 : ¬ n.kind = 5 := by omega
    rw [sayT, stepC, if_neg e1, if_neg e1, if_neg e23, if_neg e23, if_neg e4, if_neg e4, if_neg e5, if_neg e5, if_pos k, if_pos k, getQ, getQ]
    have hk := inB_at h1
    have hm : bO (binMid n) = grpC 3 4 n.grp n.names := by
      have ho : bO (opT n.op) = 0 := (word_cost (k := n.op.toNat) (by omega)).1
      rw [binMid, bO_app, grpC]
      have e1 : bO (if n.cmp = true then sBlank ++ opT n.op ++ sBoolB else sBlank ++ opT n.op) = 0 := by
        split
        · rw [bO_app, bO_app, ho]; decide
        · rw [bO_app, ho]; decide
      rw [e1]
      rcases h3 with h | h | ⟨h, _⟩
      · rw [if_pos h, if_pos (.inl h), bO_app, namesT_cost, show bO sOnB = 0 by decide]
        omega
      · rw [if_neg (by omega), if_pos h, if_pos (.inr h), bO_app, namesT_cost, show bO sIgnB = 0 by decide]
        omega
      · rw [if_neg (by omega), if_neg (by omega), if_neg (by omega), bO_empty]
    show (bO (_ ++ binMid n ++ sBlank ++ _), _) = _
    rw [bO_app, bO_app, bO_app, hm, within_cost, within_cost, show bO sBlank = 0 by decide]
    show (_, _) = (bO _ + lowC _ _ + (bO _ + lowC _ _) + _, _)
    congr 1
    simp only [qS]
    omega
  · have k : n.kind = 7 := by rw [e]; rfl
    have e1 : ¬ n.kind = 1 := by omega
    have e23 : ¬ (n.kind = 2 ∨ n.kind = 3) := by omega
    have e4 : ¬ n.kind = 4 := by omega
    have e5 : ¬ n.kind = 5 := by omega
    have e6 : ¬ n.kind = 6 := by omega
    rw [sayT, stepC, if_neg e1, if_neg e1, if_neg e23, if_neg e23, if_neg e4, if_neg e4, if_neg e5, if_neg e5, if_neg e6, if_neg e6, getQ]
    show (bO (sMinus ++ _), _) = _
    rw [bO_app, within_cost, show bO sMinus = 0 by decide]
    show (_, _) = (bO _ + lowC _ _, _)
    congr 1
    simp only [qS]
    omega
theorem show_cost : ∀ (ns : List Nod) (st st' : List Sd), (∀ n ∈ ns, formB n = true) → showF ns st = some st' → cntF ns (st.map qS) = st'.map qS
  | [], st, st', _, h => by
    injection h with h
    subst h
    rfl
  | n :: r, st, st', hf, h => by
    rw [showF] at h
    split at h
    · cases h
    · have ih := show_cost r _ st' (fun x hx => hf x (List.mem_cons_of_mem n hx)) h
      rw [cntF, ← ih, List.map_append, List.map_take, List.length_map, List.map_singleton, say_cost (hf n List.mem_cons_self), List.map_drop]
      rfl
theorem run_form : ∀ (ns : List Nod) (k : Nat) (st st' : List Int), runN' ns k st = .ok st' → ∀ n ∈ ns, formB n = true
  | [], _, _, _, _ => by simp
  | n :: r, k, st, st', h => by
    rw [runN'] at h
    by_cases h0 : (stepN st n).1 = 0
    · rw [if_pos h0] at h
      intro x hx
      rcases List.mem_cons.1 hx with rfl | hx
      · exact (stepN_parts h0).1
      · exact run_form r _ _ _ h x hx
    · rw [if_neg h0] at h; cases h
theorem showT_cost {ns : List Nod} {t : ByteArray} (h : showT ns = (t, 0)) : ∃ r, cntF ns [] = [(bO t, r)] := by
  unfold showT at h
  by_cases h1 : (checkN ns).2.2 ≠ 0 ∨ mayB ns = false
  · rw [if_pos h1] at h; injection h with _ h; cases h
  rw [if_neg h1] at h
  have hc : (checkN ns).2.2 = 0 := by
    by_cases q : (checkN ns).2.2 = 0
    · exact q
    · exact absurd (.inl q) h1
  have hck : checkN ns = ((checkN ns).1, (checkN ns).2.1, 0) := by rw [← hc]
  obtain ⟨r1, _, r3, _⟩ := checkN_ok hck
  have hmay : mayB ns = true := by
    cases q : mayB ns with
    | true => rfl
    | false => exact absurd (.inr q) h1
  cases hs : showF ns [] with
  | none => rw [hs] at h; injection h with _ h; cases h
  | some st =>
    rw [hs] at h
    injection h with h _
    have hcost := show_cost ns [] st (run_form ns 0 [] _ r1) hs
    obtain ⟨ps, e1, _, _, e4⟩ := show_inv ns 0 [] _ [] st rfl (fun x hx => by cases hx) r1 hmay hs
    obtain ⟨a, rfl⟩ : ∃ a, ps = [a] := List.length_eq_one_iff.1 e4.symm
    subst e1
    refine ⟨a.1.row, ?_⟩
    have e : t = a.1.text := h.symm
    rw [e]
    exact hcost
/-- A text with fewer brackets that open is another tree, or none. -/
theorem show_needs {ns : List Nod} {t t' : ByteArray} {a : Int} (h : showT ns = (t, 0)) (hlt : bO t' < bO t) : parseR t' ≠ (ns, a, 0) := by
  intro hp
  obtain ⟨r, h1⟩ := showT_cost h
  rcases parse_cost hp with rfl | ⟨o, r2, h2, h3⟩
  · simp [cntF] at h1
  have := h2 []
  rw [h1] at this
  injection this with this _
  injection this with this _
  omega
end Go.Proofs.YtakfnojiaakfpaaGreatDoor
