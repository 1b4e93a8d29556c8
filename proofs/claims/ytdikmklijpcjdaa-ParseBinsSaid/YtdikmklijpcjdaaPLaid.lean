/- What is laid: each node is as its tokens say. Plain. -/
import Derived.Test.YtdikmklijpcjdaaPQuery
import Derived.Test.YtdikmklijpcjdaaNodC
namespace Go.Proofs.Ytdikmklijpcjdaa
open Go.RowKit

theorem numF_in (w : ByteArray) : ∀ (l : List ByteArray) (st : Nat), numF st l w = 0 ∨ ((st : Int) ≤ numF st l w ∧ numF st l w < ((st + l.length : Nat) : Int))
  | [], st => by simp [numF]
  | x :: r, st => by
    rw [numF]
    split
    · right; simp only [List.length_cons]; omega
    · have := numF_in w r (st + 1)
      simp only [List.length_cons]
      omega
theorem numW_lt {l : List ByteArray} {w : ByteArray} {n : Nat} (hn : l.length = n) (h : 1 ≤ n) : numW l w < n := by
  have := numF_in w l 0
  unfold numW
  rw [hn] at this
  omega
/-- What holds of a node of each kind, given what holds of tokens. -/
structure Lays (T : Tok → Prop) (N : Nod → Prop) : Prop where
  num : ∀ t, T t → t.kind = 1 → N (numN t.text)
  sel : ∀ ms k w b, matCode ms = 0 → (k = 2 ∧ w = 0 ∨ k = 3 ∧ ∃ t, T t ∧ t.kind = 2 ∧ w = (t.span : Int)) → (b = 0 ∨ ∃ t, T t ∧ t.kind = 2 ∧ b = (t.span : Int)) → N (selN k ms w b)
  call : ∀ f, 1 ≤ f → f ≤ 12 → N (callN f)
  agg : ∀ a g l, 1 ≤ a → a ≤ 5 → (g = 0 ∧ l = [] ∨ g = 1 ∨ g = 2) → l.all nameB = true → l.length ≤ 5000 → N (aggN a g l)
  bin : ∀ op g l c, 1 ≤ op → op ≤ 13 → (g = 0 ∧ l = [] ∨ g = 3 ∨ g = 4) → l.all nameB = true → l.length ≤ 5000 → (c = true → 5 ≤ op ∧ op ≤ 10) → N (binN op g l c)
  neg : N negN
section
variable {T : Tok → Prop} {N : Nod → Prop}
structure AllS (T : Tok → Prop) (N : Nod → Prop) (s : PS) : Prop where
  toks : ∀ t ∈ s.toks, T t
  out : ∀ x ∈ s.out, N x
theorem AllS.on {s : PS} (h : AllS T N s) : AllS T N s.on := ⟨fun t ht => h.toks t (List.mem_of_mem_tail ht), h.out⟩
theorem AllS.hd {s : PS} (h : AllS T N s) {M : Nat} (hg : PGood M s) : T s.hd := by
  apply h.toks
  rw [hg.cons]
  exact List.mem_cons_self
theorem AllS.lay {s : PS} (h : AllS T N s) {x : Nod} (hx : N x) : AllS T N (s.lay x) := ⟨h.toks, fun y hy => by
  simp only [PS.lay, List.mem_append, List.mem_singleton] at hy
  rcases hy with hy | rfl
  · exact h.out y hy
  · exact hx⟩
theorem comma_all {s s1 : PS} {b : Bool} (hs : s.comma b = .ok s1) (h : AllS T N s) : AllS T N s1 := by
  unfold PS.comma at hs
  split at hs
  · injection hs with hs; subst hs; exact h
  · rw [(sign_step hs).1]; exact h.on
theorem namesF_all : ∀ (m : Nat) (s s1 : PS) (acc l : List ByteArray), namesF m s acc = .ok (s1, l) → AllS T N s → acc.all nameB = true → AllS T N s1 ∧ l.all nameB = true
  | 0, s, s1, acc, l, hs, _, _ => by simp [namesF] at hs
  | m + 1, s, s1, acc, l, hs, h, ha => by
    rw [namesF] at hs
    split at hs
    · injection hs with hs
      injection hs with h1 h2
      subst h1 h2
      exact ⟨h.on, ha⟩
    · split at hs
      · cases hs
      · rename_i s2 hc
        split at hs
        · cases hs
        · rename_i s3 x hn
          obtain ⟨e1, e2, _, e4, _⟩ := name_step hn
          refine namesF_all m s3 s1 _ l hs ?_ ?_
          · rw [e1]; exact (comma_all hc h).on
          · rw [List.all_append, ha, e2]; simp [e4]
theorem names_all {s s1 : PS} {l : List ByteArray} (hs : s.names = .ok (s1, l)) (h : AllS T N s) : AllS T N s1 ∧ l.all nameB = true := by
  unfold PS.names at hs
  split at hs
  · cases hs
  · rename_i s2 hc
    exact namesF_all _ _ _ _ _ hs (by rw [(sign_step hc).1]; exact h.on) rfl
theorem group_all {s s1 : PS} {w1 w2 : ByteArray} {k1 k2 g : Int} {l : List ByteArray} (hs : s.group w1 w2 k1 k2 = .ok (s1, g, l)) (h : AllS T N s) : AllS T N s1 ∧ l.all nameB = true ∧ (g = 0 ∧ l = [] ∨ g = k1 ∨ g = k2) := by
  unfold PS.group at hs
  split at hs
  · split at hs
    · cases hs
    · rename_i s2 l2 hn
      injection hs with hs
      injection hs with e1 e2
      injection e2 with e2 e3
      subst e1 e2 e3
      obtain ⟨a1, a2⟩ := names_all hn h.on
      exact ⟨a1, a2, .inr (.inl rfl)⟩
  · split at hs
    · split at hs
      · cases hs
      · rename_i s2 l2 hn
        injection hs with hs
        injection hs with e1 e2
        injection e2 with e2 e3
        subst e1 e2 e3
        obtain ⟨a1, a2⟩ := names_all hn h.on
        exact ⟨a1, a2, .inr (.inr rfl)⟩
    · injection hs with hs
      injection hs with e1 e2
      injection e2 with e2 e3
      subst e1 e2 e3
      exact ⟨h, rfl, .inl ⟨rfl, rfl⟩⟩
theorem matchersF_all : ∀ (m : Nat) (b : Bool) (s s1 : PS) (ms l : List Mat), matchersF m b s ms = .ok (s1, l) → AllS T N s → matCode ms = 0 → AllS T N s1 ∧ matCode l = 0
  | 0, b, s, s1, ms, l, hs, _, _ => by simp [matchersF] at hs
  | m + 1, b, s, s1, ms, l, hs, h, hm => by
    rw [matchersF] at hs
    split at hs
    · injection hs with hs
      injection hs with h1 h2
      subst h1 h2
      exact ⟨h.on, hm⟩
    · split at hs
      · cases hs
      · rename_i s2 hc
        split at hs
        · cases hs
        · rename_i s3 x hn
          split at hs
          · cases hs
          · split at hs
            · cases hs
            · split at hs
              · cases hs
              · rename_i ms2 ha
                refine matchersF_all m false _ s1 ms2 l hs ?_ (addM_ok ha).2
                have := (comma_all hc h).on
                rw [← (name_step hn).1] at this
                exact this.on.on
theorem span_all {s s1 : PS} {v : Int} (hs : s.span = .ok (s1, v)) (h : AllS T N s) {M : Nat} (hg : PGood M s) : AllS T N s1 ∧ ∃ t, T t ∧ t.kind = 2 ∧ v = (t.span : Int) := by
  unfold PS.span at hs
  split at hs
  · rename_i hk
    injection hs with hs
    injection hs with h1 h2
    subst h1 h2
    exact ⟨h.on, s.hd, h.hd hg, hk, rfl⟩
  · cases hs
theorem choose_all (hL : Lays T N) {s s1 : PS} (hs : chooseP s = .ok s1) (h : AllS T N s) {M : Nat} (hg : PGood M s) : AllS T N s1 := by
  unfold chooseP at hs
  split at hs
  · cases hs
  · rename_i t1 m1 h1
    have a1 : AllS T N t1 ∧ matCode m1 = 0 ∧ PGood M t1 := by
      unfold PS.sel1 at h1
      split at h1
      · rename_i hw
        split at h1
        · cases h1
        · rename_i ms ha
          injection h1 with h1
          injection h1 with e1 e2
          subst e1 e2
          exact ⟨h.on, (addM_ok ha).2, hg.on (word_kind hw)⟩
      · injection h1 with h1
        injection h1 with e1 e2
        subst e1 e2
        exact ⟨h, rfl, hg⟩
    split at hs
    · cases hs
    · rename_i t2 m2 h2
      have a2 : AllS T N t2 ∧ matCode m2 = 0 ∧ PGood M t2 := by
        unfold PS.sel2 at h2
        split at h2
        · rename_i hi
          have g1 := a1.2.2.on (by rw [is_kind hi]; decide)
          obtain ⟨b1, b2⟩ := matchersF_all _ _ _ _ _ _ h2 a1.1.on a1.2.1
          exact ⟨b1, b2, ((matchersF_step _ _ _ _ _ _ h2).good M g1).more (by omega)⟩
        · split at h2
          · injection h2 with h2
            injection h2 with e1 e2
            subst e1 e2
            exact a1
          · cases h2
      split at hs
      · cases hs
      · rename_i t3 k w h3
        have a3 : AllS T N t3 ∧ (k = 2 ∧ w = 0 ∨ k = 3 ∧ ∃ t, T t ∧ t.kind = 2 ∧ w = (t.span : Int)) ∧ PGood M t3 := by
          unfold PS.sel3 at h3
          split at h3
          · rename_i hi
            split at h3
            · cases h3
            · rename_i t5 w5 h5
              split at h3
              · cases h3
              · rename_i t6 h6
                injection h3 with h3
                injection h3 with e1 e2
                injection e2 with e2 e3
                subst e1 e2 e3
                have g1 := a2.2.2.on (by rw [is_kind hi]; decide)
                obtain ⟨b1, b2⟩ := span_all h5 a2.1.on g1
                have g5 := ((span_step h5).good M g1).more (Nat.sub_le _ _)
                have g6 := ((sign_step h6).2.2.good M g5).more (Nat.sub_le _ _)
                refine ⟨by rw [(sign_step h6).1]; exact b1.on, .inr ⟨rfl, b2⟩, g6⟩
          · injection h3 with h3
            injection h3 with e1 e2
            injection e2 with e2 e3
            subst e1 e2 e3
            exact ⟨a2.1, .inl ⟨rfl, rfl⟩, a2.2.2⟩
        split at hs
        · cases hs
        · rename_i t4 b h4
          injection hs with hs
          subst hs
          have a4 : AllS T N t4 ∧ (b = 0 ∨ ∃ t, T t ∧ t.kind = 2 ∧ b = (t.span : Int)) := by
            unfold PS.sel4 at h4
            split at h4
            · rename_i hi
              have g1 := a3.2.2.on (by rw [is_kind hi]; decide)
              obtain ⟨b1, b2⟩ := span_all h4 a3.1.on g1
              exact ⟨b1, .inr b2⟩
            · injection h4 with h4
              injection h4 with e1 e2
              subst e1 e2
              exact ⟨a3.1, .inl rfl⟩
          exact a4.1.lay (hL.sel _ _ _ _ a2.2.1 a3.2.1 a4.2)
/-- A part of the grammar. -/
def PartAll (T : Tok → Prop) (N : Nod → Prop) (f : PS → Rp PS) : Prop := ∀ s s1, f s = .ok s1 → AllS T N s → (∃ M, M ≤ 5000 ∧ PGood M s) → AllS T N s1
theorem rowF_all (hL : Lays T N) {part : PS → Rp PS} (hp : PartAll T N part) (hok : PartOk part) {lo hi : Int} (hlo : 1 ≤ lo) (hhi : hi ≤ 13) : ∀ (m : Nat) (s s1 : PS), rowF part lo hi m s = .ok s1 → AllS T N s → (∃ M, M ≤ 5000 ∧ PGood M s) → AllS T N s1
  | 0, s, s1, hs, h, _ => by
    simp only [rowF] at hs
    injection hs with hs
    subst hs
    exact h
  | m + 1, s, s1, hs, h, ⟨M, hM5, hM⟩ => by
    rw [rowF] at hs
    split at hs
    · injection hs with hs
      subst hs
      exact h
    · rename_i hend
      have hk : s.hd.kind ≠ 0 := by
        intro h0
        apply hend
        simp [PS.rowEnd, h0]
      have hop : lo ≤ numW opsL s.hd.text ∧ numW opsL s.hd.text ≤ hi := by
        have e : ∀ a b c d : Bool, ¬ (a || b || c || d) = true → b = false ∧ c = false := by decide
        obtain ⟨e1, e2⟩ := e _ _ _ _ hend
        have e1 := of_decide_eq_false e1
        have e2 := of_decide_eq_false e2
        omega
      split at hs
      · cases hs
      · rename_i s3 g l hg
        split at hs
        · cases hs
        · rename_i s4 hp4
          have h1 := Step.on hk
          have h2 : Step 0 s.on (if s.on.boolN (numW opsL s.hd.text) = true then s.on.on else s.on) := by
            split
            · rename_i hb
              simp only [PS.boolN, Bool.and_eq_true] at hb
              exact (Step.on (by rw [is_kind hb.2]; decide)).less (by omega)
            · exact Step.refl _
          have hA2 : AllS T N (if s.on.boolN (numW opsL s.hd.text) = true then s.on.on else s.on) := by
            split
            · exact h.on.on
            · exact h.on
          have h12 := h1.trans h2
          have h13 := h12.trans (group_step hg).1
          obtain ⟨a1, a2, a3⟩ := group_all hg hA2
          have hln := (group_step hg).2 _ (h12.good M hM)
          have hl2 := h12.len M hM
          have hro := hM.room
          have g3 := h13.good M hM
          have h4 := hp _ _ hp4 a1 ⟨_, by omega, g3⟩
          obtain ⟨_, k2⟩ := hok _ _ hp4
          obtain ⟨g4, _⟩ := k2 _ g3
          refine rowF_all hL hp hok hlo hhi m _ s1 hs (h4.lay (hL.bin _ _ _ _ (by omega) (by omega) a3 a2 (by omega) fun hb => ?_)) ⟨M, hM5, PGood.lay (g4.more (by omega)) _⟩
          simp only [PS.boolN, Bool.and_eq_true, decide_eq_true_eq] at hb
          exact hb.1
theorem rowP_all (hL : Lays T N) {part : PS → Rp PS} (hp : PartAll T N part) (hok : PartOk part) {lo hi : Int} (hlo : 1 ≤ lo) (hhi : hi ≤ 13) : PartAll T N (rowP part lo hi) := by
  intro s s1 hs h hg
  unfold rowP at hs
  split at hs
  · cases hs
  · rename_i s2 h2
    obtain ⟨M, hM5, hM⟩ := hg
    obtain ⟨_, k2⟩ := hok _ _ h2
    exact rowF_all hL hp hok hlo hhi _ _ _ hs (hp _ _ h2 h ⟨M, hM5, hM⟩) ⟨M, hM5, (k2 M hM).1⟩
theorem orP_all (hL : Lays T N) {u : PS → Rp PS} (hp : PartAll T N u) (hok : PartOk u) : PartAll T N (orP u) :=
  rowP_all hL (rowP_all hL (rowP_all hL (rowP_all hL (rowP_all hL hp hok (by decide) (by decide)) (rowP_ok hok _ _) (by decide) (by decide)) (rowP_ok (rowP_ok hok _ _) _ _) (by decide) (by decide)) (rowP_ok (rowP_ok (rowP_ok hok _ _) _ _) _ _) (by decide) (by decide)) (rowP_ok (rowP_ok (rowP_ok (rowP_ok hok _ _) _ _) _ _) _ _) (by decide) (by decide)
theorem openP_all {part : PS → Rp PS} (hp : PartAll T N part) {s s1 : PS} (hs : openP part s = .ok s1) (h : AllS T N s) (hk : s.hd.kind ≠ 0) (hg : ∃ M, M ≤ 5000 ∧ PGood M s) : AllS T N s1 := by
  unfold openP at hs
  split at hs
  · cases hs
  · rename_i hd
    split at hs
    · cases hs
    · rename_i s2 h2
      injection hs with hs
      subst hs
      obtain ⟨M, hM5, hM⟩ := hg
      have g := hM.on1 hk
      have hdl := hM.deep
      have g' : PGood (M - 1) ⟨s.toks.tail, s.deep + 1, s.out⟩ := ⟨g.ends, g.room, by show s.deep + 1 ≤ 64; omega, g.text⟩
      have := hp _ _ h2 ⟨h.on.toks, h.out⟩ ⟨M - 1, by omega, g'⟩
      exact ⟨this.toks, this.out⟩
theorem innerP_all {e : PS → Rp PS} (he : PartAll T N e) : PartAll T N (innerP e) := by
  intro s s1 hs h hg
  unfold innerP at hs
  split at hs
  · cases hs
  · rename_i s2 h2
    rw [(sign_step hs).1]
    exact (he _ _ h2 h hg).on
theorem bracketP_all {e : PS → Rp PS} (he : PartAll T N e) : PartAll T N (bracketP e) := by
  intro s s1 hs h hg
  unfold bracketP at hs
  split at hs
  · rename_i hi
    exact openP_all (innerP_all he) hs h (by rw [is_kind hi]; decide) hg
  · cases hs
theorem oneP_all (hL : Lays T N) {e : PS → Rp PS} (he : PartAll T N e) : PartAll T N (oneP e) := by
  intro s s1 hs h hg
  obtain ⟨M, hM5, hM⟩ := hg
  unfold oneP at hs
  split at hs
  · rename_i h1
    injection hs with hs
    subst hs
    exact h.on.lay (hL.num _ (h.hd hM) h1)
  · split at hs
    · exact bracketP_all he _ _ hs h ⟨M, hM5, hM⟩
    · split at hs
      · rename_i h1
        have hk : s.hd.kind ≠ 0 := by rw [h1.1]; decide
        split at hs
        · cases hs
        · rename_i s2 h2
          injection hs with hs
          subst hs
          exact (bracketP_all he _ _ h2 h.on ⟨M, hM5, hM.on hk⟩).lay (hL.call _ (by omega) (by
            have : numW funcsL s.hd.text < 13 := numW_lt (n := 13) rfl (by decide)
            omega))
      · split at hs
        · rename_i h1
          have hk : s.hd.kind ≠ 0 := by rw [h1.1]; decide
          split at hs
          · cases hs
          · rename_i s2 g l hgr
            split at hs
            · cases hs
            · rename_i s3 h3
              injection hs with hs
              subst hs
              obtain ⟨a1, a2, a3⟩ := group_all hgr h.on
              have hst := (Step.on hk).trans (group_step hgr).1
              have hln := (group_step hgr).2 _ (hM.on1 hk)
              have hl2 := (Step.on hk).len M hM
              have hro := hM.room
              refine (bracketP_all he _ _ h3 a1 ⟨_, by omega, hst.good M hM⟩).lay (hL.agg _ _ _ (by omega) ?_ a3 a2 (by omega))
              have : numW aggsL s.hd.text < 6 := numW_lt (n := 6) rfl (by decide)
              omega
        · exact choose_all hL hs h hM
theorem unaryP_all (hL : Lays T N) : ∀ n, PartAll T N (unaryP n)
  | 0 => fun s s1 hs _ _ => by simp [unaryP] at hs
  | n + 1 => fun s s1 hs h hg => by
    have ih := unaryP_all hL n
    rw [unaryP] at hs
    split at hs
    · rename_i hi
      split at hs
      · cases hs
      · rename_i s2 h2
        injection hs with hs
        subst hs
        exact (openP_all ih h2 h (by rw [is_kind hi]; decide) hg).lay hL.neg
    · exact oneP_all hL (orP_all hL ih (unaryP_ok n)) _ _ hs h hg
end
/-- What is read: all that is laid. -/
theorem parseR_all {T : Tok → Prop} {N : Nod → Prop} (hL : Lays T N) {s : ByteArray} (hT : ∀ x, lexR s = .ok x → ∀ t ∈ x, T t) : ∀ x ∈ (parseR s).1, N x := by
  unfold parseR
  split
  · intro x hx; cases hx
  · rename_i ts hl
    split
    · intro x hx; cases hx
    · rename_i st hr
      split
      · exact (orP_all hL (unaryP_all hL ts.length) (unaryP_ok _) _ _ hr ⟨hT ts hl, fun x hx => by cases hx⟩ ⟨5000, Nat.le_refl _, lexR_good hl⟩).out
      · intro x hx; cases hx
theorem parseR_len (s : ByteArray) : (parseR s).1.length ≤ 5000 := by
  unfold parseR
  split
  · simp
  · rename_i ts hl
    split
    · simp
    · rename_i st hr
      split
      · have := ((orP_ok (unaryP_ok ts.length) _ _ hr).2 5000 (lexR_good hl)).1.room
        dsimp only
        omega
      · simp
theorem okNod_lays : Lays (fun _ => True) okNod where
  num _ _ _ := ⟨by simp [numN], by simp [numN]⟩
  sel ms k w b hm _ _ := ⟨by
    have : ms.length ≤ 8 := by
      rcases Nat.lt_or_ge 8 ms.length with h | h
      · rw [matCode, if_pos h] at hm; simp at hm
      · exact h
    simp only [selN]; omega, by simp [selN]⟩
  call _ _ _ := ⟨by simp [callN], by simp [callN]⟩
  agg _ _ l _ _ _ _ hl := ⟨by simp [aggN], by simp only [aggN]; omega⟩
  bin _ _ l _ _ _ _ _ hl _ := ⟨by simp [binN], by simp only [binN]; omega⟩
  neg := ⟨by simp [negN], by simp [negN]⟩
theorem parseR_okNod (s : ByteArray) : ∀ x ∈ (parseR s).1, okNod x := parseR_all okNod_lays fun _ _ _ _ => trivial
end Go.Proofs.Ytdikmklijpcjdaa
