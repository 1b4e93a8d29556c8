/- How a query is read: what stays true of the reader's state. Plain. -/
import Derived.Test.YtdikmklijpcjdaaParS
namespace Go.Proofs.Ytdikmklijpcjdaa
open Go.RowKit

theorem PGood.on1 {M : Nat} {s : PS} (h : PGood M s) (hk : s.hd.kind ≠ 0) : PGood (M - 1) s.on := by
  have h1 := h.on hk
  have h2 := h.on_len
  have h3 := h.room
  refine ⟨h1.ends, ?_, h1.deep, h1.text⟩
  have : s.on.out = s.out := rfl
  rw [this]
  omega
theorem PGood.pos {M : Nat} {s : PS} (h : PGood M s) : 1 ≤ M ∧ 1 ≤ s.toks.length := by
  have := List.length_pos_iff.2 h.ends.ne
  have := h.room
  omega
theorem PGood.lay {M : Nat} {s : PS} (h : PGood (M - 1) s) (n : Nod) : PGood M (s.lay n) := by
  have := h.pos
  refine ⟨h.ends, ?_, h.deep, h.text⟩
  have := h.room
  simp only [PS.lay, List.length_append, List.length_cons, List.length_nil]
  omega
theorem PGood.more {M M' : Nat} {s : PS} (h : PGood M s) (hM : M ≤ M') : PGood M' s := ⟨h.ends, Nat.le_trans h.room hM, h.deep, h.text⟩
/-- A step: the state stays good, as deep as it was; so many tokens at the least are gone; nothing is laid. -/
structure Step (d : Nat) (s s' : PS) : Prop where
  good : ∀ M, PGood M s → PGood (M - d) s'
  deep : s'.deep = s.deep
  len : ∀ M, PGood M s → s'.toks.length + d ≤ s.toks.length
  out : s'.out = s.out
theorem Step.refl (s : PS) : Step 0 s s := ⟨fun _ h => h, rfl, fun _ _ => Nat.le_refl _, rfl⟩
theorem Step.trans {d1 d2 : Nat} {a b c : PS} (h : Step d1 a b) (k : Step d2 b c) : Step (d1 + d2) a c :=
  ⟨fun M hg => by have := k.good _ (h.good M hg); rw [Nat.sub_sub] at this; exact this, k.deep.trans h.deep, fun M hg => by have h1 := h.len M hg; have h2 := k.len _ (h.good M hg); omega, k.out.trans h.out⟩
theorem Step.on {s : PS} (hk : s.hd.kind ≠ 0) : Step 1 s s.on := ⟨fun _ h => h.on1 hk, rfl, fun _ h => by have := h.on_len; omega, rfl⟩
theorem Step.less {d d' : Nat} {a b : PS} (h : Step d a b) (hd : d' ≤ d) : Step d' a b := ⟨fun M hg => (h.good M hg).more (by omega), h.deep, fun M hg => by have := h.len M hg; omega, h.out⟩
theorem sign_step {s s' : PS} {t : ByteArray} (h : s.sign t = .ok s') : s' = s.on ∧ s.is 5 t = true ∧ Step 1 s s' := by
  unfold PS.sign at h
  split at h
  · rename_i h1
    injection h with h
    subst h
    exact ⟨rfl, h1, Step.on (by rw [is_kind h1]; decide)⟩
  · cases h
theorem name_step {s s' : PS} {x : ByteArray} (h : s.name = .ok (s', x)) : s' = s.on ∧ x = s.hd.text ∧ s.hd.kind = 3 ∧ nameB s.hd.text = true ∧ Step 1 s s' := by
  unfold PS.name at h
  split at h
  · rename_i h1
    injection h with h
    injection h with h2 h3
    subst h2 h3
    exact ⟨rfl, rfl, h1.1, h1.2, Step.on (by rw [h1.1]; decide)⟩
  · cases h
theorem comma_step {s s' : PS} {b : Bool} (h : s.comma b = .ok s') : Step 0 s s' := by
  unfold PS.comma at h
  split at h
  · injection h with h; subst h; exact Step.refl s
  · exact (sign_step h).2.2.less (by omega)
theorem namesF_step : ∀ (m : Nat) (s s' : PS) (acc l : List ByteArray), namesF m s acc = .ok (s', l) → Step 1 s s' ∧ ∀ M, PGood M s → l.length + s'.toks.length ≤ acc.length + s.toks.length
  | 0, s, s', acc, l, h => by simp [namesF] at h
  | m + 1, s, s', acc, l, h => by
    rw [namesF] at h
    split at h
    · rename_i h1
      injection h with h
      injection h with h2 h3
      subst h2 h3
      refine ⟨Step.on (by rw [is_kind h1]; decide), fun M hg => ?_⟩
      have := hg.on_len
      omega
    · split at h
      · cases h
      · rename_i s1 hc
        split at h
        · cases h
        · rename_i s2 x hn
          have h1 := comma_step hc
          have h2 := (name_step hn).2.2.2.2
          obtain ⟨h3, h4⟩ := namesF_step m s2 s' _ l h
          refine ⟨((h1.trans h2).trans h3).less (by omega), fun M hg => ?_⟩
          have g1 := h1.good M hg
          have g2 := h2.good _ g1
          have k1 := h1.len M hg
          have k2 := h2.len _ g1
          have k3 := h4 _ g2
          simp only [List.length_append, List.length_cons, List.length_nil] at k3
          omega
theorem names_step' {s s' : PS} {l : List ByteArray} (h : s.names = .ok (s', l)) : Step 1 s s' ∧ ∀ M, PGood M s → l.length ≤ s.toks.length := by
  unfold PS.names at h
  split at h
  · cases h
  · rename_i s1 hs
    have h1 := (sign_step hs).2.2
    obtain ⟨h2, h3⟩ := namesF_step _ _ _ _ _ h
    refine ⟨(h1.trans h2).less (by omega), fun M hg => ?_⟩
    have g1 := h1.good M hg
    have k1 := h1.len M hg
    have := h3 _ g1
    simp only [List.length_nil] at this
    omega
theorem group_step {s s' : PS} {w1 w2 : ByteArray} {k1 k2 g : Int} {l : List ByteArray} (h : s.group w1 w2 k1 k2 = .ok (s', g, l)) : Step 0 s s' ∧ (∀ M, PGood M s → l.length ≤ s.toks.length) := by
  unfold PS.group at h
  have key : ∀ {s0 s1 : PS} {l0 : List ByteArray}, s0.hd.kind ≠ 0 → s0.on.names = .ok (s1, l0) → Step 0 s0 s1 ∧ (∀ M, PGood M s0 → l0.length ≤ s0.toks.length) := by
    intro s0 s1 l0 hk hn
    obtain ⟨h1, h2⟩ := names_step' hn
    refine ⟨((Step.on hk).trans h1).less (by omega), fun M hg => ?_⟩
    have := h2 _ (hg.on1 hk)
    have := hg.on_len
    omega
  split at h
  · rename_i h1
    split at h
    · cases h
    · rename_i s1 l1 hn
      injection h with h
      injection h with h2 h3
      injection h3 with h3 h4
      subst h2 h4
      exact key (by rw [is_kind h1]; decide) hn
  · split at h
    · rename_i h1
      split at h
      · cases h
      · rename_i s1 l1 hn
        injection h with h
        injection h with h2 h3
        injection h3 with h3 h4
        subst h2 h4
        exact key (by rw [is_kind h1]; decide) hn
    · injection h with h
      injection h with h2 h3
      injection h3 with h3 h4
      subst h2 h4
      exact ⟨Step.refl s, fun M hg => by simp⟩
/-- What a part does to a good state. -/
def PartOk (f : PS → Rp PS) : Prop := ∀ s s', f s = .ok s' → s'.deep = s.deep ∧ ∀ M, PGood M s → PGood M s' ∧ s'.toks.length < s.toks.length
theorem Step.part {d : Nat} {s s1 : PS} (h : Step d s s1) (n : Nod) (hd : 1 ≤ d) : (s1.lay n).deep = s.deep ∧ ∀ M, PGood M s → PGood M (s1.lay n) ∧ (s1.lay n).toks.length < s.toks.length :=
  ⟨h.deep, fun M hg => ⟨((h.good M hg).more (by omega)).lay n, by have := h.len M hg; show s1.toks.length < _; omega⟩⟩
theorem rowF_ok {part : PS → Rp PS} (hp : PartOk part) (lo hi : Int) : ∀ (m : Nat) (s s' : PS), rowF part lo hi m s = .ok s' → s'.deep = s.deep ∧ ∀ M, PGood M s → PGood M s' ∧ s'.toks.length ≤ s.toks.length
  | 0, s, s', h => by
    simp only [rowF] at h
    injection h with h
    subst h
    exact ⟨rfl, fun M hg => ⟨hg, Nat.le_refl _⟩⟩
  | m + 1, s, s', h => by
    rw [rowF] at h
    split at h
    · injection h with h
      subst h
      exact ⟨rfl, fun M hg => ⟨hg, Nat.le_refl _⟩⟩
    · rename_i hend
      have hk : s.hd.kind ≠ 0 := by
        intro h0
        apply hend
        simp [PS.rowEnd, h0]
      split at h
      · cases h
      · rename_i s3 g l hg
        split at h
        · cases h
        · rename_i s4 hp4
          have h1 := Step.on hk
          have h2 : Step 0 s.on (if s.on.boolN (numW opsL s.hd.text) = true then s.on.on else s.on) := by
            split
            · rename_i hb
              simp only [PS.boolN, Bool.and_eq_true] at hb
              exact (Step.on (by rw [is_kind hb.2]; decide)).less (by omega)
            · exact Step.refl _
          have h3 := (group_step hg).1
          have h13 := (h1.trans h2).trans h3
          obtain ⟨k1, k2⟩ := hp _ _ hp4
          obtain ⟨r1, r2⟩ := rowF_ok hp lo hi m _ _ h
          refine ⟨r1.trans (k1.trans h13.deep), fun M hM => ?_⟩
          have g3 := h13.good M hM
          obtain ⟨g4, l4⟩ := k2 _ g3
          obtain ⟨g5, l5⟩ := r2 M ((g4.more (by omega)).lay _)
          have l3 := h13.len M hM
          refine ⟨g5, ?_⟩
          have l5' : s'.toks.length ≤ s4.toks.length := l5
          omega
theorem rowP_ok {part : PS → Rp PS} (hp : PartOk part) (lo hi : Int) : PartOk (rowP part lo hi) := by
  intro s s' h
  unfold rowP at h
  split at h
  · cases h
  · rename_i s1 h1
    obtain ⟨a1, a2⟩ := hp _ _ h1
    obtain ⟨b1, b2⟩ := rowF_ok hp lo hi _ _ _ h
    refine ⟨b1.trans a1, fun M hM => ?_⟩
    obtain ⟨g1, l1⟩ := a2 M hM
    obtain ⟨g2, l2⟩ := b2 M g1
    exact ⟨g2, by omega⟩
theorem orP_ok {u : PS → Rp PS} (hu : PartOk u) : PartOk (orP u) := rowP_ok (rowP_ok (rowP_ok (rowP_ok (rowP_ok hu _ _) _ _) _ _) _ _) _ _
theorem openP_ok {part : PS → Rp PS} (hp : PartOk part) : ∀ s s', s.hd.kind ≠ 0 → openP part s = .ok s' → s'.deep = s.deep ∧ ∀ M, PGood M s → PGood (M - 1) s' ∧ s'.toks.length + 1 < s.toks.length := by
  intro s s' hk h
  unfold openP at h
  split at h
  · cases h
  · rename_i hd
    split at h
    · cases h
    · rename_i s1 h1
      injection h with h
      subst h
      obtain ⟨a1, a2⟩ := hp _ _ h1
      refine ⟨by show s1.deep - 1 = s.deep; rw [a1]; rfl, fun M hM => ?_⟩
      have g := hM.on1 hk
      have hdl := hM.deep
      have g' : PGood (M - 1) ⟨s.toks.tail, s.deep + 1, s.out⟩ := ⟨g.ends, g.room, by show s.deep + 1 ≤ 64; omega, g.text⟩
      obtain ⟨g1, l1⟩ := a2 _ g'
      have := hM.on_len
      refine ⟨⟨g1.ends, g1.room, by show s1.deep - 1 ≤ 64; have := g1.deep; omega, g1.text⟩, ?_⟩
      have l1' : s1.toks.length < s.on.toks.length := l1
      show s1.toks.length + 1 < _
      omega
theorem innerP_ok {e : PS → Rp PS} (he : PartOk e) : PartOk (innerP e) := by
  intro s s' h
  unfold innerP at h
  split at h
  · cases h
  · rename_i s1 h1
    obtain ⟨a1, a2⟩ := he _ _ h1
    have h2 := (sign_step h).2.2
    refine ⟨h2.deep.trans a1, fun M hM => ?_⟩
    obtain ⟨g1, l1⟩ := a2 M hM
    have := h2.len _ g1
    exact ⟨(h2.good _ g1).more (by omega), by omega⟩
theorem bracketP_ok {e : PS → Rp PS} (he : PartOk e) : PartOk (bracketP e) := by
  intro s s' h
  unfold bracketP at h
  split at h
  · rename_i h1
    obtain ⟨a1, a2⟩ := openP_ok (innerP_ok he) s s' (by rw [is_kind h1]; decide) h
    exact ⟨a1, fun M hM => by obtain ⟨b1, b2⟩ := a2 M hM; exact ⟨b1.more (by omega), by omega⟩⟩
  · cases h
theorem span_step {s s' : PS} {v : Int} (h : s.span = .ok (s', v)) : Step 1 s s' := by
  unfold PS.span at h
  split at h
  · rename_i h1
    injection h with h
    injection h with h2 h3
    subst h2
    exact Step.on (by rw [h1]; decide)
  · cases h
theorem matchersF_step : ∀ (m : Nat) (b : Bool) (s s' : PS) (ms l : List Mat), matchersF m b s ms = .ok (s', l) → Step 1 s s'
  | 0, b, s, s', ms, l, h => by simp [matchersF] at h
  | m + 1, b, s, s', ms, l, h => by
    rw [matchersF] at h
    split at h
    · rename_i h1
      injection h with h
      injection h with h2 h3
      subst h2
      exact Step.on (by rw [is_kind h1]; decide)
    · split at h
      · cases h
      · rename_i s1 hc
        split at h
        · cases h
        · rename_i s2 nm hn
          split at h
          · cases h
          · rename_i hk2
            split at h
            · cases h
            · rename_i hk3
              split at h
              · cases h
              · rename_i ms2 ha
                have h1 := comma_step hc
                have h2 := (name_step hn).2.2.2.2
                have hk2' : s2.hd.kind = 5 := by
                  rcases Classical.em (s2.hd.kind = 5) with h' | h'
                  · exact h'
                  · exact absurd (.inl h') hk2
                have hk3' : s2.on.hd.kind = 4 := Classical.not_not.1 hk3
                have h3 := Step.on (s := s2) (by rw [hk2']; decide)
                have h4 := Step.on (s := s2.on) (by rw [hk3']; decide)
                have h5 := matchersF_step m false _ s' _ l h
                exact ((((h1.trans h2).trans h3).trans h4).trans h5).less (by omega)
theorem addM_ok {ms l : List Mat} {m : Mat} {a : Int} (h : addM ms m a = .ok l) : l = ms ++ [m] ∧ matCode l = 0 := by
  unfold addM at h
  split at h
  · rename_i h1
    injection h with h
    subst h
    exact ⟨rfl, h1⟩
  · cases h
theorem chooseP_step {s s' : PS} (h : chooseP s = .ok s') : ∃ s4 k m w b, s' = s4.lay (selN k m w b) ∧ Step 1 s s4 := by
  unfold chooseP at h
  split at h
  · cases h
  · rename_i s1 m1 h1
    split at h
    · cases h
    · rename_i s2 m2 h2
      split at h
      · cases h
      · rename_i s3 k w h3
        split at h
        · cases h
        · rename_i s4 b h4
          injection h with h
          refine ⟨s4, k, m2, w, b, h.symm, ?_⟩
          have e2 : Step 1 s s2 := by
            unfold PS.sel1 at h1
            split at h1
            · rename_i hw
              split at h1
              · cases h1
              · injection h1 with h1
                injection h1 with h1 h1'
                subst h1
                have hk : s.hd.kind ≠ 0 := by
                  simp only [PS.wordB, Bool.and_eq_true, decide_eq_true_eq] at hw
                  rw [hw.1]; decide
                unfold PS.sel2 at h2
                split at h2
                · rename_i hc
                  exact ((((Step.on hk).trans (Step.on (by rw [is_kind hc]; decide)))).trans (matchersF_step _ _ _ _ _ _ h2)).less (by omega)
                · injection h2 with h2
                  injection h2 with h2 h2'
                  subst h2
                  exact Step.on hk
            · rename_i hw
              injection h1 with h1
              injection h1 with h1 h1'
              subst h1
              unfold PS.sel2 at h2
              split at h2
              · rename_i hc
                exact ((Step.on (by rw [is_kind hc]; decide)).trans (matchersF_step _ _ _ _ _ _ h2)).less (by omega)
              · cases h2
          have e3 : Step 0 s2 s3 := by
            unfold PS.sel3 at h3
            split at h3
            · rename_i hc
              split at h3
              · cases h3
              · rename_i s5 w5 h5
                split at h3
                · cases h3
                · rename_i s6 h6
                  injection h3 with h3
                  injection h3 with h3 h3'
                  subst h3
                  exact (((Step.on (by rw [is_kind hc]; decide)).trans (span_step h5)).trans (sign_step h6).2.2).less (by omega)
            · injection h3 with h3
              injection h3 with h3 h3'
              subst h3
              exact Step.refl _
          have e4 : Step 0 s3 s4 := by
            unfold PS.sel4 at h4
            split at h4
            · rename_i hc
              exact ((Step.on (by rw [is_kind hc]; decide)).trans (span_step h4)).less (by omega)
            · injection h4 with h4
              injection h4 with h4 h4'
              subst h4
              exact Step.refl _
          exact (e2.trans e3).trans e4
theorem oneP_ok {e : PS → Rp PS} (he : PartOk e) : PartOk (oneP e) := by
  intro s s' h
  unfold oneP at h
  split at h
  · rename_i h1
    injection h with h
    subst h
    exact (Step.on (by rw [h1]; decide)).part _ (by omega)
  · split at h
    · exact bracketP_ok he s s' h
    · split at h
      · rename_i h1
        split at h
        · cases h
        · rename_i s1 hb
          injection h with h
          subst h
          have h0 := Step.on (s := s) (by rw [h1.1]; decide)
          obtain ⟨a1, a2⟩ := bracketP_ok he _ _ hb
          refine ⟨a1.trans h0.deep, fun M hM => ?_⟩
          obtain ⟨b1, b2⟩ := a2 _ (h0.good M hM)
          have := h0.len M hM
          exact ⟨b1.lay _, by show s1.toks.length < _; omega⟩
      · split at h
        · rename_i h1
          split at h
          · cases h
          · rename_i s1 g l hg
            split at h
            · cases h
            · rename_i s2 hb
              injection h with h
              subst h
              have h0 := (Step.on (s := s) (by rw [h1.1]; decide)).trans (group_step hg).1
              obtain ⟨a1, a2⟩ := bracketP_ok he _ _ hb
              refine ⟨a1.trans h0.deep, fun M hM => ?_⟩
              obtain ⟨b1, b2⟩ := a2 _ (h0.good M hM)
              have := h0.len M hM
              exact ⟨(b1.more (by omega)).lay _, by show s2.toks.length < _; omega⟩
        · obtain ⟨s4, k, m, w, b, rfl, hs⟩ := chooseP_step h
          exact hs.part _ (by omega)
theorem unaryP_ok : ∀ n, PartOk (unaryP n)
  | 0 => fun s s' h => by simp [unaryP] at h
  | n + 1 => fun s s' h => by
    rw [unaryP] at h
    split at h
    · rename_i h1
      split at h
      · cases h
      · rename_i s1 ho
        injection h with h
        subst h
        obtain ⟨a1, a2⟩ := openP_ok (unaryP_ok n) s s1 (by rw [is_kind h1]; decide) ho
        refine ⟨a1, fun M hM => ?_⟩
        obtain ⟨b1, b2⟩ := a2 M hM
        exact ⟨b1.lay _, by show s1.toks.length < _; omega⟩
    · exact oneP_ok (orP_ok (unaryP_ok n)) s s' h
end Go.Proofs.Ytdikmklijpcjdaa
