/- How a query is read: tokens off the text. Plain. -/
import Derived.Test.YtdikmklijpcjdaaParG
namespace Go.Proofs.Ytdikmklijpcjdaa
open Go.RowKit

theorem textS_sz : ∀ (l : List UInt8) (b : Bool) (x : List UInt8) (n : Nat), textS b l = some (x, n) → x.length + 1 ≤ n
  | [], b, x, n, h => by cases b <;> simp [textS] at h
  | c :: r, false, x, n, h => by
    rw [textS] at h
    split at h
    · cases h
    · split at h
      · injection h with h; injection h with h1 h2; subst h1 h2; simp
      · split at h
        all_goals
          simp only [Option.map_eq_some_iff] at h
          obtain ⟨⟨y, m⟩, hy, he⟩ := h
          injection he with h1 h2
          have := textS_sz r _ y m hy
          subst h1 h2
          simp; omega
  | c :: r, true, x, n, h => by
    rw [textS] at h
    split at h
    · simp only [Option.map_eq_some_iff] at h
      obtain ⟨⟨y, m⟩, hy, he⟩ := h
      injection he with h1 h2
      have := textS_sz r _ y m hy
      subst h1 h2
      simp; omega
    · split at h
      · simp only [Option.map_eq_some_iff] at h
        obtain ⟨⟨y, m⟩, hy, he⟩ := h
        injection he with h1 h2
        have := textS_sz r _ y m hy
        subst h1 h2
        simp; omega
      · cases h
theorem mkB_size (l : List UInt8) : (mkB l).size = l.length := by
  rw [Lib.size_eq]
  simp [mkB]
/-- One step: at most one token, at its place, no longer than what it takes. -/
theorem oneL_tok {at_ : Nat} {l : List UInt8} {ts : List Tok} {n : Nat} (h : oneL at_ l = .ok ts n) : ts.length ≤ 1 ∧ ∀ t ∈ ts, t.kind ≠ 0 ∧ t.at_ = at_ ∧ t.text.size ≤ n := by
  cases l with
  | nil => simp [oneL] at h
  | cons c r =>
    rw [oneL] at h
    by_cases h1 : blankB c = true
    · rw [if_pos h1] at h; injection h with h _; subst h; simp
    rw [if_neg h1] at h
    by_cases h2 : dchar c = true
    · rw [if_pos h2, numTok] at h
      split at h
      · injection h with h hn; subst h hn; simp [mkB_size]
      · split at h
        · injection h with h hn; subst h hn; simp [mkB_size]
        · cases h
    rw [if_neg h2] at h
    by_cases h3 : letB c = true
    · rw [if_pos h3] at h
      injection h with h hn; subst h hn; simp [mkB_size, runN]
    rw [if_neg h3] at h
    by_cases h4 : c.toNat = 34
    · rw [if_pos h4] at h
      cases ht : textS false r with
      | none => rw [ht, textTok] at h; cases h
      | some x =>
        obtain ⟨x, m⟩ := x
        rw [ht, textTok] at h
        have := textS_sz r _ x m ht
        injection h with h hn; subst h hn; simp [mkB_size]; omega
    rw [if_neg h4] at h
    by_cases h5 : 0 < signN (c :: r)
    · rw [if_pos h5] at h
      injection h with h hn; subst h hn; simp [mkB_size]; omega
    · rw [if_neg h5] at h; cases h
/-- A token off a text whose end is at N. -/
def TokN (N : Nat) (t : Tok) : Prop := (t.kind = 0 ∧ t.at_ = N) ∨ (t.kind ≠ 0 ∧ t.at_ < N)
theorem lexL_toks : ∀ (m p : Nat) (l : List UInt8) (x : List Tok), l.length ≤ m → lexL p l = .ok x → Ends x ∧ x.length ≤ l.length + 1 ∧ ∀ t ∈ x, TokN (p + l.length) t ∧ t.text.size ≤ l.length := by
  intro m
  induction m with
  | zero =>
    intro p l x hl h
    cases l with
    | nil =>
      rw [lexL_nil] at h
      injection h with h
      subst h
      exact ⟨⟨_, rfl, rfl⟩, by simp, fun t ht => by simp at ht; subst ht; exact ⟨.inl ⟨rfl, rfl⟩, by simp [mkB_size]⟩⟩
    | cons c r => simp at hl
  | succ m ih =>
    intro p l x hl h
    cases l with
    | nil =>
      rw [lexL_nil] at h
      injection h with h
      subst h
      exact ⟨⟨_, rfl, rfl⟩, by simp, fun t ht => by simp at ht; subst ht; exact ⟨.inl ⟨rfl, rfl⟩, by simp [mkB_size]⟩⟩
    | cons c r =>
      rw [lexL_cons] at h
      cases ho : oneL p (c :: r) with
      | err q e => rw [ho] at h; cases h
      | ok ts n =>
        rw [ho] at h
        dsimp only at h
        have hn := oneL_n ho
        obtain ⟨t1, t2⟩ := oneL_tok ho
        have hdl : ((c :: r).drop n).length = (c :: r).length - n := List.length_drop
        cases hr : lexL (p + n) ((c :: r).drop n) with
        | err q e => rw [hr] at h; cases h
        | ok y =>
          simp only [hr, LexR.pre] at h
          injection h with h
          subst h
          obtain ⟨⟨e, i1, i1'⟩, i2, i3⟩ := ih (p + n) _ y (by rw [hdl]; simp at hl ⊢; omega) hr
          refine ⟨⟨e, by rw [List.getLast?_append, i1]; rfl, i1'⟩, by rw [List.length_append]; omega, fun t ht => ?_⟩
          rcases List.mem_append.1 ht with ht | ht
          · obtain ⟨k1, k2, k3⟩ := t2 t ht
            exact ⟨.inr ⟨k1, by omega⟩, by omega⟩
          · obtain ⟨k1, k2⟩ := i3 t ht
            rw [hdl] at k1 k2
            rw [show p + n + ((c :: r).length - n) = p + (c :: r).length from by omega] at k1
            exact ⟨k1, by omega⟩
theorem lexR_toks {s : ByteArray} {x : List Tok} (h : lexR s = .ok x) : Ends x ∧ x.length ≤ 4097 ∧ ∀ t ∈ x, TokN s.size t ∧ t.text.size ≤ 4096 := by
  rw [lexR] at h
  split at h
  · cases h
  · rename_i h4
    obtain ⟨h1, h2, h3⟩ := lexL_toks _ 0 _ x (Nat.le_refl _) h
    have hs : s.data.toList.length = s.size := (Lib.size_eq s).symm
    rw [hs] at h2 h3
    refine ⟨h1, by omega, fun t ht => ?_⟩
    obtain ⟨k1, k2⟩ := h3 t ht
    rw [Nat.zero_add] at k1
    exact ⟨k1, by omega⟩
theorem lexR_good {s : ByteArray} {x : List Tok} (h : lexR s = .ok x) : PGood 5000 ⟨x, 0, []⟩ := by
  obtain ⟨h1, h2, h3⟩ := lexR_toks h
  exact ⟨h1, by simp; omega, by simp, fun t ht => by have := (h3 t ht).2; omega⟩
end Go.Proofs.Ytdikmklijpcjdaa
