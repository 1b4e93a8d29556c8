/- How a query is read: a text that is not cut has a cause. Plain. -/
import Derived.Test.YtdikmklijpcjdaaLexSpec
namespace Go.Proofs.Ytdikmklijpcjdaa
open Go.RowKit

theorem numTok_err {at_ : Nat} {x : List UInt8} {q : Nat} {e : Int} (h : numTok at_ x = .err q e) : e ≠ 0 := by
  unfold numTok at h
  split at h
  · cases h
  · split at h
    · cases h
    · injection h with _ h; rw [← h]; decide
theorem textTok_err {at_ k : Nat} {acc : List UInt8} {o : Option (List UInt8 × Nat)} {q : Nat} {e : Int} (h : textTok at_ k acc o = .err q e) : e ≠ 0 := by
  cases o with
  | none => simp only [textTok] at h; injection h with _ h; rw [← h]; decide
  | some x => obtain ⟨x, n⟩ := x; simp only [textTok] at h; cases h
theorem oneL_err {at_ : Nat} {c : UInt8} {r : List UInt8} {q : Nat} {e : Int} (h : oneL at_ (c :: r) = .err q e) : e ≠ 0 := by
  rw [oneL] at h
  split at h
  · cases h
  · split at h
    · exact numTok_err h
    · split at h
      · cases h
      · split at h
        · exact textTok_err h
        · split at h
          · cases h
          · injection h with _ h; rw [← h]; decide
theorem lexL_err : ∀ (m p : Nat) (l : List UInt8) (q : Nat) (e : Int), l.length ≤ m → lexL p l = .err q e → e ≠ 0 := by
  intro m
  induction m with
  | zero =>
    intro p l q e hl h
    cases l with
    | nil => rw [lexL_nil] at h; cases h
    | cons c r => simp at hl
  | succ m ih =>
    intro p l q e hl h
    cases l with
    | nil => rw [lexL_nil] at h; cases h
    | cons c r =>
      rw [lexL_cons] at h
      cases ho : oneL p (c :: r) with
      | err q' e' =>
        rw [ho] at h
        dsimp only at h
        injection h with h1 h2
        subst h2
        exact oneL_err ho
      | ok ts n =>
        rw [ho] at h
        dsimp only at h
        have hn := oneL_n ho
        cases hr : lexL (p + n) ((c :: r).drop n) with
        | ok y => rw [hr] at h; simp only [LexR.pre] at h; cases h
        | err q' e' =>
          rw [hr] at h
          simp only [LexR.pre] at h
          injection h with h1 h2
          subst h2
          refine ih _ _ _ _ ?_ hr
          rw [List.length_drop]
          simp at hl ⊢; omega
theorem lexR_err {s : ByteArray} {q : Nat} {e : Int} (h : lexR s = .err q e) : e ≠ 0 := by
  rw [lexR] at h
  split at h
  · injection h with _ h; rw [← h]; decide
  · exact lexL_err _ _ _ _ _ (Nat.le_refl _) h
end Go.Proofs.Ytdikmklijpcjdaa
