/- Plain laws of lexing: farther along; joined by a blank; laid anew. -/
import Derived.Test.YtdikmklijpcjdaaLexSpec
namespace Go.Proofs.Ytdikmklijpcjdaa
open Go.RowKit

def Tok.sh (d : Nat) (t : Tok) : Tok := { t with at_ := d + t.at_ }
def LexR.sh (d : Nat) : LexR → LexR
  | .ok ts => .ok (ts.map (Tok.sh d))
  | .err p e => .err (d + p) e
def OneR.sh (d : Nat) : OneR → OneR
  | .ok ts n => .ok (ts.map (Tok.sh d)) n
  | .err p e => .err (d + p) e
theorem oneL_sh (d p : Nat) (l : List UInt8) : oneL (d + p) l = (oneL p l).sh d := by
  cases l with
  | nil => rfl
  | cons c r =>
    simp only [oneL]
    split
    · rfl
    split
    · simp only [numTok]
      split
      · rfl
      split <;> rfl
    split
    · rfl
    split
    · cases textS false r <;> rfl
    split <;> rfl
theorem lexL_sh (d : Nat) : ∀ (n p : Nat) (l : List UInt8), l.length ≤ n → lexL (d + p) l = (lexL p l).sh d := by
  intro n
  induction n with
  | zero => intro p l hl; cases l with
    | nil => rfl
    | cons c r => simp at hl
  | succ n ih =>
    intro p l hl
    cases l with
    | nil => rfl
    | cons c r =>
      rw [lexL_cons, lexL_cons, oneL_sh]
      cases h : oneL p (c :: r) with
      | err q e => rfl
      | ok ts k =>
        have hk := oneL_n h
        show (lexL (d + p + k) ((c :: r).drop k)).pre (ts.map (Tok.sh d)) = ((lexL (p + k) ((c :: r).drop k)).pre ts).sh d
        rw [Nat.add_assoc, ih _ _ (by rw [List.length_drop]; omega)]
        cases lexL (p + k) ((c :: r).drop k) <;> simp [LexR.pre, LexR.sh]
theorem tw_join {q : UInt8 → Bool} {x : UInt8} (hx : q x = false) (b : List UInt8) : ∀ l : List UInt8, (l ++ x :: b).takeWhile q = l.takeWhile q
  | [] => by simp [hx]
  | c :: r => by simp only [List.cons_append, List.takeWhile_cons, tw_join hx b r]
theorem textS_join (b : List UInt8) : ∀ (l : List UInt8) (f : Bool) (x : List UInt8 × Nat), textS f l = some x → textS f (l ++ b) = some x
  | [], f, x, h => by cases f <;> simp [textS] at h
  | c :: r, false, x, h => by
    rw [List.cons_append]
    simp only [textS] at h ⊢
    split at h
    · cases h
    rw [if_neg (by assumption)]
    split at h
    · rw [if_pos (by assumption)]; exact h
    rw [if_neg (by assumption)]
    split at h
    all_goals
      simp only [Option.map_eq_some_iff] at h
      obtain ⟨y, hy, rfl⟩ := h
    · rw [if_pos (by assumption), textS_join b r _ y hy]; rfl
    · rw [if_neg (by assumption), textS_join b r _ y hy]; rfl
  | c :: r, true, x, h => by
    rw [List.cons_append]
    simp only [textS] at h ⊢
    split at h
    · rw [if_pos (by assumption)]
      simp only [Option.map_eq_some_iff] at h
      obtain ⟨y, hy, rfl⟩ := h
      rw [textS_join b r _ y hy]; rfl
    rw [if_neg (by assumption)]
    split at h
    · rw [if_pos (by assumption)]
      simp only [Option.map_eq_some_iff] at h
      obtain ⟨y, hy, rfl⟩ := h
      rw [textS_join b r _ y hy]; rfl
    · cases h
theorem blank_cases {x : UInt8} (h : blankB x = true) : x = 32 ∨ x = 9 ∨ x = 13 ∨ x = 10 := by
  simp only [blankB, Bool.or_eq_true, beq_iff_eq] at h
  rcases h with ((h | h) | h) | h
  · exact .inl (UInt8.toNat_inj.1 h)
  · exact .inr (.inl (UInt8.toNat_inj.1 h))
  · exact .inr (.inr (.inl (UInt8.toNat_inj.1 h)))
  · exact .inr (.inr (.inr (UInt8.toNat_inj.1 h)))
theorem blank_num {x : UInt8} (h : blankB x = true) : numC x = false ∧ wordC x = false := by
  rcases blank_cases h with rfl | rfl | rfl | rfl <;> decide
theorem sign2_blank (c : UInt8) {x : UInt8} (h : blankB x = true) : sign2 [c, x] = false := by
  rcases blank_cases h with rfl | rfl | rfl | rfl <;> simp [sign2]
theorem sign_join {x : UInt8} (hx : blankB x = true) (c : UInt8) (r b : List UInt8) : signN (c :: (r ++ x :: b)) = signN (c :: r) := by
  cases r with
  | nil => by_cases h : sign1 c = true <;> simp [signN, sign2_blank c hx, h]
  | cons d r => by_cases h : sign1 c = true <;> by_cases h2 : sign2 [c, d] = true <;> simp [signN, h, h2]
theorem one_join {x : UInt8} (hx : blankB x = true) {p n : Nat} {l : List UInt8} {ts : List Tok} (h : oneL p l = .ok ts n) (b : List UInt8) : oneL p (l ++ x :: b) = .ok ts n := by
  cases l with
  | nil => simp [oneL] at h
  | cons c r =>
    have e1 := tw_join (blank_num hx).1 b (c :: r)
    have e2 := tw_join (blank_num hx).2 b (c :: r)
    have e3 := sign_join hx c r b
    have hn := signN_le (c :: r)
    rw [List.cons_append] at e1 e2 ⊢
    simp only [oneL, runN, e1, e2, e3] at h ⊢
    split at h
    · rw [if_pos (by assumption)]; exact h
    rw [if_neg (by assumption)]
    split at h
    · rw [if_pos (by assumption)]; exact h
    rw [if_neg (by assumption)]
    split at h
    · rw [if_pos (by assumption)]; exact h
    rw [if_neg (by assumption)]
    split at h
    · rw [if_pos (by assumption)]
      cases ht : textS false r with
      | none => rw [ht] at h; cases h
      | some y => rw [textS_join _ _ _ _ ht]; rw [ht] at h; exact h
    rw [if_neg (by assumption)]
    split at h
    · rw [if_pos (by assumption), ← List.cons_append, List.take_append_of_le_length hn]; exact h
    · cases h
theorem lex_join : ∀ (m p : Nat) (l : List UInt8) (x : List Tok), l.length ≤ m → lexL p l = .ok x → ∃ ts, x = ts ++ [⟨0, p + l.length, mkB [], 0⟩] ∧ ∀ b, lexL p (l ++ 32 :: b) = (lexL (p + l.length + 1) b).pre ts := by
  intro m
  induction m with
  | zero => intro p l x hl h; cases l with
    | nil => rw [lexL_nil] at h; injection h with h; subst h; exact ⟨[], rfl, fun b => by rw [List.nil_append, lexL_cons]; rfl⟩
    | cons c r => simp at hl
  | succ m ih =>
    intro p l x hl h
    cases l with
    | nil => rw [lexL_nil] at h; injection h with h; subst h; exact ⟨[], rfl, fun b => by rw [List.nil_append, lexL_cons]; rfl⟩
    | cons c r =>
      rw [lexL_cons] at h
      cases ho : oneL p (c :: r) with
      | err q e => rw [ho] at h; cases h
      | ok ts k =>
        have hk := oneL_n ho
        have hk2 : k ≤ r.length + 1 := hk.2
        rw [ho] at h
        replace h : (lexL (p + k) ((c :: r).drop k)).pre ts = .ok x := h
        cases hr : lexL (p + k) ((c :: r).drop k) with
        | err q e => rw [hr] at h; cases h
        | ok y =>
          rw [hr] at h
          injection h with h
          subst h
          have hlen : p + k + ((c :: r).drop k).length = p + (c :: r).length := by rw [List.length_drop]; simp only [List.length_cons]; omega
          obtain ⟨ts2, rfl, hj⟩ := ih (p + k) _ y (by rw [List.length_drop]; omega) hr
          refine ⟨ts ++ ts2, by rw [hlen, List.append_assoc], fun b => ?_⟩
          have := one_join (x := 32) rfl ho b
          rw [List.cons_append] at this
          rw [List.cons_append, lexL_cons, this]
          show (lexL (p + k) ((c :: r ++ 32 :: b).drop k)).pre ts = _
          rw [List.drop_append_of_le_length hk.2, hj, hlen, pre_pre]
theorem lex_end {p : Nat} {l : List UInt8} {x : List Tok} (h : lexL p l = .ok x) : ∃ ts, x = ts ++ [⟨0, p + l.length, mkB [], 0⟩] :=
  let ⟨ts, h1, _⟩ := lex_join l.length p l x (Nat.le_refl _) h; ⟨ts, h1⟩
/-- Two texts with a blank between. -/
theorem lex_joins {a b : List UInt8} {ts : List Tok} (h : lexL 0 a = .ok (ts ++ [⟨0, a.length, mkB [], 0⟩])) : lexL 0 (a ++ 32 :: b) = ((lexL 0 b).sh (a.length + 1)).pre ts := by
  obtain ⟨ts2, h1, h2⟩ := lex_join a.length 0 a _ (Nat.le_refl _) h
  have : ts = ts2 := (List.append_inj' h1 rfl).1
  subst this
  have e := lexL_sh (a.length + 1) b.length 0 b (Nat.le_refl _)
  rw [h2, Nat.zero_add, ← e, Nat.add_zero]
end Go.Proofs.Ytdikmklijpcjdaa
