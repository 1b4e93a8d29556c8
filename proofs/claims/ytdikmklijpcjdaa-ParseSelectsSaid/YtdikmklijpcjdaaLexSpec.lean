/- What a query's text is cut into: plain. -/
import Derived.Test.YtdikmklijpcjdaaLexS
import Derived.Test.YtdikmklijpcjdaaLexG
namespace Go.Proofs.Ytdikmklijpcjdaa
open Go.RowKit

structure Tok where
  kind : Int
  at_ : Nat
  text : ByteArray
  span : Nat
def tokC (t : Tok) : List Value := [.int .i64 t.kind, .int .i64 t.at_, .string t.text, .int .i64 t.span]
def toksC (ts : List Tok) : List (List Value) := ts.map tokC
theorem toksC_len (ts : List Tok) : (toksC ts).length = ts.length := by simp [toksC]
theorem toksC_sz (ts : List Tok) : ∀ x ∈ toksC ts, x.length = 4 := by
  intro x hx
  obtain ⟨t, _, rfl⟩ := List.mem_map.1 hx
  rfl

inductive LexR where
  | ok (ts : List Tok)
  | err (p : Nat) (e : Int)
def LexR.pre (ds : List Tok) : LexR → LexR
  | .ok ts => .ok (ds ++ ts)
  | .err p e => .err p e

def blankB (c : UInt8) : Bool := c.toNat == 32 || c.toNat == 9 || c.toNat == 13 || c.toNat == 10
def numC (c : UInt8) : Bool := dchar c || (letB c && !(c.toNat == 58)) || c.toNat == 46
def wordC (c : UInt8) : Bool := letB c || dchar c
def runN (p : UInt8 → Bool) (l : List UInt8) : Nat := (l.takeWhile p).length
/-- What a text in quotes says, and how many bytes it has from here to behind its end; the flag: behind a backslash. -/
def textS : Bool → List UInt8 → Option (List UInt8 × Nat)
  | _, [] => none
  | false, c :: r => if c.toNat < 32 then none else if c.toNat = 34 then some ([], 1) else if c.toNat = 92 then (textS true r).map fun x => (x.1, x.2 + 1) else (textS false r).map fun x => (c :: x.1, x.2 + 1)
  | true, c :: r => if c.toNat = 34 ∨ c.toNat = 92 then (textS false r).map fun x => (c :: x.1, x.2 + 1) else if c.toNat = 110 then (textS false r).map fun x => (10 :: x.1, x.2 + 1) else none

def mkB (l : List UInt8) : ByteArray := ⟨l.toArray⟩
/-- The next step at a place where a text goes on: what it adds, and how many bytes it takes. -/
inductive OneR where
  | ok (ts : List Tok) (n : Nat)
  | err (p : Nat) (e : Int)
def numTok (at_ : Nat) (x : List UInt8) : OneR :=
  if 0 < spanN x then .ok [⟨2, at_, mkB x, spanN x⟩] x.length else if numB x then .ok [⟨1, at_, mkB x, 0⟩] x.length else .err at_ 172
def textTok (at_ : Nat) (k : Nat) (acc : List UInt8) : Option (List UInt8 × Nat) → OneR
  | some (x, n) => .ok [⟨4, at_, mkB (acc ++ x), 0⟩] (k + n)
  | none => .err at_ 173
def oneL (at_ : Nat) : List UInt8 → OneR
  | [] => .err at_ 0
  | c :: r =>
    if blankB c then .ok [] 1
    else if dchar c then numTok at_ ((c :: r).takeWhile numC)
    else if letB c then .ok [⟨3, at_, mkB ((c :: r).takeWhile wordC), 0⟩] (runN wordC (c :: r))
    else if c.toNat = 34 then textTok at_ 1 [] (textS false r)
    else if 0 < signN (c :: r) then .ok [⟨5, at_, mkB ((c :: r).take (signN (c :: r))), 0⟩] (signN (c :: r))
    else .err at_ 171
def lexF : Nat → Nat → List UInt8 → LexR
  | _, at_, [] => .ok [⟨0, at_, mkB [], 0⟩]
  | 0, at_, _ :: _ => .err at_ 0
  | f + 1, at_, c :: r => match oneL at_ (c :: r) with
    | .ok ts n => (lexF f (at_ + n) ((c :: r).drop n)).pre ts
    | .err p e => .err p e
def lexL (at_ : Nat) (l : List UInt8) : LexR := lexF l.length at_ l
def lexR (s : ByteArray) : LexR := if 4096 < s.size then .err 0 170 else lexL 0 s.data.toList

theorem dchar_numC {c : UInt8} (h : dchar c = true) : numC c = true := by simp [numC, h]
theorem letB_wordC {c : UInt8} (h : letB c = true) : wordC c = true := by simp [wordC, h]
theorem signN_le (l : List UInt8) : signN l ≤ l.length := by
  rw [signN]
  split
  · rename_i h
    simp at h
    omega
  · split
    · rename_i h
      cases l with
      | nil => simp at h
      | cons => simp
    · omega
theorem textS_le : ∀ (l : List UInt8) (b : Bool) (x : List UInt8) (n : Nat), textS b l = some (x, n) → 1 ≤ n ∧ n ≤ l.length
  | [], b, x, n, h => by cases b <;> simp [textS] at h
  | c :: r, false, x, n, h => by
    rw [textS] at h
    split at h
    · cases h
    · split at h
      · injection h with h; injection h with h1 h2; subst h2; simp
      · split at h
        all_goals
          simp only [Option.map_eq_some_iff] at h
          obtain ⟨⟨y, m⟩, hy, he⟩ := h
          injection he with h1 h2
          have := textS_le r _ y m hy
          simp at h2 ⊢; omega
  | c :: r, true, x, n, h => by
    rw [textS] at h
    split at h
    · simp only [Option.map_eq_some_iff] at h
      obtain ⟨⟨y, m⟩, hy, he⟩ := h
      injection he with h1 h2
      have := textS_le r _ y m hy
      simp at h2 ⊢; omega
    · split at h
      · simp only [Option.map_eq_some_iff] at h
        obtain ⟨⟨y, m⟩, hy, he⟩ := h
        injection he with h1 h2
        have := textS_le r _ y m hy
        simp at h2 ⊢; omega
      · cases h
theorem oneL_n {at_ : Nat} {l : List UInt8} {ts : List Tok} {n : Nat} (h : oneL at_ l = .ok ts n) : 1 ≤ n ∧ n ≤ l.length := by
  cases l with
  | nil => simp [oneL] at h
  | cons c r =>
    rw [oneL] at h
    by_cases h1 : blankB c = true
    · rw [if_pos h1] at h; injection h with _ h; subst h; simp
    rw [if_neg h1] at h
    by_cases h2 : dchar c = true
    · rw [if_pos h2, numTok] at h
      have hx : 1 ≤ ((c :: r).takeWhile numC).length := by rw [List.takeWhile_cons, if_pos (dchar_numC h2)]; simp
      have hy := (List.takeWhile_sublist numC (l := c :: r)).length_le
      split at h
      · injection h with _ h; omega
      · split at h
        · injection h with _ h; omega
        · cases h
    rw [if_neg h2] at h
    by_cases h3 : letB c = true
    · rw [if_pos h3] at h
      have hx : 1 ≤ runN wordC (c :: r) := by rw [runN, List.takeWhile_cons, if_pos (letB_wordC h3)]; simp
      have hy : runN wordC (c :: r) ≤ _ := (List.takeWhile_sublist wordC (l := c :: r)).length_le
      injection h with _ h; omega
    rw [if_neg h3] at h
    by_cases h4 : c.toNat = 34
    · rw [if_pos h4] at h
      cases ht : textS false r with
      | none => rw [ht, textTok] at h; cases h
      | some x =>
        obtain ⟨x, m⟩ := x
        rw [ht, textTok] at h
        have := textS_le r _ x m ht
        injection h with _ h; simp; omega
    rw [if_neg h4] at h
    by_cases h5 : 0 < signN (c :: r)
    · rw [if_pos h5] at h
      have := signN_le (c :: r)
      injection h with _ h; omega
    · rw [if_neg h5] at h; cases h
theorem lexF_more : ∀ (f : Nat) (at_ : Nat) (l : List UInt8), l.length ≤ f → lexF f at_ l = lexL at_ l := by
  intro f
  induction f using Nat.strongRecOn with
  | _ f ih =>
    intro at_ l hl
    cases l with
    | nil => cases f <;> rfl
    | cons c r =>
      cases f with
      | zero => simp at hl
      | succ f =>
        simp only [List.length_cons] at hl
        show (match oneL at_ (c :: r) with | .ok ts n => (lexF f (at_ + n) ((c :: r).drop n)).pre ts | .err p e => LexR.err p e) = lexF (r.length + 1) at_ (c :: r)
        rw [lexF]
        cases h : oneL at_ (c :: r) with
        | err p e => rfl
        | ok ts n =>
          have hn := oneL_n h
          have hd : ((c :: r).drop n).length ≤ r.length := by rw [List.length_drop, List.length_cons]; omega
          show (lexF f (at_ + n) ((c :: r).drop n)).pre ts = (lexF r.length (at_ + n) ((c :: r).drop n)).pre ts
          rw [ih f (by omega) (at_ + n) _ (by omega)]
          by_cases hf : r.length = f
          · rw [hf, ih f (by omega) (at_ + n) _ (by omega)]
          · rw [ih r.length (by omega) (at_ + n) _ hd]
theorem lexL_nil (at_ : Nat) : lexL at_ [] = .ok [⟨0, at_, mkB [], 0⟩] := rfl
theorem lexL_cons (at_ : Nat) (c : UInt8) (r : List UInt8) : lexL at_ (c :: r) = match oneL at_ (c :: r) with
    | .ok ts n => (lexL (at_ + n) ((c :: r).drop n)).pre ts
    | .err p e => .err p e := by
  show lexF (r.length + 1) at_ (c :: r) = _
  rw [lexF]
  cases h : oneL at_ (c :: r) with
  | err p e => rfl
  | ok ts n =>
    have hn := oneL_n h
    show (lexF r.length _ _).pre ts = (lexL _ _).pre ts
    rw [lexF_more r.length _ _ (by rw [List.length_drop, List.length_cons]; omega)]
theorem pre_nil (r : LexR) : r.pre [] = r := by cases r <;> rfl
theorem pre_pre (a b : List Tok) (r : LexR) : (r.pre b).pre a = r.pre (a ++ b) := by cases r <;> simp [LexR.pre]
end Go.Proofs.Ytdikmklijpcjdaa
