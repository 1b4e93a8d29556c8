/- What lex.Lex answers, by its plain spec; awake of chapter 17. -/
import Derived.Test.YtbhkoefbajflnaaLex
import Derived.Test.YtbhkoefbajflnaaTokL
namespace Go.Proofs.Ytbhkoefbajflnaa
open Go.RowKit

def LexGives (w : World) (ts : List Tok) (e : Ending) (w' : World) : Prop := ∃ A c, e = .returned (.tuple #[.slice A ts.length c, .int .i64 0, .int .i64 0]) ∧ Own w' w.heap.size 32 4 A ts.length c (toksC ts) ∧ Below w.heap.size w w'
def LexFails (w : World) (p : Nat) (x : Int) (e : Ending) (w' : World) : Prop := e = .returned (.tuple #[.slice none 0 0, .int .i64 p, .int .i64 x]) ∧ Below w.heap.size w w'
theorem lex_ok {s : ByteArray} {ts : List Tok} (h : lexR s = .ok ts) (w : World) (hs : s.size ≤ maxLen) : Calls Try.prog 15 #[.string s] w (LexGives w ts) :=
  (lex_any s w hs).mono fun e w' ⟨h1, h2⟩ => by rw [h] at h1; obtain ⟨A, c, h3, h4⟩ := h1; exact ⟨A, c, h3, h4, h2⟩
theorem lex_no {s : ByteArray} {p : Nat} {x : Int} (h : lexR s = .err p x) (w : World) (hs : s.size ≤ maxLen) : Calls Try.prog 15 #[.string s] w (LexFails w p x) :=
  (lex_any s w hs).mono fun e w' ⟨h1, h2⟩ => by rw [h] at h1; exact ⟨h1, h2⟩
def awToks : List Tok := [⟨3, 0, ⟨#[114, 97, 116, 101]⟩, 0⟩, ⟨5, 4, ⟨#[40]⟩, 0⟩, ⟨3, 5, ⟨#[120]⟩, 0⟩, ⟨5, 6, ⟨#[91]⟩, 0⟩, ⟨2, 7, ⟨#[53, 109]⟩, 300⟩, ⟨5, 9, ⟨#[93]⟩, 0⟩, ⟨5, 10, ⟨#[41]⟩, 0⟩, ⟨0, 11, ⟨#[]⟩, 0⟩]
theorem aw_lex1 : lexR ⟨#[114, 97, 116, 101, 40, 120, 91, 53, 109, 93, 41]⟩ = .ok awToks := by kernel_rfl
theorem aw_lex2 : lexR ⟨#[120, 32, 36]⟩ = .err 2 171 := by kernel_rfl
theorem oneL_code {p q : Nat} {c : UInt8} {r : List UInt8} {x : Int} (h : oneL p (c :: r) = .err q x) : 0 < x := by
  simp only [oneL] at h
  split at h
  · cases h
  split at h
  · simp only [numTok] at h
    split at h
    · cases h
    split at h <;> cases h
    omega
  split at h
  · cases h
  split at h
  · cases ht : textS false r <;> rw [ht] at h <;> cases h
    omega
  split at h <;> cases h
  omega
theorem lexL_code : ∀ (n p : Nat) (l : List UInt8) (q : Nat) (x : Int), l.length ≤ n → lexL p l = .err q x → 0 < x := by
  intro n
  induction n with
  | zero => intro p l q x hl h; cases l with
    | nil => cases h
    | cons c r => simp at hl
  | succ n ih =>
    intro p l q x hl h
    cases l with
    | nil => cases h
    | cons c r =>
      rw [lexL_cons] at h
      cases ho : oneL p (c :: r) with
      | err q' x' => rw [ho] at h; injection h with h1 h2; subst h1 h2; exact oneL_code ho
      | ok ts k =>
        rw [ho] at h
        have hk := oneL_n ho
        cases hr : lexL (p + k) ((c :: r).drop k) with
        | ok y => simp only [hr] at h; cases h
        | err q' x' =>
          simp only [hr, LexR.pre] at h
          injection h with h1 h2
          subst h1 h2
          exact ih _ _ _ _ (by rw [List.length_drop]; omega) hr
theorem lexR_code {s : ByteArray} {p : Nat} {x : Int} (h : lexR s = .err p x) : 0 < x := by
  rw [lexR] at h
  split at h
  · injection h with _ h; omega
  · exact lexL_code _ _ _ _ _ (Nat.le_refl _) h
def AwakeOk (w : World) (e : Ending) (w' : World) : Prop := e = .returned (.bool true) ∧ Below w.heap.size w w'
set_option maxRecDepth 100000 in
set_option maxHeartbeats 1000000 in
theorem awake17_any (w : World) : Calls Try.prog 18 #[] w (AwakeOk w) := by
  have H1 := fun W => Lib.hid (lex_ok aw_lex1 W (by simp only [maxLen]; decide))
  have H2 := fun W => Lib.hid (lex_no aw_lex2 W (by simp only [maxLen]; decide))
  have heq : ∀ W : World, (binOp .eql 32 (.agg #[.int .i64 2, .int .i64 7, .string ⟨#[53, 109]⟩, .int .i64 300]) (.agg #[.int .i64 2, .int .i64 7, .string ⟨#[53, 109]⟩, .int .i64 300])).run Try.prog W = .ok (.bool true) W := fun W => by
    rw [run_eql_struct, eqvTok]; rfl
  have hgl := guardTok
  go_enter Try.func18, Try.ntmps18
  go_wp2_with fail
  refine ((H1 _).out).mono ?_
  rintro e w1 ⟨A, c, rfl, ho, hb⟩
  obtain ⟨b, o, rfl, hlt, q0, q1, q2, q3⟩ := ho.rd.at_tok (k := 4) (l := ⟨2, 7, ⟨#[53, 109]⟩, 300⟩) rfl
  obtain ⟨rfl, _, hW⟩ := ho.wr _ _ rfl
  have hlt2 : w.heap.size ≤ w1.heap.size := hb.size
  go_wp2_with fail
  refine ((H2 _).out).mono ?_
  rintro e w2 ⟨rfl, hb2⟩
  have p0 : w2.cell? ⟨b, 16, none⟩ = some (.int .i64 2) := (hb2.cell (p := ⟨b, 16, none⟩) hlt).trans q0
  have p1 : w2.cell? ⟨b, 17, none⟩ = some (.int .i64 7) := (hb2.cell (p := ⟨b, 17, none⟩) hlt).trans q1
  have p2 : w2.cell? ⟨b, 18, none⟩ = some (.string ⟨#[53, 109]⟩) := (hb2.cell (p := ⟨b, 18, none⟩) hlt).trans q2
  have p3 : w2.cell? ⟨b, 19, none⟩ = some (.int .i64 300) := (hb2.cell (p := ⟨b, 19, none⟩) hlt).trans q3
  clear q0 q1 q2 q3
  go_wp2_with fail
  go_ret
  exact ⟨rfl, hb.trans (hb2.mono hlt2)⟩
end Go.Proofs.Ytbhkoefbajflnaa
