/- Floats in a walk: what an operation gives, up to which word of what is no number; draws. -/
import Derived.Test.YtbnpleihhbpnlaaDoorSpecI
import Derived.Test.YtbnpleihhbpnlaaDoorFloat
import Derived.Laws.FloatArith
import Derived.Deep.Draws
import Derived.Laws.NewFold
namespace Go.Proofs.YtbnpleihhbpnlaaDoor
open Go
/-- The same float, or both no number. -/
def EqN (x y : Nat) : Prop := x = y ∨ (nanN x = true ∧ nanN y = true)
/-- A float's normal word. -/
def toN (x : Nat) : Nat := if nanN x = true then nanW else x
theorem EqN.rfl_ (x : Nat) : EqN x x := .inl rfl
theorem nan_nanW : nanN nanW = true := by decide
theorem eqN_toN {x y : Nat} : EqN x y ↔ toN x = toN y := by
  unfold EqN toN
  constructor
  · rintro (rfl | ⟨h1, h2⟩)
    · rfl
    · rw [if_pos h1, if_pos h2]
  · intro h
    by_cases h1 : nanN x = true
    · by_cases h2 : nanN y = true
      · exact .inr ⟨h1, h2⟩
      · rw [if_pos h1, if_neg h2] at h
        rw [← h] at h2
        exact absurd nan_nanW h2
    · by_cases h2 : nanN y = true
      · rw [if_neg h1, if_pos h2] at h
        rw [h] at h1
        exact absurd nan_nanW h1
      · rw [if_neg h1, if_neg h2] at h
        exact .inl h
theorem EqN.symm {x y : Nat} (h : EqN x y) : EqN y x := eqN_toN.2 (eqN_toN.1 h).symm
theorem EqN.trans {x y z : Nat} (h : EqN x y) (h2 : EqN y z) : EqN x z := eqN_toN.2 ((eqN_toN.1 h).trans (eqN_toN.1 h2))
theorem toN_eqN (x : Nat) : EqN (toN x) x := by
  unfold EqN toN
  by_cases h : nanN x = true
  · rw [if_pos h]; exact .inr ⟨nan_nanW, h⟩
  · rw [if_neg h]; exact .inl rfl
theorem EqN.nan {x y : Nat} (h : EqN x y) : nanN x = nanN y := by
  rcases h with rfl | ⟨h1, h2⟩
  · rfl
  · rw [h1, h2]
theorem sum_nan {d e : Ieee.Datum} (h : d.isNaN = true ∨ e.isNaN = true) : d.sum e = none := by
  cases d <;> cases e <;> first | rfl | (rcases h with h | h <;> cases h)
theorem prod_nan {d e : Ieee.Datum} (h : d.isNaN = true ∨ e.isNaN = true) : d.product e = none := by
  cases d <;> cases e <;> first | rfl | (rcases h with h | h <;> cases h)
theorem quot_nan {k : Nat} {d e : Ieee.Datum} (h : d.isNaN = true ∨ e.isNaN = true) : d.quotient k e = none := by
  cases d <;> cases e <;> first | rfl | (rcases h with h | h <;> cases h)
theorem opp_nan (d : Ieee.Datum) : d.opposite.isNaN = d.isNaN := by cases d <;> rfl
/-- An operation, up to the word of what is no number. -/
def opF (op : BinOp) (x y : Nat) : Nat := (floatBits op .f64 x y).getD nanW
theorem opF_add (x y : Nat) : opF .add x y = addF x y := rfl
theorem opF_sub (x y : Nat) : opF .sub x y = subF x y := rfl
theorem opF_mul (x y : Nat) : opF .mul x y = mulF x y := rfl
theorem bits_nan {op : BinOp} {x y : Nat} (h : nanN x = true ∨ nanN y = true) : floatBits op .f64 x y = none := by
  rw [← read_nan, ← read_nan] at h
  cases op <;> first
    | rfl
    | (show Option.map _ ((Ieee.double.read x).sum (Ieee.double.read y)) = none; rw [sum_nan h]; rfl)
    | (show Option.map _ ((Ieee.double.read x).sum (Ieee.double.read y).opposite) = none; rw [sum_nan (by rw [opp_nan]; exact h)]; rfl)
    | (show Option.map _ ((Ieee.double.read x).product (Ieee.double.read y)) = none; rw [prod_nan h]; rfl)
    | (show Option.map _ ((Ieee.double.read x).quotient _ (Ieee.double.read y)) = none; rw [quot_nan h]; rfl)
theorem opF_eqN {op : BinOp} {x y x' y' : Nat} (hx : EqN x x') (hy : EqN y y') : opF op x y = opF op x' y' := by
  rcases hx with rfl | ⟨h1, h2⟩
  · rcases hy with rfl | ⟨h3, h4⟩
    · rfl
    · unfold opF; rw [bits_nan (.inr h3), bits_nan (.inr h4)]
  · unfold opF; rw [bits_nan (.inl h1), bits_nan (.inl h2)]
theorem numb_of {r : Nat} (h : r % 9223372036854775808 ≤ 9218868437227405312) : nanN r = false := by
  unfold nanN; exact decide_eq_false (by omega)
/-- A result is never the word of what is no number, but for the one that stands for none. -/
theorem bits_num {op : BinOp} {x y r : Nat} (h : floatBits op .f64 x y = some r) : nanN r = false ∧ r < 18446744073709551616 := by
  refine ⟨numb_of ?_, ?_⟩
  · cases op <;> first
      | (cases h; done)
      | (change Option.map Ieee.double.write ((Ieee.double.read x).sum (Ieee.double.read y)) = some r at h
         rw [Option.map_eq_some_iff] at h; obtain ⟨d, h1, h2⟩ := h; rw [← h2]; exact write_num (sum_num h1))
      | (change Option.map Ieee.double.write ((Ieee.double.read x).sum (Ieee.double.read y).opposite) = some r at h
         rw [Option.map_eq_some_iff] at h; obtain ⟨d, h1, h2⟩ := h; rw [← h2]; exact write_num (sum_num h1))
      | (change Option.map Ieee.double.write ((Ieee.double.read x).product (Ieee.double.read y)) = some r at h
         rw [Option.map_eq_some_iff] at h; obtain ⟨d, h1, h2⟩ := h; rw [← h2]; exact write_num (prod_num h1))
      | (change Option.map Ieee.double.write ((Ieee.double.read x).quotient _ (Ieee.double.read y)) = some r at h
         rw [Option.map_eq_some_iff] at h; obtain ⟨d, h1, h2⟩ := h; rw [← h2]; exact write_num (quot_num h1))
  · have := floatBits_wf h
    simpa [Lit.wf] using this
theorem toN_opF (op : BinOp) (x y : Nat) : toN (opF op x y) = opF op x y := by
  unfold opF
  cases h : floatBits op .f64 x y with
  | none => decide
  | some r => unfold toN; rw [Option.getD_some, (bits_num h).1, if_neg (by decide)]
theorem opF_lt (op : BinOp) (x y : Nat) : opF op x y < 18446744073709551616 := by
  unfold opF
  cases h : floatBits op .f64 x y with
  | none => decide
  | some r => exact (bits_num h).2
/-- What the walk meets: the word, and how many draws. -/
def rawF (op : BinOp) (x y : Nat) (w : World) : Nat := (floatBits op .f64 x y).getD ((Question.nanBits .f64 x y).cut (w.tape w.drawn (.nanBits .f64 x y)))
def drawsF (op : BinOp) (x y : Nat) : Nat := if (floatBits op .f64 x y).isSome then 0 else 1
theorem cut_nan (x y t : Nat) : nanN ((Question.nanBits .f64 x y).cut t) = true := by
  show nanN ((t % 2) * 2 ^ 63 + 0x7ff0000000000000 + 1 + (t / 2) % (2 ^ 52 - 1)) = true
  unfold nanN
  apply decide_eq_true
  rw [show (2 : Nat) ^ 63 = 9223372036854775808 from by decide, show (2 : Nat) ^ 52 - 1 = 4503599627370495 from by decide]
  generalize t / 2 = u
  have h1 : u % 4503599627370495 < 4503599627370495 := Nat.mod_lt _ (by decide)
  rcases Nat.mod_two_eq_zero_or_one t with h | h <;> rw [h] <;> omega
theorem cut_lt (x y t : Nat) : (Question.nanBits .f64 x y).cut t < 18446744073709551616 := by
  show (t % 2) * 2 ^ 63 + 0x7ff0000000000000 + 1 + (t / 2) % (2 ^ 52 - 1) < _
  rw [show (2 : Nat) ^ 63 = 9223372036854775808 from by decide, show (2 : Nat) ^ 52 - 1 = 4503599627370495 from by decide]
  generalize t / 2 = u
  have h1 : u % 4503599627370495 < 4503599627370495 := Nat.mod_lt _ (by decide)
  rcases Nat.mod_two_eq_zero_or_one t with h | h <;> rw [h] <;> omega
theorem rawF_lt (op : BinOp) (x y : Nat) (w : World) : rawF op x y w < 18446744073709551616 := by
  unfold rawF
  cases h : floatBits op .f64 x y with
  | none => exact cut_lt x y _
  | some r => exact (bits_num h).2
theorem rawF_eqN (op : BinOp) (x y : Nat) (w : World) : EqN (rawF op x y w) (opF op x y) := by
  unfold rawF opF
  cases floatBits op .f64 x y with
  | none => exact .inr ⟨cut_nan x y _, nan_nanW⟩
  | some r => exact .inl rfl
theorem eqN_op {op : BinOp} {x y x' y' : Nat} {w : World} (hx : EqN x x') (hy : EqN y y') : EqN (rawF op x y w) (opF op x' y') := by
  rw [← opF_eqN hx hy]; exact rawF_eqN ..
def isArith (op : BinOp) : Bool := op matches .add | .sub | .mul | .quo
theorem run_float {P : Program} (op : BinOp) (hop : isArith op = true) (t : TypeId) (x y : Nat) (w : World) :
    (binOp op t (.float .f64 x) (.float .f64 y)).run P w = .ok (.float .f64 (rawF op x y w)) (w.drewN (drawsF op x y)) := by
  cases h : floatBits op .f64 x y with
  | some r =>
    rw [run_float_arith w op t .f64 x y r h]
    unfold rawF drawsF
    rw [h]; rfl
  | none =>
    unfold rawF drawsF
    rw [h]
    unfold floatBits at h
    cases op <;> simp only [isArith, Bool.false_eq_true] at hop <;> simp only at h <;> (simp [binOp, Op.floatArith, h, Question.forced]; rfl)
end Go.Proofs.YtbnpleihhbpnlaaDoor
