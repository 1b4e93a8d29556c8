/- wave: sums, products, comparisons, floors, signs: what is handed back. -/
import Derived.Test.YtbnpleihhbpnlaaDoorWavB
import Derived.Test.YtbnpleihhbpnlaaDoorSpecL
namespace Go.Proofs.YtbnpleihhbpnlaaDoor
open Go.RowKit

def arithV (op : Int) (x y : Nat) : Nat := if op = 1 then opF .add x y else if op = 2 then opF .sub x y else if op = 3 then opF .mul x y else if op = 4 then opF .quo x y else 0
def arithOk (op : Int) : Bool := decide (op = 1 ∨ op = 2 ∨ op = 3 ∨ op = 4)
def compareV (op : Int) (x y : Nat) : Bool :=
  if op = 5 then eqF x y else if op = 6 then !eqF x y else if op = 7 then Ieee.double.order x y == some .lt else if op = 8 then leF x y else if op = 9 then gtF x y else if op = 10 then gtF x y || eqF x y else false
def compareOk (op : Int) : Bool := decide (op = 5 ∨ op = 6 ∨ op = 7 ∨ op = 8 ∨ op = 9 ∨ op = 10)
theorem to_raw (op : BinOp) (x y : Nat) (w : World) : toN (rawF op x y w) = opF op x y := by
  rw [eqN_toN.1 (rawF_eqN op x y w), toN_opF]
theorem tuple2 {a a' : Value} {b b' : Value} (h : a = a') (h2 : b = b') : Ending.returned (.tuple #[a, b]) = .returned (.tuple #[a', b']) := by rw [h, h2]
theorem int_eq {k : IntKind} {a b : Int} (h : a = b) : Value.int k a = .int k b := by rw [h]
theorem bool_eq {a b : Bool} (h : a = b) : Value.bool a = .bool b := by rw [h]
theorem arith_1 (x y : Nat) : arithV 1 x y = opF .add x y ∧ arithOk 1 = true := ⟨rfl, rfl⟩
theorem arith_2 (x y : Nat) : arithV 2 x y = opF .sub x y ∧ arithOk 2 = true := ⟨rfl, rfl⟩
theorem arith_3 (x y : Nat) : arithV 3 x y = opF .mul x y ∧ arithOk 3 = true := ⟨rfl, rfl⟩
theorem arith_4 (x y : Nat) : arithV 4 x y = opF .quo x y ∧ arithOk 4 = true := ⟨rfl, rfl⟩
theorem arith_0 {op : Int} (h1 : ¬ op = 1) (h2 : ¬ op = 2) (h3 : ¬ op = 3) (h4 : ¬ op = 4) (x y : Nat) : arithV op x y = 0 ∧ arithOk op = false := by
  unfold arithV arithOk
  rw [if_neg h1, if_neg h2, if_neg h3, if_neg h4]
  exact ⟨rfl, decide_eq_false (by omega)⟩
/-- What Arith hands back. -/
def ArithR (op : Int) (x y : Nat) (w : World) (e : Ending) (w' : World) : Prop := e = .returned (.tuple #[.int .u64 (arithV op x y), .bool (arithOk op)]) ∧ ∃ n, w' = w.drewN n
theorem arithR_of {op : Int} {x y : Nat} {w : World} {v : Nat} {b : Bool} {n : Nat} (h : arithV op x y = v ∧ arithOk op = b) : ArithR op x y w (.returned (.tuple #[.int .u64 (v : Int), .bool b])) (w.drewN n) := by
  obtain ⟨rfl, rfl⟩ := h
  exact ⟨rfl, n, rfl⟩
theorem arithR_raw {op : Int} {x y : Nat} {w wx : World} {o : BinOp} {b : Bool} {n : Nat} (h : arithV op x y = opF o x y ∧ arithOk op = b) : ArithR op x y w (.returned (.tuple #[.int .u64 (toN (rawF o x y wx) : Int), .bool b])) (w.drewN n) := by
  rw [to_raw]; exact arithR_of h
set_option maxRecDepth 100000 in
set_option maxHeartbeats 2000000 in
theorem arith_any (op a b : Int) (w : World) : Calls Tryd.prog 24 #[.int .i64 op, .int .u64 a, .int .u64 b] w fun e w' => ArithR op a.toNat b.toNat w e w' := by
  have HO := fun v W => Lib.hid (of_any v W)
  have HT := fun v W => Lib.hid (to_any v W)
  have hF := fun t x y W => run_float (P := Tryd.prog) .add rfl t x y W
  have hS := fun t x y W => run_float (P := Tryd.prog) .sub rfl t x y W
  have hM := fun t x y W => run_float (P := Tryd.prog) .mul rfl t x y W
  have hQ := fun t x y W => run_float (P := Tryd.prog) .quo rfl t x y W
  by_cases h1 : op = 1
  · subst h1
    go_enter Tryd.func24, Tryd.ntmps24
    go_wp2_with (first
      | (go_at_call 26; refine ((HO _ _).out).mono ?_; rintro e w' ⟨rfl, rfl⟩)
      | (go_at_call 22; refine ((HT _ _).out).mono ?_; rintro e w' ⟨rfl, rfl⟩)
      | simp only [hF, hS, hM, hQ])
    all_goals go_ret2
    all_goals exact arithR_raw (arith_1 _ _)
  · by_cases h2 : op = 2
    · subst h2
      go_enter Tryd.func24, Tryd.ntmps24
      go_wp2_with (first
        | (go_at_call 26; refine ((HO _ _).out).mono ?_; rintro e w' ⟨rfl, rfl⟩)
        | (go_at_call 22; refine ((HT _ _).out).mono ?_; rintro e w' ⟨rfl, rfl⟩)
        | simp only [hF, hS, hM, hQ])
      all_goals go_ret2
      all_goals exact arithR_raw (arith_2 _ _)
    · by_cases h3 : op = 3
      · subst h3
        go_enter Tryd.func24, Tryd.ntmps24
        go_wp2_with (first
          | (go_at_call 26; refine ((HO _ _).out).mono ?_; rintro e w' ⟨rfl, rfl⟩)
          | (go_at_call 22; refine ((HT _ _).out).mono ?_; rintro e w' ⟨rfl, rfl⟩)
          | simp only [hF, hS, hM, hQ])
        all_goals go_ret2
        all_goals exact arithR_raw (arith_3 _ _)
      · by_cases h4 : op = 4
        · subst h4
          go_enter Tryd.func24, Tryd.ntmps24
          go_wp2_with (first
            | (go_at_call 26; refine ((HO _ _).out).mono ?_; rintro e w' ⟨rfl, rfl⟩)
            | (go_at_call 22; refine ((HT _ _).out).mono ?_; rintro e w' ⟨rfl, rfl⟩)
            | simp only [hF, hS, hM, hQ])
          all_goals go_ret2
          all_goals exact arithR_raw (arith_4 _ _)
        · have H0 := Lib.hid (arith_0 h1 h2 h3 h4 a.toNat b.toNat)
          go_enter Tryd.func24, Tryd.ntmps24
          go_wp2_with (go_at_call 26; refine ((HO _ _).out).mono ?_; rintro e w' ⟨rfl, rfl⟩)
          all_goals go_ret2
          all_goals exact arithR_of (n := 0) H0.out
end Go.Proofs.YtbnpleihhbpnlaaDoor
