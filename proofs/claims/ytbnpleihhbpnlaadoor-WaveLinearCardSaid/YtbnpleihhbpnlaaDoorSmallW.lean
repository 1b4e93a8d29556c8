/- Small whole floats out of lists of integers; which operations of them are valid. -/
import Derived.Test.YtbnpleihhbpnlaaDoorSpecP
import Derived.Test.YtbnpleihhbpnlaaDoorWavF
import Derived.Test.YtbnpleihhbpnlaaDoorLow
namespace Go.Proofs.YtbnpleihhbpnlaaDoor
open Go.RowKit

def intC (l : List Int) : List (List Value) := l.map fun (z : Int) => [.int .i64 z]
theorem intC_at {l : List Int} {k : Nat} {z : Int} (h : l[k]? = some z) : (intC l)[k]? = some [.int .i64 z] := by unfold intC; rw [List.getElem?_map, h]; rfl
/-- The k-th of a list's numbers, cut to a thousand; nought where there is none. -/
def wkI (ws : List Int) (k : Nat) : Int := match ws[k]? with | some z => Int.tmod z 1000 | none => 0
theorem wkI_at {ws : List Int} {k : Nat} {z : Int} (h : ws[k]? = some z) : wkI ws k = Int.tmod z 1000 := by unfold wkI; rw [h]
theorem wkI_no {ws : List Int} {k : Nat} (h : ¬ k < ws.length) : wkI ws k = 0 := by unfold wkI; rw [List.getElem?_eq_none (by omega)]
theorem wkI_le (ws : List Int) (k : Nat) : (wkI ws k).natAbs ≤ 999 := by
  unfold wkI
  split
  · rename_i z _
    have h := Int.natAbs_tmod z 1000
    rw [h]
    have := Nat.mod_lt z.natAbs (show 0 < (1000 : Int).natAbs by decide)
    have e : (1000 : Int).natAbs = 1000 := rfl
    rw [e] at this ⊢
    omega
  · decide
/-- A whole number as a float. -/
def fltI (z : Int) : Nat := Ieee.double.nearest (decide (z < 0)) z.natAbs 0
theorem fltI_eq (z : Int) : floatOfInt .f64 z = fltI z := rfl
theorem fltI_nat (n : Nat) : fltI (n : Int) = Ieee.double.nearest false n 0 := by
  unfold fltI
  rw [Int.natAbs_natCast, show decide ((n : Int) < 0) = false from decide_eq_false (by omega)]
theorem fltI_val {z : Int} (h : z.natAbs ≤ 1998) : Val (fltI z) 1074 z := val_int (by omega)
theorem val_num {x e : Nat} {N : Int} (h : Val x e N) : nanN x = false ∧ x < 18446744073709551616 := by
  obtain ⟨hx, s, m, i, hr, _⟩ := h
  exact ⟨by rw [← read_nan, hr]; rfl, hx⟩
/-- The words of some numbers. -/
def wX (f : Nat → Int) (n : Nat) : List Nat := (List.range n).map fun k => fltI (f k)
theorem wX_len (f : Nat → Int) (n : Nat) : (wX f n).length = n := by unfold wX; rw [List.length_map, List.length_range]
theorem wX_add (f : Nat → Int) (k : Nat) : wX f (k + 1) = wX f k ++ [fltI (f k)] := by unfold wX; rw [List.range_succ, List.map_append]; rfl
theorem wX_at (f : Nat → Int) {n k : Nat} (h : k < n) : xg (wX f n) k = fltI (f k) := by
  unfold xg wX
  rw [List.getD_eq_getElem?_getD, List.getElem?_map, List.getElem?_range h]; rfl
theorem wX_small {f : Nat → Int} {n : Nat} (hn : sizeN n) (hf : ∀ k, (f k).natAbs ≤ 1998) : SmallX (xg (wX f n)) f n :=
  ⟨hn, fun k hk => ⟨by rw [wX_at f hk]; exact fltI_val (hf k), hf k⟩⟩
theorem sumF_same {x y : Nat → Nat} {n : Nat} (h : ∀ k, k < n → x k = y k) : sumF x n = sumF y n := by
  induction n with
  | zero => rfl
  | succ k ih => simp only [sumF]; rw [ih (fun j hj => h j (by omega)), h k (by omega)]
theorem sqF_same {x y : Nat → Nat} {n : Nat} (h : ∀ k, k < n → x k = y k) : sqF x n = sqF y n := by
  induction n with
  | zero => rfl
  | succ k ih => simp only [sqF]; rw [ih (fun j hj => h j (by omega)), h k (by omega)]
theorem spec_at {x : List Nat} {X : Nat → Int} {n : Nat} (h : SmallX (xg x) X n) {j : Nat} (hj : j < n) : (specR x n n)[j]? = some (lineR (xg x) n j) ∧ (specI x n n)[j]? = some (lineI (xg x) n j) := by
  unfold specR specI
  rw [List.getElem?_map, List.getElem?_map, List.getElem?_range hj]
  have h1 := (val_num (line_R h j).1).1
  have h2 := (val_num (line_I h j).1).1
  refine ⟨?_, ?_⟩
  · simp only [Option.map_some]; unfold toN; rw [if_neg (by rw [h1]; decide)]
  · simp only [Option.map_some]; unfold toN; rw [if_neg (by rw [h2]; decide)]
/-- A result that is a number was valid. -/
theorem some_of {op : BinOp} {x y : Nat} (h : nanN (opF op x y) = false) : floatBits op .f64 x y = some (opF op x y) := by
  unfold opF at h ⊢
  cases hb : floatBits op .f64 x y with
  | none => rw [hb] at h; exact absurd nan_nanW (by rw [show (none : Option Nat).getD nanW = nanW from rfl] at h; rw [h]; decide)
  | some r => rfl
theorem num_args {op : BinOp} {x y : Nat} (h : nanN (opF op x y) = false) : nanN x = false ∧ nanN y = false := by
  have hs := some_of h
  constructor
  · cases hx : nanN x with
    | false => rfl
    | true => rw [bits_nan (.inl hx)] at hs; cases hs
  · cases hy : nanN y with
    | false => rfl
    | true => rw [bits_nan (.inr hy)] at hs; cases hs
theorem run_num {P : Program} {op : BinOp} {x y : Nat} (h : nanN (opF op x y) = false) (t : TypeId) (w : World) : (binOp op t (.float .f64 x) (.float .f64 y)).run P w = .ok (.float .f64 (opF op x y)) w :=
  run_float_arith w op t .f64 x y _ (some_of h)
theorem order_num {x y : Nat} {o : Ordering} (h : Ieee.double.order x y = some o) : nanN x = false ∧ nanN y = false := by
  have h2 : (Ieee.double.order x y).isSome = (!nanN x && !nanN y) := by unfold Ieee.Format.order; rw [order_isSome, read_nan, read_nan]
  rw [h] at h2
  cases hx : nanN x <;> cases hy : nanN y <;> rw [hx, hy] at h2 <;> first | exact ⟨rfl, rfl⟩ | cases h2
theorem le_num {x y : Nat} (h : leF x y = true) : nanN x = false ∧ nanN y = false := by
  unfold leF at h
  cases ho : Ieee.double.order x y with
  | none => rw [ho] at h; cases h
  | some o => exact order_num ho
theorem abs_num {x : Nat} (h : nanN (absW x) = false) : nanN x = false := by
  unfold nanN absW at *
  simp at h ⊢
  exact h
/-- How many: 1, 2, 4 or 8. -/
theorem size_of (z : Int) : ∃ i n : Nat, Int.tmod (lowI z) 4 = (i : Int) ∧ i < 4 ∧ ([1, 2, 4, 8] : List Int)[i]? = some (n : Int) ∧ sizeN n := by
  obtain ⟨h1, _⟩ := lowI_nn z
  obtain ⟨l, hl⟩ := Int.eq_ofNat_of_zero_le h1
  rw [hl]
  refine ⟨l % 4, ([1, 2, 4, 8] : List Nat).getD (l % 4) 0, by rw [show (4 : Int) = ((4 : Nat) : Int) from rfl, Int.ofNat_tmod], Nat.mod_lt _ (by decide), ?_, ?_⟩
  · have h4 := Nat.mod_lt l (show 0 < 4 by decide)
    generalize l % 4 = i at *
    have : i = 0 ∨ i = 1 ∨ i = 2 ∨ i = 3 := by omega
    rcases this with rfl | rfl | rfl | rfl <;> rfl
  · have h4 := Nat.mod_lt l (show 0 < 4 by decide)
    generalize l % 4 = i at *
    have : i = 0 ∨ i = 1 ∨ i = 2 ∨ i = 3 := by omega
    unfold sizeN
    rcases this with rfl | rfl | rfl | rfl <;> decide
end Go.Proofs.YtbnpleihhbpnlaaDoor
