/- WaveSums, plain: what its comparisons compare, and that its operations are valid. -/
import Derived.Test.YtbnpleihhbpnlaaDoorSmallW
import Derived.Test.YtbnpleihhbpnlaaDoorWavG
namespace Go.Proofs.YtbnpleihhbpnlaaDoor
open Go.RowKit

theorem mirror_num {x : Nat → Nat} {X : Nat → Int} {n : Nat} (hx : SmallX x X n) (j i : Nat) : nanN (opF .sub (lineR x n j) (lineR x n i)) = false ∧ nanN (opF .add (lineI x n j) (lineI x n i)) = false := by
  constructor
  · obtain ⟨x1, x2, x3⟩ := line_R hx j
    obtain ⟨y1, y2, y3⟩ := line_R hx i
    exact (val_num (subF_val x1 y1 (k := 70) (lt_70 (by omega)) (by decide))).1
  · obtain ⟨x1, x2, x3⟩ := line_I hx j
    obtain ⟨y1, y2, y3⟩ := line_I hx i
    exact (val_num (addF_val x1 y1 (k := 70) (lt_70 (by omega)) (by decide))).1
theorem all_num {x : Nat → Nat} {X : Nat → Int} {n : Nat} (hx : SmallX x X n) {j : Nat} (hj : j ≤ n) : nanN (allF (lineR x n) (lineI x n) j) = false := by
  have hn := size_le hx.size
  have d1 := ssq_dev (F := AR X n) (G := AI X n) (R := SR X n) (I := SI X n) (n := n) (fun j _ => (line_R hx j).2.1) (fun j _ => (line_I hx j).2.1) n (Nat.le_refl n)
  have d2 := ssq_bound (n := n) (fun j => (line_R hx j).2.2) (fun j => (line_I hx j).2.2) n (Nat.le_refl n)
  have p1 := ssq_nonneg (AR X n) (AI X n) n
  have p2 := ssq_nonneg (SR X n) (SI X n) n
  have n1 : (n : Int) * 332306998946228968225951765070086144 ≤ 8 * 332306998946228968225951765070086144 := Int.mul_le_mul_of_nonneg_right (by omega) (by decide)
  have n2 : (n : Int) * 41455339656917010573213371093309944448768 ≤ 8 * 41455339656917010573213371093309944448768 := Int.mul_le_mul_of_nonneg_right (by omega) (by decide)
  exact (val_num (all_val (a := lineR x n) (b := lineI x n) (F := AR X n) (G := AI X n) (n := n) hn (fun j _ => (line_R hx j).1) (fun j _ => (line_I hx j).1) (by omega) j hj).1).1
/-- What is known of the floats that WaveSums makes. -/
structure SumsF (ws : List Int) (n : Nat) : Prop where
  small : SmallX (xg (wX (wkI ws) n)) (wkI ws) n
  sum : ∀ k, k ≤ n → nanN (sumF (fun i => fltI (wkI ws i)) k) = false
  sq : ∀ k, k ≤ n → nanN (sqF (fun i => fltI (wkI ws i)) k) = false
  first : eqF (lineR (xg (wX (wkI ws) n)) n 0) (sumF (fun i => fltI (wkI ws i)) n) = true
  zero : eqF (lineI (xg (wX (wkI ws) n)) n 0) 0 = true
  pars : leF (absW (subF (allF (lineR (xg (wX (wkI ws) n)) n) (lineI (xg (wX (wkI ws) n)) n) n) (mulF (fltI n) (sqF (fun i => fltI (wkI ws i)) n))))
    (mulF milF (addF 4607182418800017408 (allF (lineR (xg (wX (wkI ws) n)) n) (lineI (xg (wX (wkI ws) n)) n) n))) = true
  pow : (gtF (powerV (wX (wkI ws) n) n) 0 || eqF (powerV (wX (wkI ws) n) n) 0) = true
  powlt : powerV (wX (wkI ws) n) n < 18446744073709551616
theorem sums_of (ws : List Int) {n : Nat} (hn : sizeN n) : SumsF ws n := by
  have hx := wX_small (f := wkI ws) hn (fun k => Nat.le_trans (wkI_le ws k) (by decide))
  have h8 := size_le hn
  have hs : ∀ k, k < n → xg (wX (wkI ws) n) k = fltI (wkI ws k) := fun k hk => wX_at _ hk
  have e1 : ∀ k, k ≤ n → sumF (fun i => fltI (wkI ws i)) k = sumF (xg (wX (wkI ws) n)) k := fun k hk => sumF_same fun i hi => (hs i (by omega)).symm
  have e2 : ∀ k, k ≤ n → sqF (fun i => fltI (wkI ws i)) k = sqF (xg (wX (wkI ws) n)) k := fun k hk => sqF_same fun i hi => (hs i (by omega)).symm
  obtain ⟨f1, f2⟩ := first_part hx (sum_val h8 hx.val n (Nat.le_refl n)).1
  refine ⟨hx, fun k hk => ?_, fun k hk => ?_, ?_, f2, ?_, ?_, opF_lt _ _ _⟩
  · rw [e1 k hk]; exact (val_num (sum_val h8 hx.val k hk).1).1
  · rw [e2 k hk]; exact (val_num (sq_val h8 hx.val k hk).1).1
  · rw [e1 n (Nat.le_refl n)]; exact f1
  · rw [e2 n (Nat.le_refl n), fltI_nat]; exact parseval hx
  · obtain ⟨p1, p2⟩ := power_pos hx (1 % n)
    change Ieee.double.order (powerV (wX (wkI ws) n) n) 0 ≠ some .lt at p1
    change Ieee.double.order (powerV (wX (wkI ws) n) n) 0 ≠ none at p2
    unfold gtF eqF
    cases ho : Ieee.double.order (powerV (wX (wkI ws) n) n) 0 with
    | none => exact absurd ho p2
    | some o => cases o with
      | lt => exact absurd ho p1
      | eq => rfl
      | gt => rfl
/-- The same, in the walk's words. -/
structure SumsG (R I : Nat → Nat) (S Q p n : Nat) : Prop where
  first : (FloatKind.f64.format.order (R 0) S != some .eq) = false
  zero : (FloatKind.f64.format.order (I 0) 0 != some .eq) = false
  subn : ∀ j i, nanN (opF .sub (R j) (R i)) = false
  addn : ∀ j i, nanN (opF .add (I j) (I i)) = false
  subm : ∀ j, j < n → (FloatKind.f64.format.order (absW (opF .sub (R j) (R ((n - j) % n)))) 4517329193108106637 == some .gt) = false
  addm : ∀ j, j < n → (FloatKind.f64.format.order (absW (opF .add (I j) (I ((n - j) % n)))) 4517329193108106637 == some .gt) = false
  alln : ∀ j, j ≤ n → nanN (allF R I j) = false
  parsa : nanN (opF .sub (allF R I n) (opF .mul (fltI n) Q)) = false
  parsb : nanN (opF .mul 4517329193108106637 (opF .add 4607182418800017408 (allF R I n))) = false
  pars : (FloatKind.f64.format.order (absW (opF .sub (allF R I n) (opF .mul (fltI n) Q))) (opF .mul 4517329193108106637 (opF .add 4607182418800017408 (allF R I n))) == some .lt ||
    FloatKind.f64.format.order (absW (opF .sub (allF R I n) (opF .mul (fltI n) Q))) (opF .mul 4517329193108106637 (opF .add 4607182418800017408 (allF R I n))) == some .eq) = true
  pow : (FloatKind.f64.format.order p 0 == some .gt || FloatKind.f64.format.order p 0 == some .eq) = true
theorem ne_of_eqF {x y : Nat} (h : eqF x y = true) : (FloatKind.f64.format.order x y != some .eq) = false := by
  unfold eqF at h
  rw [beq_iff_eq] at h
  show (Ieee.double.order x y != some .eq) = false
  rw [h]; rfl
theorem sums_g {ws : List Int} {n : Nat} (h : SumsF ws n) : SumsG (lineR (xg (wX (wkI ws) n)) n) (lineI (xg (wX (wkI ws) n)) n) (sumF (fun i => fltI (wkI ws i)) n) (sqF (fun i => fltI (wkI ws i)) n) (powerV (wX (wkI ws) n) n) n where
  first := ne_of_eqF h.first
  zero := ne_of_eqF h.zero
  subn := fun j i => (mirror_num h.small j i).1
  addn := fun j i => (mirror_num h.small j i).2
  subm := fun _ hj => (mirror h.small hj).1
  addm := fun _ hj => (mirror h.small hj).2
  alln := fun _ hj => all_num h.small hj
  parsa := abs_num (le_num h.pars).1
  parsb := (le_num h.pars).2
  pars := h.pars
  pow := h.pow
/-- The cells of a row of words. -/
theorem rd_cells {w : World} {B : Nat} {A : Option Addr} {l : List Nat} (h : Rd w B 1 A (wrdC l)) (hl : 0 < l.length) : ∃ b o, A = some ⟨b, o, none⟩ ∧ b < B ∧ ∀ (j x : Nat), l[j]? = some x → w.cell? ⟨b, o + j, none⟩ = some (.int .u64 (x : Int)) := by
  obtain ⟨x, hx⟩ : ∃ x, l[0]? = some x := ⟨_, List.getElem?_eq_getElem hl⟩
  obtain ⟨b, o, hA, hb, _⟩ := h.at1 (wrdC_at hx)
  refine ⟨b, o, hA, hb, fun j y hy => ?_⟩
  obtain ⟨b2, o2, hA2, _, hc⟩ := h.at1 (wrdC_at hy)
  rw [hA] at hA2
  injection hA2 with hA2
  injection hA2 with e1 e2
  subst e1 e2
  exact hc
end Go.Proofs.YtbnpleihhbpnlaaDoor
