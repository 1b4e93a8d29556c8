/- Spectra of small whole floats, plain: sums, opposites, mirrors, Parseval's sum, within a rounding. -/
import Derived.Test.YtbnpleihhbpnlaaDoorSpecI
namespace Go.Proofs.YtbnpleihhbpnlaaDoor
/-- A millionth. -/
def milF : Nat := 4517329193108106637
def leF (x y : Nat) : Bool := Ieee.double.order x y == some .lt || Ieee.double.order x y == some .eq
def gtF (x y : Nat) : Bool := Ieee.double.order x y == some .gt
def eqF (x y : Nat) : Bool := Ieee.double.order x y == some .eq
theorem val_mil : Val milF 1002 4722366482869645 := val_word false 4722366482869645 (-72) (by decide) (by decide +kernel) (by decide) (by decide +kernel)
theorem cmp_lt {a b : Int} : compare a b = .lt ↔ a < b := by
  simp only [compare, compareOfLessAndEq]
  by_cases h : a < b
  · rw [if_pos h]; simp [h]
  · rw [if_neg h]
    by_cases h2 : a = b
    · simp [h2]
    · simp [h2]; omega
theorem val_eq {x y e : Nat} {M N : Int} (hx : Val x e M) (hy : Val y e N) (h : M = N) : eqF x y = true := by
  unfold eqF; rw [val_order hx hy, cmp_eq.2 h]; rfl
theorem val_le {x y e : Nat} {M N : Int} (hx : Val x e M) (hy : Val y e N) (h : M ≤ N) : leF x y = true ∧ gtF x y = false := by
  unfold leF gtF
  rw [val_order hx hy]
  by_cases h1 : M = N
  · rw [cmp_eq.2 h1]; exact ⟨rfl, rfl⟩
  · rw [cmp_lt.2 (by omega)]; exact ⟨rfl, rfl⟩
theorem addF_val {x y e k : Nat} {M N : Int} (hx : Val x e M) (hy : Val y e N) (hb : (M + N).natAbs < 2 ^ k) (hk : k + e ≤ 2097) : Val (addF x y) e (rnd (M + N)) := by
  obtain ⟨z, h1, h2⟩ := val_add hx hy hb hk
  unfold addF; rw [h1]; exact h2
theorem subF_val {x y e k : Nat} {M N : Int} (hx : Val x e M) (hy : Val y e N) (hb : (M - N).natAbs < 2 ^ k) (hk : k + e ≤ 2097) : Val (subF x y) e (rnd (M - N)) := by
  obtain ⟨z, h1, h2⟩ := val_sub hx hy hb hk
  unfold subF; rw [h1]; exact h2
theorem mulF_val {x y e1 e2 e k : Nat} {M N : Int} (hx : Val x e1 M) (hy : Val y e2 N) (he : e1 + e2 = e + 1074) (hb : (M * N).natAbs < 2 ^ k) (hk : k + e ≤ 2097) : Val (mulF x y) e (rnd (M * N)) := by
  obtain ⟨z, h1, h2⟩ := val_mul hx hy he hb hk
  unfold mulF; rw [h1]; exact h2
/-- What is little in units of the spectrum is no more than a millionth. -/
theorem little {x : Nat} {D : Int} (h : Val x 1021 D) (hD : D.natAbs ≤ 4194304) : leF (absW x) milF = true ∧ gtF (absW x) milF = false := by
  have h1 := val_scale (val_abs h) (e' := 1002) (d := 19) rfl
  exact val_le h1 val_mil (by rw [show ((2 ^ 19 : Nat) : Int) = 524288 from rfl]; omega)
theorem near_val {c a b : Nat} {C A B : Int} (hc : Val c 1021 C) (ha : Val a 1021 A) (hb : Val b 1021 B) (h : (C - A - B).natAbs ≤ 2097152) (hC : C.natAbs ≤ 295147905179352825856) (hA : A.natAbs ≤ 295147905179352825856) (hB : B.natAbs ≤ 295147905179352825856) :
    leF (absW (subF (subF c a) b)) milF = true := by
  have e1 := rnd_err (C - A)
  have e2 := rnd_err (rnd (C - A) - B)
  have h1 := subF_val hc ha (k := 70) (lt_70 (by omega)) (by decide)
  have h2 := subF_val h1 hb (k := 70) (lt_70 (by omega)) (by decide)
  exact (little h2 (by omega)).1
/-- The spectrum of sums. -/
theorem lin_near {x y z : Nat → Nat} {X Y Z : Nat → Int} {n : Nat} (hx : SmallX x X n) (hy : SmallX y Y n) (hz : SmallX z Z n) (h : ∀ k, k < n → Z k = X k + Y k) (j : Nat) :
    leF (absW (subF (subF (lineR z n j) (lineR x n j)) (lineR y n j))) milF = true ∧ leF (absW (subF (subF (lineI z n j) (lineI x n j)) (lineI y n j))) milF = true := by
  constructor
  · obtain ⟨z1, z2, z3⟩ := line_R hz j
    obtain ⟨x1, x2, x3⟩ := line_R hx j
    obtain ⟨y1, y2, y3⟩ := line_R hy j
    have e : SR Z n j = SR X n j + SR Y n j := sm_add h
    exact near_val z1 x1 y1 (by omega) (by omega) (by omega) (by omega)
  · obtain ⟨z1, z2, z3⟩ := line_I hz j
    obtain ⟨x1, x2, x3⟩ := line_I hx j
    obtain ⟨y1, y2, y3⟩ := line_I hy j
    have e : SI Z n j = SI X n j + SI Y n j := sm_add h
    exact near_val z1 x1 y1 (by omega) (by omega) (by omega) (by omega)
/-- The spectrum of opposites. -/
theorem lin_opp {x m : Nat → Nat} {X M : Nat → Int} {n : Nat} (hx : SmallX x X n) (hm : SmallX m M n) (h : ∀ k, k < n → M k = - X k) (j : Nat) :
    eqF (lineR m n j) (negW (lineR x n j)) = true ∧ eqF (lineI m n j) (negW (lineI x n j)) = true :=
  ⟨val_eq (line_R hm j).1 (val_neg (line_R hx j).1) (acc_neg h), val_eq (line_I hm j).1 (val_neg (line_I hx j).1) (acc_neg h)⟩
/-- The opposite parts mirror each other. -/
theorem mirror {x : Nat → Nat} {X : Nat → Int} {n : Nat} (hx : SmallX x X n) {j : Nat} (hj : j < n) :
    gtF (absW (subF (lineR x n j) (lineR x n ((n - j) % n)))) milF = false ∧ gtF (absW (addF (lineI x n j) (lineI x n ((n - j) % n)))) milF = false := by
  constructor
  · obtain ⟨x1, x2, x3⟩ := line_R hx j
    obtain ⟨y1, y2, y3⟩ := line_R hx ((n - j) % n)
    have e : SR X n ((n - j) % n) = SR X n j := sm_same (mirR hx.size j hj)
    have e1 := rnd_err (AR X n j - AR X n ((n - j) % n))
    exact (little (subF_val x1 y1 (k := 70) (lt_70 (by omega)) (by decide)) (by omega)).2
  · obtain ⟨x1, x2, x3⟩ := line_I hx j
    obtain ⟨y1, y2, y3⟩ := line_I hx ((n - j) % n)
    have e : SI X n ((n - j) % n) = - SI X n j := sm_opp (mirI hx.size j hj)
    have e1 := rnd_err (AI X n j + AI X n ((n - j) % n))
    exact (little (addF_val x1 y1 (k := 70) (lt_70 (by omega)) (by decide)) (by omega)).2
/-- The first part. -/
theorem first_part {x : Nat → Nat} {X : Nat → Int} {n : Nat} (hx : SmallX x X n) {s : Nat} (hs : Val s 1074 (su X n)) : eqF (lineR x n 0) s = true ∧ eqF (lineI x n 0) 0 = true := by
  have hn := size_le hx.size
  constructor
  · have e : lineR x n 0 = accF x (fun _ => 4607182418800017408) n := by
      unfold lineR twk
      congr 1
      funext k
      rw [Nat.zero_mul, Nat.zero_mod, Nat.zero_mul]; rfl
    rw [e]
    exact val_eq (one_val hn hx.val n (Nat.le_refl n)).1 hs rfl
  · refine val_eq (line_I hx 0).1 (val_zero 1021) (acc_none (fun k _ => ?_))
    unfold twk
    rw [Nat.zero_mul, Nat.zero_mod, Nat.zero_mul]; rfl
/-- Squares, added from the left; the floats added. -/
def sumF (x : Nat → Nat) : Nat → Nat
  | 0 => 0
  | k + 1 => addF (sumF x k) (x k)
def sqF (x : Nat → Nat) : Nat → Nat
  | 0 => 0
  | k + 1 => addF (sqF x k) (mulF (x k) (x k))
def sq (X : Nat → Int) : Nat → Int
  | 0 => 0
  | k + 1 => sq X k + X k * X k
theorem sum_val {x : Nat → Nat} {X : Nat → Int} {n : Nat} (hn : n ≤ 8) (hx : ∀ k, k < n → Val (x k) 1074 (X k) ∧ (X k).natAbs ≤ 1998) :
    ∀ k, k ≤ n → Val (sumF x k) 1074 (su X k) ∧ (su X k).natAbs ≤ k * 1998 := by
  intro k hk
  induction k with
  | zero => exact ⟨val_zero _, by simp [su]⟩
  | succ k ih =>
    obtain ⟨i1, i2⟩ := ih (by omega)
    obtain ⟨h1, h2⟩ := hx k (by omega)
    have hv := addF_val i1 h1 (k := 70) (lt_70 (by omega)) (by decide)
    rw [rnd_same (by omega)] at hv
    simp only [sumF, su]
    exact ⟨hv, by omega⟩
theorem sq_pos (a : Int) : 0 ≤ a * a := by
  by_cases h : 0 ≤ a
  · exact Int.mul_nonneg h h
  · exact Int.mul_nonneg_of_nonpos_of_nonpos (by omega) (by omega)
theorem sq_val {x : Nat → Nat} {X : Nat → Int} {n : Nat} (hn : n ≤ 8) (hx : ∀ k, k < n → Val (x k) 1074 (X k) ∧ (X k).natAbs ≤ 1998) :
    ∀ k, k ≤ n → Val (sqF x k) 1074 (sq X k) ∧ 0 ≤ sq X k ∧ sq X k ≤ k * 3992004 := by
  intro k hk
  induction k with
  | zero => exact ⟨val_zero _, by simp [sq], by simp [sq]⟩
  | succ k ih =>
    obtain ⟨i1, i2, i3⟩ := ih (by omega)
    obtain ⟨h1, h2⟩ := hx k (by omega)
    have hb := mul_bound h2 h2
    have hp := sq_pos (X k)
    have hm := mulF_val h1 h1 (e := 1074) (k := 70) rfl (lt_70 (by omega)) (by decide)
    rw [rnd_same (by omega)] at hm
    have hv := addF_val i1 hm (k := 70) (lt_70 (by omega)) (by decide)
    rw [rnd_same (by omega)] at hv
    simp only [sqF, sq]
    refine ⟨hv, by omega, ?_⟩
    rw [Int.natCast_add]
    omega
end Go.Proofs.YtbnpleihhbpnlaaDoor
