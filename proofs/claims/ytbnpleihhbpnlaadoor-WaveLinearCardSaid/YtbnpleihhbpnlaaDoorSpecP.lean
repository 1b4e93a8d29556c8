/- Spectra of small whole floats, plain: Parseval's sum, within a rounding. -/
import Derived.Test.YtbnpleihhbpnlaaDoorSpecL
namespace Go.Proofs.YtbnpleihhbpnlaaDoor
def allF (a b : Nat → Nat) : Nat → Nat
  | 0 => 0
  | j + 1 => addF (addF (allF a b j) (mulF (a j) (a j))) (mulF (b j) (b j))
def ssq (F G : Nat → Int) : Nat → Int
  | 0 => 0
  | j + 1 => ssq F G j + F j * F j + G j * G j
def allI (F G : Nat → Int) : Nat → Int
  | 0 => 0
  | j + 1 => rnd (rnd (allI F G j + rnd (F j * F j)) + rnd (G j * G j))
theorem ssq_mono (F G : Nat → Int) {j n : Nat} (h : j ≤ n) : ssq F G j ≤ ssq F G n := by
  induction n with
  | zero => have : j = 0 := by omega
            subst this; exact Int.le_refl _
  | succ k ih =>
    by_cases hj : j = k + 1
    · subst hj; exact Int.le_refl _
    · have := ih (by omega)
      have p := sq_pos (F k)
      have q := sq_pos (G k)
      simp only [ssq]
      omega
theorem ssq_nonneg (F G : Nat → Int) (j : Nat) : 0 ≤ ssq F G j := ssq_mono F G (Nat.zero_le j)
theorem lt_145 {n : Nat} (h : n < 44601490397061246283071436545296723011960832) : n < 2 ^ 145 := h
theorem lt_200 {n : Nat} (h : n < 1606938044258990275541962092341162602522202993782792835301376) : n < 2 ^ 200 := h
theorem rnd_within {n B : Int} (h1 : -B ≤ n) (h2 : n ≤ B) : -B ≤ 9007199254740992 * (rnd n - n) ∧ 9007199254740992 * (rnd n - n) ≤ B := by
  have := rnd_err n
  omega
theorem abs_lt {n : Int} {B : Nat} (h1 : -(B : Int) < n) (h2 : n < B) : n.natAbs < B := by omega
theorem abs_two {n E : Int} (h : 9007199254740992 * (n.natAbs : Int) ≤ E) : -E ≤ 9007199254740992 * n ∧ 9007199254740992 * n ≤ E := by omega
theorem two_abs {n E : Int} (h1 : -E ≤ 9007199254740992 * n) (h2 : 9007199254740992 * n ≤ E) : 9007199254740992 * (n.natAbs : Int) ≤ E := by omega
/-- A step of the sum: squares that are rounded, added, rounded. -/
theorem all_step {a s p q E P : Int} (hs : 0 ≤ s) (hp : 0 ≤ p) (hq : 0 ≤ q) (hP : s + p + q ≤ P) (hE : 9007199254740992 * ((a - s).natAbs : Int) ≤ E) (h48 : E ≤ 42 * P) (hB : P ≤ 1393796574908163946345982392040522594123776) :
    (p.natAbs < 2 ^ 145 ∧ q.natAbs < 2 ^ 145 ∧ (a + rnd p).natAbs < 2 ^ 145 ∧ (rnd (a + rnd p) + rnd q).natAbs < 2 ^ 145) ∧ 9007199254740992 * ((rnd (rnd (a + rnd p) + rnd q) - (s + p + q)).natAbs : Int) ≤ E + 6 * P := by
  obtain ⟨h1, h2⟩ := abs_two hE
  clear hE
  obtain ⟨e1, e2⟩ := rnd_within (n := p) (B := P) (by omega) (by omega)
  obtain ⟨e3, e4⟩ := rnd_within (n := q) (B := P) (by omega) (by omega)
  generalize rnd p = r1 at *
  generalize rnd q = r2 at *
  have f1 : -(2 * P) ≤ a + r1 := by omega
  have f2 : a + r1 ≤ 2 * P := by omega
  obtain ⟨e5, e6⟩ := rnd_within f1 f2
  generalize rnd (a + r1) = r3 at *
  have f3 : -(2 * P) ≤ r3 + r2 := by omega
  have f4 : r3 + r2 ≤ 2 * P := by omega
  obtain ⟨e7, e8⟩ := rnd_within f3 f4
  generalize rnd (r3 + r2) = r4 at *
  refine ⟨⟨lt_145 (abs_lt (by omega) (by omega)), lt_145 (abs_lt (by omega) (by omega)), lt_145 (abs_lt (by omega) (by omega)), lt_145 (abs_lt (by omega) (by omega))⟩, two_abs (by omega) (by omega)⟩
theorem all_val {a b : Nat → Nat} {F G : Nat → Int} {n : Nat} (hn : n ≤ 8) (ha : ∀ j, j < n → Val (a j) 1021 (F j)) (hb : ∀ j, j < n → Val (b j) 1021 (G j)) (hB : ssq F G n ≤ 1393796574908163946345982392040522594123776) :
    ∀ j, j ≤ n → Val (allF a b j) 968 (allI F G j) ∧ 9007199254740992 * ((allI F G j - ssq F G j).natAbs : Int) ≤ (j : Int) * (6 * ssq F G n) := by
  intro j hj
  induction j with
  | zero => exact ⟨val_zero _, by simp [allI, ssq]⟩
  | succ j ih =>
    obtain ⟨i1, i2⟩ := ih (by omega)
    have hm := ssq_mono F G hj
    have hs := ssq_nonneg F G j
    have h0 := ssq_nonneg F G n
    simp only [ssq] at hm
    have h7 : (j : Int) * (6 * ssq F G n) ≤ 7 * (6 * ssq F G n) := Int.mul_le_mul_of_nonneg_right (by omega) (by omega)
    obtain ⟨⟨b1, b2, b3, b4⟩, b5⟩ := all_step hs (sq_pos (F j)) (sq_pos (G j)) hm i2 (by omega) hB
    have m1 := mulF_val (ha j (by omega)) (ha j (by omega)) (e := 968) rfl b1 (by decide)
    have m2 := mulF_val (hb j (by omega)) (hb j (by omega)) (e := 968) rfl b2 (by decide)
    have a1 := addF_val i1 m1 b3 (by decide)
    have a2 := addF_val a1 m2 b4 (by decide)
    simp only [allF, allI, ssq]
    refine ⟨a2, Int.le_trans b5 (Int.le_of_eq ?_)⟩
    rw [Int.natCast_add, Int.add_mul]
    simp
/-- Squares of numbers that are near each other. -/
theorem sq_dev {A R : Int} (h : (A - R).natAbs ≤ 262144) : 1099511627776 * (A * A - R * R).natAbs ≤ R * R + 166153499473114484112975882535043072 := by
  obtain ⟨e, he⟩ : ∃ e, A - R = e := ⟨_, rfl⟩
  have hA : A = R + e := by omega
  rw [he] at h
  have h1 := sq_pos (R - 1099511627776 * e)
  have h2 := sq_pos (R + 1099511627776 * e)
  have h3 := mul_bound h h
  have h4 := sq_pos e
  have x1 : (R - 1099511627776 * e) * (R - 1099511627776 * e) = R * R - 2199023255552 * (R * e) + 1208925819614629174706176 * (e * e) := by grind
  have x2 : (R + 1099511627776 * e) * (R + 1099511627776 * e) = R * R + 2199023255552 * (R * e) + 1208925819614629174706176 * (e * e) := by grind
  have x3 : A * A - R * R = 2 * (R * e) + e * e := by rw [hA]; grind
  rw [x1] at h1
  rw [x2] at h2
  rw [x3]
  generalize R * R = r at *
  generalize R * e = u at *
  generalize e * e = w at *
  omega
theorem ssq_dev {F G R I : Nat → Int} {n : Nat} (hF : ∀ j, j < n → (F j - R j).natAbs ≤ 262144) (hG : ∀ j, j < n → (G j - I j).natAbs ≤ 262144) :
    ∀ j, j ≤ n → 1099511627776 * (ssq F G j - ssq R I j).natAbs ≤ ssq R I j + (j : Int) * 332306998946228968225951765070086144 := by
  intro j hj
  induction j with
  | zero => simp [ssq]
  | succ j ih =>
    have i1 := ih (by omega)
    have h1 := sq_dev (hF j (by omega))
    have h2 := sq_dev (hG j (by omega))
    simp only [ssq]
    rw [Int.natCast_add, Int.add_mul]
    generalize F j * F j = f at *
    generalize G j * G j = g at *
    generalize R j * R j = r at *
    generalize I j * I j = i at *
    omega
theorem ssq_bound {R I : Nat → Int} {n : Nat} (hR : ∀ j, (R j).natAbs ≤ 143971072887780016128) (hI : ∀ j, (I j).natAbs ≤ 143971072887780016128) : ∀ j, j ≤ n → ssq R I j ≤ (j : Int) * 41455339656917010573213371093309944448768 := by
  intro j hj
  induction j with
  | zero => simp [ssq]
  | succ j ih =>
    have i1 := ih (by omega)
    have h1 := mul_bound (hR j) (hR j)
    have h2 := mul_bound (hI j) (hI j)
    simp only [ssq]
    rw [Int.natCast_add, Int.add_mul]
    omega
theorem sm1 (T X : Nat → Int) : sm T X 1 = X 0 * T 0 := by simp [sm]
theorem sm2 (T X : Nat → Int) : sm T X 2 = X 0 * T 0 + X 1 * T 1 := by simp [sm]
theorem sm4 (T X : Nat → Int) : sm T X 4 = X 0 * T 0 + X 1 * T 1 + X 2 * T 2 + X 3 * T 3 := by simp [sm]
theorem sm8 (T X : Nat → Int) : sm T X 8 = X 0 * T 0 + X 1 * T 1 + X 2 * T 2 + X 3 * T 3 + X 4 * T 4 + X 5 * T 5 + X 6 * T 6 + X 7 * T 7 := by simp [sm]
theorem par1 (X : Nat → Int) (U C : Int) : ssq (fun j => sm (fun k => TR U C (twk 1 j k)) X 1) (fun j => sm (fun k => TI U C (twk 1 j k)) X 1) 1 = 1 * sq X 1 * (U * U) := by
  simp only [ssq, sm1, sq]
  simp [TR, TI, twk]
  grind
theorem par2 (X : Nat → Int) (U C : Int) : ssq (fun j => sm (fun k => TR U C (twk 2 j k)) X 2) (fun j => sm (fun k => TI U C (twk 2 j k)) X 2) 2 = 2 * sq X 2 * (U * U) := by
  simp only [ssq, sm2, sq]
  simp [TR, TI, twk]
  grind
theorem par4 (X : Nat → Int) (U C : Int) : ssq (fun j => sm (fun k => TR U C (twk 4 j k)) X 4) (fun j => sm (fun k => TI U C (twk 4 j k)) X 4) 4 = 4 * sq X 4 * (U * U) := by
  simp only [ssq, sm4, sq]
  simp [TR, TI, twk]
  grind
theorem par8 (X : Nat → Int) (U C : Int) : ssq (fun j => sm (fun k => TR U C (twk 8 j k)) X 8) (fun j => sm (fun k => TI U C (twk 8 j k)) X 8) 8 = 8 * sq X 8 * (U * U) + 4 * (2 * (C * C) - U * U) * ((X 1 - X 5) * (X 1 - X 5) + (X 3 - X 7) * (X 3 - X 7)) := by
  simp only [ssq, sm8, sq]
  simp [TR, TI, twk]
  generalize X 0 = x0
  generalize X 1 = x1
  generalize X 2 = x2
  generalize X 3 = x3
  generalize X 4 = x4
  generalize X 5 = x5
  generalize X 6 = x6
  generalize X 7 = x7
  grind
theorem sq_twice (a b : Int) : (a - b) * (a - b) ≤ 2 * (a * a + b * b) := by
  have := sq_pos (a + b)
  have e1 : (a + b) * (a + b) = a * a + 2 * (a * b) + b * b := by grind
  have e2 : (a - b) * (a - b) = a * a - 2 * (a * b) + b * b := by grind
  omega
theorem tUU : tU * tU = 81129638414606681695789005144064 := by decide
theorem tCC : 2 * (tC * tC) - tU * tU = 11091733693350994 := by decide
theorem parsX {n : Nat} (hn : sizeN n) (X : Nat → Int) : 1099511627776 * (ssq (SR X n) (SI X n) n - (n : Int) * sq X n * 81129638414606681695789005144064).natAbs ≤ (n : Int) * sq X n * 81129638414606681695789005144064 := by
  rw [← tUU]
  have hpos : 0 ≤ sq X n := by
    induction n with
    | zero => exact Int.le_refl _
    | succ k _ =>
      clear hn
      generalize k + 1 = m
      induction m with
      | zero => exact Int.le_refl _
      | succ m ih => have := sq_pos (X m); simp only [sq]; omega
  rcases hn with rfl | rfl | rfl | rfl
  · have h := par1 X tU tC
    change ssq (SR X 1) (SI X 1) 1 = _ at h
    rw [h, tUU]; omega
  · have h := par2 X tU tC
    change ssq (SR X 2) (SI X 2) 2 = _ at h
    rw [h, tUU]; omega
  · have h := par4 X tU tC
    change ssq (SR X 4) (SI X 4) 4 = _ at h
    rw [h, tUU]; omega
  · have h := par8 X tU tC
    change ssq (SR X 8) (SI X 8) 8 = _ at h
    rw [h, tCC, tUU]
    have h1 := sq_twice (X 1) (X 5)
    have h2 := sq_twice (X 3) (X 7)
    have h3 := sq_pos (X 1 - X 5)
    have h4 := sq_pos (X 3 - X 7)
    have h5 : X 1 * X 1 + X 5 * X 5 + X 3 * X 3 + X 7 * X 7 ≤ sq X 8 := by
      have a0 := sq_pos (X 0)
      have a2 := sq_pos (X 2)
      have a4 := sq_pos (X 4)
      have a6 := sq_pos (X 6)
      simp only [sq]
      omega
    generalize sq X 8 = S at *
    generalize (X 1 - X 5) * (X 1 - X 5) = p at *
    generalize (X 3 - X 7) * (X 3 - X 7) = q at *
    generalize X 1 * X 1 = y1 at *
    generalize X 5 * X 5 = y5 at *
    generalize X 3 * X 3 = y3 at *
    generalize X 7 * X 7 = y7 at *
    omega
/-- The last comparison, in whole numbers. -/
theorem pars_end {a P W V : Int} (hP : 0 ≤ P) (hW : 0 ≤ W) (hV : 0 ≤ V) (h1 : 9007199254740992 * ((a - P).natAbs : Int) ≤ 48 * P) (h2 : 1099511627776 * (P - W).natAbs ≤ W + 2658455991569831745807614120560689152) (h3 : 1099511627776 * (W - V).natAbs ≤ V)
    (hb : V ≤ 21778071482940061661655974875633165533184) :
    (a - V).natAbs < 2 ^ 145 ∧ (81129638414606681695789005144064 + a).natAbs < 2 ^ 145 ∧ (4722366482869645 * rnd (81129638414606681695789005144064 + a)).natAbs < 2 ^ 200 ∧
    (rnd (a - V)).natAbs * 4722366482869645213696 ≤ rnd (4722366482869645 * rnd (81129638414606681695789005144064 + a)) := by
  have e1 := rnd_err (a - V)
  have e2 := rnd_err (81129638414606681695789005144064 + a)
  have e3 := rnd_err (4722366482869645 * rnd (81129638414606681695789005144064 + a))
  generalize rnd (4722366482869645 * rnd (81129638414606681695789005144064 + a)) = r3 at *
  generalize rnd (81129638414606681695789005144064 + a) = r2 at *
  generalize rnd (a - V) = r1 at *
  refine ⟨lt_145 (by omega), lt_145 (by omega), lt_200 (by omega), ?_⟩
  omega
theorem parseval {x : Nat → Nat} {X : Nat → Int} {n : Nat} (hx : SmallX x X n) : leF (absW (subF (allF (lineR x n) (lineI x n) n) (mulF (Ieee.double.nearest false n 0) (sqF x n)))) (mulF milF (addF 4607182418800017408 (allF (lineR x n) (lineI x n) n))) = true := by
  have hn := size_le hx.size
  have d1 := ssq_dev (F := AR X n) (G := AI X n) (R := SR X n) (I := SI X n) (n := n) (fun j _ => (line_R hx j).2.1) (fun j _ => (line_I hx j).2.1) n (Nat.le_refl n)
  have d2 := ssq_bound (n := n) (fun j => (line_R hx j).2.2) (fun j => (line_I hx j).2.2) n (Nat.le_refl n)
  have d3 := parsX hx.size X
  have p1 := ssq_nonneg (AR X n) (AI X n) n
  have p2 := ssq_nonneg (SR X n) (SI X n) n
  obtain ⟨q1, q2, q3⟩ := sq_val hn hx.val n (Nat.le_refl n)
  have n1 : (n : Int) * 332306998946228968225951765070086144 ≤ 8 * 332306998946228968225951765070086144 := Int.mul_le_mul_of_nonneg_right (by omega) (by decide)
  have n2 : (n : Int) * 41455339656917010573213371093309944448768 ≤ 8 * 41455339656917010573213371093309944448768 := Int.mul_le_mul_of_nonneg_right (by omega) (by decide)
  obtain ⟨a1, a2⟩ := all_val (a := lineR x n) (b := lineI x n) (F := AR X n) (G := AI X n) (n := n) hn (fun j _ => (line_R hx j).1) (fun j _ => (line_I hx j).1) (by omega) n (Nat.le_refl n)
  have n3 : (n : Int) * (6 * ssq (AR X n) (AI X n) n) ≤ 8 * (6 * ssq (AR X n) (AI X n) n) := Int.mul_le_mul_of_nonneg_right (by omega) (by omega)
  have n4 : (n : Int) * 3992004 ≤ 8 * 3992004 := Int.mul_le_mul_of_nonneg_right (by omega) (by decide)
  have n5 : (n : Int) * sq X n ≤ 8 * sq X n := Int.mul_le_mul_of_nonneg_right (by omega) q2
  have n6 : 0 ≤ (n : Int) * sq X n := Int.mul_nonneg (by omega) q2
  have v1 : Val (Ieee.double.nearest false n 0) 1074 n := by
    have := val_int (n := (n : Int)) (by omega)
    rwa [Int.natAbs_natCast, show decide ((n : Int) < 0) = false from decide_eq_false (by omega)] at this
  have v2 := mulF_val v1 q1 (e := 1074) (k := 70) rfl (lt_70 (by omega)) (by decide)
  rw [rnd_same (by omega)] at v2
  have v3 := val_scale v2 (e' := 968) (d := 106) rfl
  rw [show ((2 ^ 106 : Nat) : Int) = 81129638414606681695789005144064 from by decide] at v3
  generalize (n : Int) * sq X n = S at *
  generalize ssq (AR X n) (AI X n) n = P at *
  generalize ssq (SR X n) (SI X n) n = W at *
  generalize allI (AR X n) (AI X n) n = a at *
  obtain ⟨f1, f2, f3, f4⟩ := pars_end (a := a) (P := P) (W := W) (V := S * 81129638414606681695789005144064) p1 p2 (by omega) (by omega) (by omega) (by omega) (by omega)
  have v4 := subF_val a1 v3 f1 (by decide)
  have v5 := val_scale (val_abs v4) (e' := 896) (d := 72) rfl
  rw [show ((2 ^ 72 : Nat) : Int) = 4722366482869645213696 from by decide] at v5
  have o1 := val_scale val_one (e' := 968) (d := 106) rfl
  rw [show (1 : Int) * ((2 ^ 106 : Nat) : Int) = 81129638414606681695789005144064 from by decide] at o1
  have v6 := addF_val o1 a1 f2 (by decide)
  have v7 := mulF_val val_mil v6 (e := 896) rfl f3 (by decide)
  exact (val_le v5 v7 f4).1
/-- Power: a square and a square. -/
theorem power_pos {x : Nat → Nat} {X : Nat → Int} {n : Nat} (hx : SmallX x X n) (j : Nat) : Ieee.double.order (addF (mulF (lineR x n j) (lineR x n j)) (mulF (lineI x n j) (lineI x n j))) 0 ≠ some .lt ∧ Ieee.double.order (addF (mulF (lineR x n j) (lineR x n j)) (mulF (lineI x n j) (lineI x n j))) 0 ≠ none := by
  obtain ⟨x1, x2, x3⟩ := line_R hx j
  obtain ⟨y1, y2, y3⟩ := line_I hx j
  have b1 := mul_bound (a := AR X n j) (b := AR X n j) (p := 147573952589676412928) (q := 147573952589676412928) (by omega) (by omega)
  have b2 := mul_bound (a := AI X n j) (b := AI X n j) (p := 147573952589676412928) (q := 147573952589676412928) (by omega) (by omega)
  have p1 := sq_pos (AR X n j)
  have p2 := sq_pos (AI X n j)
  have m1 := mulF_val x1 x1 (e := 968) rfl (lt_145 (by omega)) (by decide)
  have m2 := mulF_val y1 y1 (e := 968) rfl (lt_145 (by omega)) (by decide)
  have e1 := rnd_err (AR X n j * AR X n j)
  have e2 := rnd_err (AI X n j * AI X n j)
  have s1 := (rnd_sign _).1 p1
  have s2 := (rnd_sign _).1 p2
  have a1 := addF_val m1 m2 (lt_145 (by omega)) (by decide)
  have s3 := (rnd_sign (rnd (AR X n j * AR X n j) + rnd (AI X n j * AI X n j))).1 (by omega)
  rw [val_order a1 (val_zero 968)]
  constructor
  · intro h
    injection h with h
    rw [cmp_lt] at h
    omega
  · exact fun h => by cases h
end Go.Proofs.YtbnpleihhbpnlaaDoor
