/- Spectra of small whole floats, plain: as whole numbers of a unit; what is rounded is little. -/
import Derived.Test.YtbnpleihhbpnlaaDoorVal
namespace Go.Proofs.YtbnpleihhbpnlaaDoor
def nanW : Nat := 9221120237041090560
def addF (x y : Nat) : Nat := (Ieee.double.add x y).getD nanW
def subF (x y : Nat) : Nat := (Ieee.double.sub x y).getD nanW
def mulF (x y : Nat) : Nat := (Ieee.double.mul x y).getD nanW
/-- Products, added from the left. -/
def accF (x t : Nat → Nat) : Nat → Nat
  | 0 => 0
  | k + 1 => addF (accF x t k) (mulF (x k) (t k))
def twR : Nat → Nat
  | 0 => 4607182418800017408 | 1 => 4604544271217802189 | 2 => 0 | 3 => 13827916308072577997 | 4 => 13830554455654793216 | 5 => 13827916308072577997 | 6 => 0 | _ => 4604544271217802189
def twI : Nat → Nat
  | 0 => 0 | 1 => 13827916308072577997 | 2 => 13830554455654793216 | 3 => 13827916308072577997 | 4 => 0 | 5 => 4604544271217802189 | 6 => 4607182418800017408 | _ => 4604544271217802189
def tU : Int := 9007199254740992
def tC : Int := 6369051672525773
def TR (U C : Int) : Nat → Int | 0 => U | 1 => C | 2 => 0 | 3 => -C | 4 => -U | 5 => -C | 6 => 0 | _ => C
def TI (U C : Int) : Nat → Int | 0 => 0 | 1 => -C | 2 => -U | 3 => -C | 4 => 0 | 5 => C | 6 => U | _ => C
theorem val_word {x e : Nat} {N : Int} (s : Bool) (m : Nat) (i : Int) (h0 : x < 18446744073709551616) (h1 : Ieee.double.read x = .number s m i) (h2 : -1074 ≤ i) (h3 : Ieee.signed s m (i + 1074).toNat = N * ((2 ^ e : Nat) : Int)) : Val x e N := ⟨h0, s, m, i, h1, h2, h3⟩
theorem val_zero (e : Nat) : Val 0 e 0 := ⟨by decide, false, 0, -1074, by decide +kernel, by decide, by rw [Int.zero_mul]; decide⟩
theorem val_one : Val 4607182418800017408 1074 1 := val_word false 4503599627370496 (-52) (by decide) (by decide +kernel) (by decide) (by decide +kernel)
theorem val_u : Val 4607182418800017408 1021 tU := val_word false 4503599627370496 (-52) (by decide) (by decide +kernel) (by decide) (by decide +kernel)
theorem val_nu : Val 13830554455654793216 1021 (-tU) := val_word true 4503599627370496 (-52) (by decide) (by decide +kernel) (by decide) (by decide +kernel)
theorem val_c : Val 4604544271217802189 1021 tC := val_word false 6369051672525773 (-53) (by decide) (by decide +kernel) (by decide) (by decide +kernel)
theorem val_nc : Val 13827916308072577997 1021 (-tC) := val_word true 6369051672525773 (-53) (by decide) (by decide +kernel) (by decide) (by decide +kernel)
theorem val_twR (i : Nat) : Val (twR i) 1021 (TR tU tC i) ∧ (TR tU tC i).natAbs ≤ 9007199254740992 := by
  match i with
  | 0 => exact ⟨val_u, by decide⟩
  | 1 => exact ⟨val_c, by decide⟩
  | 2 => exact ⟨val_zero _, by decide⟩
  | 3 => exact ⟨val_nc, by decide⟩
  | 4 => exact ⟨val_nu, by decide⟩
  | 5 => exact ⟨val_nc, by decide⟩
  | 6 => exact ⟨val_zero _, by decide⟩
  | _ + 7 => exact ⟨val_c, by show (tC).natAbs ≤ _; decide⟩
theorem val_twI (i : Nat) : Val (twI i) 1021 (TI tU tC i) ∧ (TI tU tC i).natAbs ≤ 9007199254740992 := by
  match i with
  | 0 => exact ⟨val_zero _, by decide⟩
  | 1 => exact ⟨val_nc, by decide⟩
  | 2 => exact ⟨val_nu, by decide⟩
  | 3 => exact ⟨val_nc, by decide⟩
  | 4 => exact ⟨val_zero _, by decide⟩
  | 5 => exact ⟨val_c, by decide⟩
  | 6 => exact ⟨val_u, by decide⟩
  | _ + 7 => exact ⟨val_c, by show (tC).natAbs ≤ _; decide⟩
def acc (X T : Nat → Int) : Nat → Int
  | 0 => 0
  | k + 1 => rnd (acc X T k + rnd (X k * T k))
def sm (T X : Nat → Int) : Nat → Int
  | 0 => 0
  | k + 1 => sm T X k + X k * T k
theorem mul_bound {a b : Int} {p q : Nat} (ha : a.natAbs ≤ p) (hb : b.natAbs ≤ q) : (a * b).natAbs ≤ p * q := by
  rw [Int.natAbs_mul]; exact Nat.mul_le_mul ha hb
theorem lt_70 {n : Nat} (h : n < 1180591620717411303424) : n < 2 ^ 70 := h
theorem acc_val {x t : Nat → Nat} {X T : Nat → Int} {n : Nat} (hn : n ≤ 8) (hx : ∀ k, k < n → Val (x k) 1074 (X k) ∧ (X k).natAbs ≤ 1998) (ht : ∀ k, Val (t k) 1021 (T k) ∧ (T k).natAbs ≤ 9007199254740992) :
    ∀ k, k ≤ n → Val (accF x t k) 1021 (acc X T k) ∧ (acc X T k - sm T X k).natAbs ≤ k * 32768 ∧ (sm T X k).natAbs ≤ k * 17996384110972502016 := by
  intro k hk
  induction k with
  | zero => exact ⟨val_zero _, by simp [acc, sm], by simp [sm]⟩
  | succ k ih =>
    obtain ⟨i1, i2, i3⟩ := ih (by omega)
    obtain ⟨h1, h2⟩ := hx k (by omega)
    obtain ⟨h3, h4⟩ := ht k
    have hb := mul_bound h2 h4
    have e1 := rnd_err (X k * T k)
    have e2 := rnd_err (acc X T k + rnd (X k * T k))
    have hk8 : k ≤ 7 := by omega
    obtain ⟨z, hz, hv⟩ := val_mul h1 h3 (e := 1021) (k := 70) rfl (lt_70 (by omega)) (by decide)
    have hmz : mulF (x k) (t k) = z := by unfold mulF; rw [hz]; rfl
    obtain ⟨y, hy, hv2⟩ := val_add i1 hv (k := 70) (lt_70 (by omega)) (by decide)
    have hay : addF (accF x t k) z = y := by unfold addF; rw [hy]; rfl
    simp only [accF, acc, sm]
    rw [hmz, hay]
    refine ⟨hv2, ?_, ?_⟩
    · omega
    · omega
/-- A sum of whole floats. -/
def su (X : Nat → Int) : Nat → Int
  | 0 => 0
  | k + 1 => su X k + X k
theorem one_val {x : Nat → Nat} {X : Nat → Int} {n : Nat} (hn : n ≤ 8) (hx : ∀ k, k < n → Val (x k) 1074 (X k) ∧ (X k).natAbs ≤ 1998) :
    ∀ k, k ≤ n → Val (accF x (fun _ => 4607182418800017408) k) 1074 (su X k) ∧ (su X k).natAbs ≤ k * 1998 := by
  intro k hk
  induction k with
  | zero => exact ⟨val_zero _, by simp [su]⟩
  | succ k ih =>
    obtain ⟨i1, i2⟩ := ih (by omega)
    obtain ⟨h1, h2⟩ := hx k (by omega)
    obtain ⟨z, hz, hv⟩ := val_mul h1 val_one (e := 1074) (k := 70) rfl (lt_70 (by omega)) (by decide)
    have hmz : mulF (x k) 4607182418800017408 = z := by unfold mulF; rw [hz]; rfl
    rw [Int.mul_one, rnd_same (by omega)] at hv
    obtain ⟨y, hy, hv2⟩ := val_add i1 hv (k := 70) (lt_70 (by omega)) (by decide)
    have hay : addF (accF x (fun _ => 4607182418800017408) k) z = y := by unfold addF; rw [hy]; rfl
    rw [rnd_same (by omega)] at hv2
    simp only [accF, su]
    rw [hmz, hay]
    exact ⟨hv2, by omega⟩
theorem acc_none {X T : Nat → Int} {n : Nat} (h : ∀ k, k < n → T k = 0) : acc X T n = 0 := by
  induction n with
  | zero => rfl
  | succ k ih => simp only [acc]; rw [ih (fun j hj => h j (by omega)), h k (by omega), Int.mul_zero, rnd_zero]; exact rnd_zero
theorem acc_neg {X Y T : Nat → Int} {n : Nat} (h : ∀ k, k < n → Y k = - X k) : acc Y T n = - acc X T n := by
  induction n with
  | zero => rfl
  | succ k ih =>
    simp only [acc]
    rw [ih (fun j hj => h j (by omega)), h k (by omega), Int.neg_mul, rnd_neg, ← Int.neg_add, rnd_neg]
theorem sm_same {X T S : Nat → Int} {n : Nat} (h : ∀ k, k < n → T k = S k) : sm T X n = sm S X n := by
  induction n with
  | zero => rfl
  | succ k ih => simp only [sm]; rw [ih (fun j hj => h j (by omega)), h k (by omega)]
theorem sm_opp {X T S : Nat → Int} {n : Nat} (h : ∀ k, k < n → T k = - S k) : sm T X n = - sm S X n := by
  induction n with
  | zero => rfl
  | succ k ih => simp only [sm]; rw [ih (fun j hj => h j (by omega)), h k (by omega), Int.mul_neg, Int.neg_add]
theorem sm_add {X Y Z T : Nat → Int} {n : Nat} (h : ∀ k, k < n → Z k = X k + Y k) : sm T Z n = sm T X n + sm T Y n := by
  induction n with
  | zero => rfl
  | succ k ih => simp only [sm]; rw [ih (fun j hj => h j (by omega)), h k (by omega), Int.add_mul]; omega
/-- The place of a twiddle. -/
def twk (n j k : Nat) : Nat := j * k % n * (8 / n)
def sizeN (n : Nat) : Prop := n = 1 ∨ n = 2 ∨ n = 4 ∨ n = 8
theorem mirR {n : Nat} (hn : sizeN n) : ∀ j, j < n → ∀ k, k < n → TR tU tC (twk n ((n - j) % n) k) = TR tU tC (twk n j k) := by
  rcases hn with rfl | rfl | rfl | rfl <;> decide
theorem mirI {n : Nat} (hn : sizeN n) : ∀ j, j < n → ∀ k, k < n → TI tU tC (twk n ((n - j) % n) k) = - TI tU tC (twk n j k) := by
  rcases hn with rfl | rfl | rfl | rfl <;> decide
/-- One line of the spectrum. -/
def lineR (x : Nat → Nat) (n j : Nat) : Nat := accF x (fun k => twR (twk n j k)) n
def lineI (x : Nat → Nat) (n j : Nat) : Nat := accF x (fun k => twI (twk n j k)) n
def SR (X : Nat → Int) (n j : Nat) : Int := sm (fun k => TR tU tC (twk n j k)) X n
def SI (X : Nat → Int) (n j : Nat) : Int := sm (fun k => TI tU tC (twk n j k)) X n
def AR (X : Nat → Int) (n j : Nat) : Int := acc X (fun k => TR tU tC (twk n j k)) n
def AI (X : Nat → Int) (n j : Nat) : Int := acc X (fun k => TI tU tC (twk n j k)) n
structure SmallX (x : Nat → Nat) (X : Nat → Int) (n : Nat) : Prop where
  size : sizeN n
  val : ∀ k, k < n → Val (x k) 1074 (X k) ∧ (X k).natAbs ≤ 1998
theorem size_le {n : Nat} (h : sizeN n) : n ≤ 8 := by rcases h with rfl | rfl | rfl | rfl <;> decide
theorem line_R {x X n} (h : SmallX x X n) (j : Nat) : Val (lineR x n j) 1021 (AR X n j) ∧ (AR X n j - SR X n j).natAbs ≤ 262144 ∧ (SR X n j).natAbs ≤ 143971072887780016128 := by
  have hn := size_le h.size
  obtain ⟨h1, h2, h3⟩ := acc_val (t := fun k => twR (twk n j k)) (T := fun k => TR tU tC (twk n j k)) hn h.val (fun k => val_twR _) n (Nat.le_refl n)
  have a1 := Nat.mul_le_mul_right 32768 hn
  have a2 := Nat.mul_le_mul_right 17996384110972502016 hn
  exact ⟨h1, Nat.le_trans h2 a1, Nat.le_trans h3 a2⟩
theorem line_I {x X n} (h : SmallX x X n) (j : Nat) : Val (lineI x n j) 1021 (AI X n j) ∧ (AI X n j - SI X n j).natAbs ≤ 262144 ∧ (SI X n j).natAbs ≤ 143971072887780016128 := by
  have hn := size_le h.size
  obtain ⟨h1, h2, h3⟩ := acc_val (t := fun k => twI (twk n j k)) (T := fun k => TI tU tC (twk n j k)) hn h.val (fun k => val_twI _) n (Nat.le_refl n)
  have a1 := Nat.mul_le_mul_right 32768 hn
  have a2 := Nat.mul_le_mul_right 17996384110972502016 hn
  exact ⟨h1, Nat.le_trans h2 a1, Nat.le_trans h3 a2⟩
/-- A float without its sign; its opposite. -/
def absW (x : Nat) : Nat := x % 9223372036854775808
def negW (x : Nat) : Nat := x ^^^ 9223372036854775808
theorem negW_eq {x : Nat} (h : x < 18446744073709551616) : negW x = if x < 9223372036854775808 then x + 9223372036854775808 else x - 9223372036854775808 := by
  unfold negW
  have h1 : (x ^^^ 9223372036854775808) % 2 ^ 63 = x % 2 ^ 63 := by
    rw [Nat.xor_mod_two_pow, show (9223372036854775808 : Nat) % 2 ^ 63 = 0 from by decide, Nat.xor_zero]
  have h2 : (x ^^^ 9223372036854775808) / 2 ^ 63 = x / 2 ^ 63 ^^^ 1 := by
    rw [Nat.xor_div_two_pow, show (9223372036854775808 : Nat) / 2 ^ 63 = 1 from by decide]
  rw [show (2 : Nat) ^ 63 = 9223372036854775808 from by decide] at h1 h2
  generalize x ^^^ 9223372036854775808 = y at *
  split
  · rw [show x / 9223372036854775808 = 0 from by omega, show (0 ^^^ 1 : Nat) = 1 from by decide] at h2
    omega
  · rw [show x / 9223372036854775808 = 1 from by omega, show (1 ^^^ 1 : Nat) = 0 from by decide] at h2
    omega
theorem read_mod {x : Nat} {s : Bool} {m : Nat} {i : Int} (h : Ieee.double.read x = .number s m i) {y : Nat} (hy : y % 9223372036854775808 = x % 9223372036854775808) : Ieee.double.read y = .number (y / 9223372036854775808 % 2 == 1) m i := by
  unfold Ieee.Format.read at h ⊢
  rw [d_sign, d_binade, d_inf, d_least] at h ⊢
  dsimp only at h ⊢
  rw [hy]
  split at h
  · injection h with e1 e2 e3; rw [if_pos (by assumption), e2, e3]
  · rw [if_neg (by assumption)]
    split at h
    · injection h with e1 e2 e3; rw [if_pos (by assumption), e2, e3]
    · split at h <;> cases h
theorem val_abs {x e : Nat} {N : Int} (h : Val x e N) : Val (absW x) e N.natAbs := by
  obtain ⟨hx, s, m, i, hr, hi, hv⟩ := h
  refine ⟨by unfold absW; omega, false, m, i, ?_, hi, ?_⟩
  · rw [read_mod hr (y := absW x) (by unfold absW; omega), show absW x / 9223372036854775808 % 2 = 0 from by unfold absW; omega]; rfl
  · have := congrArg Int.natAbs hv
    rw [signed_abs, Int.natAbs_mul, Int.natAbs_natCast] at this
    rw [signed_nat, if_neg (by decide), this, Int.natCast_mul]
theorem val_neg {x e : Nat} {N : Int} (h : Val x e N) : Val (negW x) e (-N) := by
  obtain ⟨hx, s, m, i, hr, hi, hv⟩ := h
  have e1 := negW_eq hx
  have hm : negW x % 9223372036854775808 = x % 9223372036854775808 := by rw [e1]; split <;> omega
  refine ⟨by rw [e1]; split <;> omega, !s, m, i, ?_, hi, ?_⟩
  · rw [read_mod hr hm, (read_place hr).2.2, e1]
    congr 1
    split
    · rw [show (x + 9223372036854775808) / 9223372036854775808 % 2 = 1 from by omega, show x / 9223372036854775808 % 2 = 0 from by omega]; rfl
    · rw [show (x - 9223372036854775808) / 9223372036854775808 % 2 = 0 from by omega, show x / 9223372036854775808 % 2 = 1 from by omega]; rfl
  · rw [Int.neg_mul, ← hv, signed_nat, signed_nat]
    cases s <;> simp
end Go.Proofs.YtbnpleihhbpnlaaDoor
