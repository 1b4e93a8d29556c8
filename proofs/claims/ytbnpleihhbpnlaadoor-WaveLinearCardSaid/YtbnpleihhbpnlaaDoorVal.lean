/- Floats as whole numbers of a unit: sums, products and differences of floats are sums, products and differences of whole numbers, rounded to 53 digits. -/
import Derived.Test.YtbnpleihhbpnlaaDoorIeee
namespace Go.Proofs.YtbnpleihhbpnlaaDoor
/-- Rounded to 53 digits. -/
def rndN (n : Nat) : Nat := Ieee.Toward.even.cut false n (n.log2 - 52) * 2 ^ (n.log2 - 52)
def rnd (n : Int) : Int := if n < 0 then -(rndN n.natAbs : Int) else (rndN n.natAbs : Int)
theorem even_neg (s : Bool) (n d : Nat) : Ieee.Toward.even.cut s n d = Ieee.Toward.even.cut false n d := rfl
theorem rndN_zero : rndN 0 = 0 := by decide +kernel
theorem rnd_zero : rnd 0 = 0 := by decide +kernel
theorem rnd_neg (n : Int) : rnd (-n) = - rnd n := by
  unfold rnd
  rw [Int.natAbs_neg]
  by_cases h : n = 0
  · subst h; rw [show Int.natAbs 0 = 0 from rfl, rndN_zero]; rfl
  · by_cases h1 : n < 0
    · rw [if_pos h1, if_neg (by omega), Int.neg_neg]
    · rw [if_neg h1, if_pos (by omega)]
theorem rndN_same {n : Nat} (h : n < 9007199254740992) : rndN n = n := by
  have hl : n.log2 ≤ 52 := by
    by_cases h0 : n = 0
    · subst h0; decide
    · have := (Nat.log2_lt h0).2 (show n < 2 ^ 53 by simpa using h); omega
  unfold rndN
  rw [show n.log2 - 52 = 0 from by omega, cut_zero, Nat.pow_zero, Nat.mul_one]
theorem rnd_same {n : Int} (h : n.natAbs < 9007199254740992) : rnd n = n := by
  unfold rnd
  rw [rndN_same h]
  split <;> omega
theorem rndN_err (n : Nat) : 9007199254740992 * n ≤ 9007199254740992 * rndN n + n ∧ 9007199254740992 * rndN n ≤ 9007199254740992 * n + n := by
  by_cases h52 : n.log2 ≤ 52
  · have : rndN n = n := by
      unfold rndN
      rw [show n.log2 - 52 = 0 from by omega, cut_zero, Nat.pow_zero, Nat.mul_one]
    rw [this]; omega
  · have h0 : n ≠ 0 := by rintro rfl; exact h52 (by decide)
    have h1 := (Nat.log2_eq_iff h0).1 rfl
    unfold rndN
    obtain ⟨d, hd⟩ : ∃ d, n.log2 - 52 = d := ⟨_, rfl⟩
    rw [hd]
    have h2 := cut_err false n d
    have h3 : 4503599627370496 * 2 ^ d ≤ n := by
      have e : (2 : Nat) ^ n.log2 = 2 ^ 52 * 2 ^ d := by rw [← Nat.pow_add]; congr 1; omega
      rw [e, show (2 : Nat) ^ 52 = 4503599627370496 from by decide] at h1
      exact h1.1
    generalize Ieee.Toward.even.cut false n d * 2 ^ d = r at *
    generalize (2 : Nat) ^ d = q at *
    omega
theorem rnd_err (n : Int) : 9007199254740992 * (rnd n - n).natAbs ≤ n.natAbs := by
  have := rndN_err n.natAbs
  unfold rnd
  split <;> omega
theorem rnd_sign (n : Int) : (0 ≤ n → 0 ≤ rnd n) ∧ (n ≤ 0 → rnd n ≤ 0) := by
  unfold rnd
  constructor <;> intro h
  · rw [if_neg (by omega)]; omega
  · by_cases h1 : n < 0
    · rw [if_pos h1]; omega
    · have : n = 0 := by omega
      subst this
      exact Int.le_of_eq (by decide)
/-- What a word stands for hangs on its value alone. -/
theorem nearest_same (s : Bool) {n m a b : Nat} {p q : Int} (h : n * 2 ^ a = m * 2 ^ b) (hp : p - a = q - b) : Ieee.double.nearest s n p = Ieee.double.nearest s m q := by
  rw [← nearest_shl Ieee.double s n a p, ← nearest_shl Ieee.double s m b q, Nat.shiftLeft_eq, Nat.shiftLeft_eq, h, hp]
theorem word_hi (s : Bool) {r : Nat} (hr : r < 9223372036854775808) : (Ieee.double.word s r / 9223372036854775808 % 2 == 1) = s ∧ Ieee.double.word s r % 9223372036854775808 = r := by
  unfold Ieee.Format.word
  rw [d_sign]
  cases s
  · rw [if_neg (by decide)]
    refine ⟨?_, by omega⟩
    have : r / 9223372036854775808 % 2 = 0 := by omega
    rw [this]; rfl
  · rw [if_pos rfl]
    refine ⟨?_, by omega⟩
    have : (9223372036854775808 + r) / 9223372036854775808 % 2 = 1 := by omega
    rw [this]; rfl
/-- The word of a rung, read. -/
theorem read_rung (s : Bool) {a Q : Nat} (hQ : Q ≤ 9007199254740992) (h : a = 0 ∨ 4503599627370496 ≤ Q) (hr : a * 4503599627370496 + Q < 9218868437227405312) :
    ∃ m i, Ieee.double.read (Ieee.double.word s (a * 4503599627370496 + Q)) = .number s m i ∧ -1074 ≤ i ∧ m * 2 ^ (i + 1074).toNat = Q * 2 ^ a := by
  obtain ⟨r, hR⟩ : ∃ r, a * 4503599627370496 + Q = r := ⟨_, rfl⟩
  rw [hR] at hr ⊢
  obtain ⟨e1, e2⟩ := word_hi s (show r < 9223372036854775808 by omega)
  unfold Ieee.Format.read
  rw [d_sign, d_binade, d_inf, d_least]
  dsimp only
  rw [e1, e2]
  by_cases h1 : r < 4503599627370496
  · rw [if_pos h1]
    have : a = 0 := by omega
    subst this
    have : r = Q := by omega
    subst this
    exact ⟨_, _, rfl, by omega, rfl⟩
  · rw [if_neg h1, if_pos hr]
    refine ⟨_, _, rfl, by omega, ?_⟩
    rw [show (-1074 + ((r / 4503599627370496 - 1 : Nat) : Int) + 1074).toNat = r / 4503599627370496 - 1 from by omega]
    by_cases h2 : Q = 9007199254740992
    · subst h2
      have e3 : r / 4503599627370496 - 1 = a + 1 := by omega
      have e4 : 4503599627370496 + r % 4503599627370496 = 4503599627370496 := by omega
      rw [e3, e4, Nat.pow_succ, Nat.mul_comm (2 ^ a) 2, ← Nat.mul_assoc]
    · by_cases h3 : Q < 4503599627370496
      · exfalso; omega
      · have e3 : r / 4503599627370496 - 1 = a := by omega
        have e4 : 4503599627370496 + r % 4503599627370496 = Q := by omega
        rw [e3, e4]
theorem pow_lt2 {a b : Nat} (h : (2 : Nat) ^ a < 2 ^ b) : a < b := (Nat.pow_lt_pow_iff_right (by decide)).1 h
/-- A number that is not too great, written and read. -/
theorem read_val (s : Bool) {N e k : Nat} (hN : N < 2 ^ k) (hk : k + e ≤ 2097) : ∃ m i, Ieee.double.read (Ieee.double.nearest s N ((e : Int) - 1074)) = .number s m i ∧ -1074 ≤ i ∧ m * 2 ^ (i + 1074).toNat = rndN N * 2 ^ e := by
  unfold Ieee.Format.nearest
  by_cases h0 : N = 0
  · rw [if_pos h0]
    have := read_rung s (a := 0) (Q := 0) (by decide) (Or.inl rfl) (by decide)
    rw [show 0 * 4503599627370496 + 0 = 0 from rfl] at this
    obtain ⟨m, i, h1, h2, h3⟩ := this
    refine ⟨m, i, h1, h2, ?_⟩
    rw [h3, h0, rndN_zero, Nat.zero_mul, Nat.zero_mul]
  · rw [if_neg h0, d_least, d_frac, d_binade, d_inf]
    dsimp only
    obtain ⟨l, hl⟩ : ∃ l, N.log2 = l := ⟨_, rfl⟩
    have hb := (Nat.log2_eq_iff h0).1 hl
    have hlk : l < k := pow_lt2 (Nat.lt_of_le_of_lt hb.1 hN)
    unfold rndN
    rw [hl]
    by_cases h52 : l ≤ 52
    · obtain ⟨g, hg⟩ : ∃ g, min (52 - l) e = g := ⟨_, rfl⟩
      have e1 : max ((e : Int) - 1074 + (l : Int) - ((52 : Nat) : Int)) (-1074) = (e : Int) - 1074 - g := by omega
      rw [e1]
      rw [show ((e : Int) - 1074 - g - ((e : Int) - 1074)).toNat = 0 from by omega, show ((e : Int) - 1074 - ((e : Int) - 1074 - g)).toNat = g from by omega, cut_zero, show ((e : Int) - 1074 - g - -1074).toNat = e - g from by omega]
      have hQ : N <<< g < 9007199254740992 := by
        rw [Nat.shiftLeft_eq]
        have p2 : (2 : Nat) ^ (l + 1) * 2 ^ g ≤ 2 ^ 53 := by rw [← Nat.pow_add]; exact pow_le2 (by omega)
        have := Nat.mul_lt_mul_of_pos_right hb.2 (Nat.two_pow_pos g)
        rw [show (2 : Nat) ^ 53 = 9007199254740992 from by decide] at p2
        omega
      have hQ2 : e - g = 0 ∨ 4503599627370496 ≤ N <<< g := by
        by_cases hc : 52 - l ≤ e
        · right
          have : g = 52 - l := by omega
          rw [Nat.shiftLeft_eq, this]
          have p : (2 : Nat) ^ l * 2 ^ (52 - l) = 4503599627370496 := by rw [← Nat.pow_add, show l + (52 - l) = 52 from by omega]
          rw [← p]
          exact Nat.mul_le_mul_right _ hb.1
        · left; omega
      have hr : (e - g) * 4503599627370496 + N <<< g < 9218868437227405312 := by
        have : e - g ≤ 2045 := by omega
        have := Nat.mul_le_mul_right 4503599627370496 this
        omega
      rw [Nat.min_eq_left (Nat.le_of_lt hr)]
      obtain ⟨m, i, h1, h2, h3⟩ := read_rung s (Nat.le_of_lt hQ) hQ2 hr
      refine ⟨m, i, h1, h2, ?_⟩
      rw [h3, show l - 52 = 0 from by omega, cut_zero, Nat.pow_zero, Nat.mul_one, Nat.shiftLeft_eq, Nat.mul_assoc, ← Nat.pow_add]
      congr 2; omega
    · have e1 : max ((e : Int) - 1074 + (l : Int) - ((52 : Nat) : Int)) (-1074) = (e : Int) - 1074 + ((l - 52 : Nat) : Int) := by omega
      rw [e1]
      obtain ⟨d, hd⟩ : ∃ d, l - 52 = d := ⟨_, rfl⟩
      rw [hd]
      rw [show ((e : Int) - 1074 + (d : Int) - ((e : Int) - 1074)).toNat = d from by omega, show ((e : Int) - 1074 - ((e : Int) - 1074 + (d : Int))).toNat = 0 from by omega, Nat.shiftLeft_zero, show ((e : Int) - 1074 + (d : Int) - -1074).toNat = e + d from by omega, even_neg]
      have hQ : Ieee.Toward.even.cut false N d ≤ 9007199254740992 := by
        have := kept_le false N d 53 (by rw [show 53 + d = l + 1 from by omega]; exact hb.2)
        rwa [show (2 : Nat) ^ 53 = 9007199254740992 from by decide] at this
      have hQ2 : 4503599627370496 ≤ Ieee.Toward.even.cut false N d := by
        have := (cut_err false N d).1
        have h3 : 4503599627370496 * 2 ^ d ≤ N := by
          have e : (2 : Nat) ^ l = 2 ^ 52 * 2 ^ d := by rw [← Nat.pow_add]; congr 1; omega
          rw [e, show (2 : Nat) ^ 52 = 4503599627370496 from by decide] at hb
          exact hb.1
        have hq := Nat.two_pow_pos d
        generalize Ieee.Toward.even.cut false N d = r at *
        by_cases hc : 4503599627370496 ≤ r
        · exact hc
        · exfalso
          have hr : r + 1 ≤ 4503599627370496 := by omega
          have h4 := Nat.mul_le_mul_right (2 ^ d) hr
          rw [Nat.add_mul, Nat.one_mul] at h4
          generalize (2 : Nat) ^ d = q at *
          generalize r * q = rq at *
          omega
      have hr : (e + d) * 4503599627370496 + Ieee.Toward.even.cut false N d < 9218868437227405312 := by
        have : e + d ≤ 2044 := by omega
        have := Nat.mul_le_mul_right 4503599627370496 this
        omega
      rw [Nat.min_eq_left (Nat.le_of_lt hr)]
      obtain ⟨m, i, h1, h2, h3⟩ := read_rung s hQ (Or.inr hQ2) hr
      refine ⟨m, i, h1, h2, ?_⟩
      rw [h3, Nat.mul_assoc, ← Nat.pow_add, Nat.add_comm d e]
/-- A float is so many of a unit. -/
def Val (x e : Nat) (N : Int) : Prop := x < 18446744073709551616 ∧ ∃ s m i, Ieee.double.read x = .number s m i ∧ -1074 ≤ i ∧ Ieee.signed s m (i + 1074).toNat = N * ((2 ^ e : Nat) : Int)
theorem signed_abs (s : Bool) (m u : Nat) : (Ieee.signed s m u).natAbs = m * 2 ^ u := by
  rw [signed_nat]
  split <;> omega
theorem val_write {s : Bool} {N e k : Nat} {M : Int} (hN : N < 2 ^ k) (hk : k + e ≤ 2097) (hM : M.natAbs = N) (hs : M ≠ 0 → s = decide (M < 0)) : Val (Ieee.double.nearest s N ((e : Int) - 1074)) e (rnd M) := by
  refine ⟨nearest_64 _ _ _, ?_⟩
  obtain ⟨m, i, h1, h2, h3⟩ := read_val s hN hk
  refine ⟨s, m, i, h1, h2, ?_⟩
  rw [signed_nat, h3]
  unfold rnd
  rw [hM]
  by_cases h0 : M = 0
  · have : N = 0 := by rw [← hM, h0]; rfl
    rw [this, rndN_zero, Nat.zero_mul]
    split <;> split <;> simp
  · rw [hs h0]
    by_cases hn : M < 0
    · rw [if_pos hn, if_pos (by simpa using hn), Int.natCast_mul, Int.neg_mul]
    · rw [if_neg hn, if_neg (by simpa using hn), Int.natCast_mul]
theorem val_scale {x e : Nat} {N : Int} (h : Val x e N) {e' d : Nat} (he : e = e' + d) : Val x e' (N * ((2 ^ d : Nat) : Int)) := by
  obtain ⟨hx, s, m, i, h1, h2, h3⟩ := h
  refine ⟨hx, s, m, i, h1, h2, ?_⟩
  rw [h3, he, Nat.pow_add, Int.mul_assoc, ← Int.natCast_mul, Nat.mul_comm (2 ^ d)]
/-- The sum of two floats. -/
theorem val_add {x y e k : Nat} {M N : Int} (hx : Val x e M) (hy : Val y e N) (hb : (M + N).natAbs < 2 ^ k) (hk : k + e ≤ 2097) : ∃ z, Ieee.double.add x y = some z ∧ Val z e (rnd (M + N)) := by
  obtain ⟨_, s, m, i, hr, hi, hv⟩ := hx
  obtain ⟨_, t, n, j, hr2, hj, hv2⟩ := hy
  unfold Ieee.Format.add
  rw [hr, hr2]
  unfold Ieee.Datum.sum
  dsimp only
  obtain ⟨b, hbb⟩ : ∃ b, min i j = b := ⟨_, rfl⟩
  rw [hbb]
  have e1 : (i + 1074).toNat = (i - b).toNat + (b + 1074).toNat := by omega
  have e2 : (j + 1074).toNat = (j - b).toNat + (b + 1074).toNat := by omega
  rw [e1, signed_up] at hv
  rw [e2, signed_up] at hv2
  generalize Ieee.signed s m (i - b).toNat = X at *
  generalize Ieee.signed t n (j - b).toNat = Y at *
  have hsum : (X + Y) * ((2 ^ (b + 1074).toNat : Nat) : Int) = (M + N) * ((2 ^ e : Nat) : Int) := by rw [Int.add_mul, Int.add_mul, hv, hv2]
  refine ⟨_, rfl, ?_⟩
  show Val (Ieee.double.nearest _ (X + Y).natAbs b) e (rnd (M + N))
  have habs : (X + Y).natAbs * 2 ^ (b + 1074).toNat = (M + N).natAbs * 2 ^ e := by
    have := congrArg Int.natAbs hsum
    rwa [Int.natAbs_mul, Int.natAbs_mul, Int.natAbs_natCast, Int.natAbs_natCast] at this
  have hp := cast_pos (b + 1074).toNat
  have hq := cast_pos e
  rw [nearest_same _ (q := (e : Int) - 1074) habs (by omega)]
  refine val_write hb hk rfl (fun h0 => ?_)
  have hz : X + Y ≠ 0 := by
    intro h
    rw [h, Int.zero_mul] at hsum
    rcases Int.mul_eq_zero.1 hsum.symm with h | h
    · exact h0 h
    · omega
  rw [if_neg hz]
  congr 1
  apply propext
  constructor
  · intro h
    have := Int.mul_neg_of_neg_of_pos h hp
    rw [hsum] at this
    exact Int.lt_of_mul_lt_mul_right (by rw [Int.zero_mul]; exact this) (Int.le_of_lt hq)
  · intro h
    have := Int.mul_neg_of_neg_of_pos h hq
    rw [← hsum] at this
    exact Int.lt_of_mul_lt_mul_right (by rw [Int.zero_mul]; exact this) (Int.le_of_lt hp)
/-- The product of two floats. -/
theorem val_mul {x y e1 e2 e k : Nat} {M N : Int} (hx : Val x e1 M) (hy : Val y e2 N) (he : e1 + e2 = e + 1074) (hb : (M * N).natAbs < 2 ^ k) (hk : k + e ≤ 2097) : ∃ z, Ieee.double.mul x y = some z ∧ Val z e (rnd (M * N)) := by
  obtain ⟨_, s, m, i, hr, hi, hv⟩ := hx
  obtain ⟨_, t, n, j, hr2, hj, hv2⟩ := hy
  unfold Ieee.Format.mul
  rw [hr, hr2]
  unfold Ieee.Datum.product
  dsimp only
  refine ⟨_, rfl, ?_⟩
  show Val (Ieee.double.nearest _ (m * n) (i + j)) e (rnd (M * N))
  have ha1 := congrArg Int.natAbs hv
  have ha2 := congrArg Int.natAbs hv2
  rw [signed_abs, Int.natAbs_mul, Int.natAbs_natCast] at ha1 ha2
  have habs : (m * n) * 2 ^ ((i + 1074).toNat + (j + 1074).toNat) = (M * N).natAbs * 2 ^ (e1 + e2) := by
    rw [Nat.pow_add, Nat.pow_add, Int.natAbs_mul]
    calc m * n * (2 ^ (i + 1074).toNat * 2 ^ (j + 1074).toNat) = (m * 2 ^ (i + 1074).toNat) * (n * 2 ^ (j + 1074).toNat) := by ac_rfl
      _ = (M.natAbs * 2 ^ e1) * (N.natAbs * 2 ^ e2) := by rw [ha1, ha2]
      _ = M.natAbs * N.natAbs * (2 ^ e1 * 2 ^ e2) := by ac_rfl
  rw [nearest_same _ (q := (e : Int) - 1074) habs (by omega)]
  refine val_write hb hk rfl (fun h0 => ?_)
  have hM0 : M ≠ 0 := fun h => h0 (by rw [h, Int.zero_mul])
  have hN0 : N ≠ 0 := fun h => h0 (by rw [h, Int.mul_zero])
  have hq1 := cast_pos e1
  have hq2 := cast_pos e2
  have hsg : ∀ (s : Bool) (m u : Nat) (M E : Int), M ≠ 0 → 0 < E → Ieee.signed s m u = M * E → s = decide (M < 0) := by
    intro s m u M E h0 hE h
    rw [signed_nat] at h
    by_cases hM : M < 0
    · rw [decide_eq_true hM]
      cases s with
      | true => rfl
      | false =>
        have := Int.mul_neg_of_neg_of_pos hM hE
        rw [if_neg (by decide)] at h
        omega
    · rw [decide_eq_false hM]
      cases s with
      | false => rfl
      | true =>
        have := Int.mul_pos (show 0 < M by omega) hE
        rw [if_pos rfl] at h
        omega
  rw [hsg _ _ _ _ _ hM0 hq1 hv, hsg _ _ _ _ _ hN0 hq2 hv2]
  by_cases h1 : M < 0
  · by_cases h2 : N < 0
    · have := Int.mul_pos_of_neg_of_neg h1 h2
      simp [h1, h2]; omega
    · have := Int.mul_neg_of_neg_of_pos h1 (show 0 < N by omega)
      simp [h1, h2]; omega
  · by_cases h2 : N < 0
    · have := Int.mul_neg_of_pos_of_neg (show 0 < M by omega) h2
      simp [h1, h2]; omega
    · have := Int.mul_pos (show 0 < M by omega) (show 0 < N by omega)
      simp [h1, h2]; omega
theorem read_opp {x : Nat} {s : Bool} {m : Nat} {i : Int} (h : Ieee.double.read x = .number s m i) : (Ieee.double.read x).opposite = .number (!s) m i := by rw [h]; rfl
/-- The difference of two floats. -/
theorem val_sub {x y e k : Nat} {M N : Int} (hx : Val x e M) (hy : Val y e N) (hb : (M - N).natAbs < 2 ^ k) (hk : k + e ≤ 2097) : ∃ z, Ieee.double.sub x y = some z ∧ Val z e (rnd (M - N)) := by
  obtain ⟨_, s, m, i, hr, hi, hv⟩ := hx
  obtain ⟨_, t, n, j, hr2, hj, hv2⟩ := hy
  have hv3 : Ieee.signed (!t) n (j + 1074).toNat = -N * ((2 ^ e : Nat) : Int) := by
    rw [Int.neg_mul, ← hv2, signed_nat, signed_nat]
    cases t <;> simp
  unfold Ieee.Format.sub
  rw [hr, hr2]
  unfold Ieee.Datum.opposite Ieee.Datum.sum
  dsimp only
  obtain ⟨b, hbb⟩ : ∃ b, min i j = b := ⟨_, rfl⟩
  rw [hbb]
  have e1 : (i + 1074).toNat = (i - b).toNat + (b + 1074).toNat := by omega
  have e2 : (j + 1074).toNat = (j - b).toNat + (b + 1074).toNat := by omega
  rw [e1, signed_up] at hv
  rw [e2, signed_up] at hv3
  generalize Ieee.signed s m (i - b).toNat = X at *
  generalize Ieee.signed (!t) n (j - b).toNat = Y at *
  have hsum : (X + Y) * ((2 ^ (b + 1074).toNat : Nat) : Int) = (M - N) * ((2 ^ e : Nat) : Int) := by rw [Int.add_mul, Int.sub_eq_add_neg, Int.add_mul, hv, hv3]
  refine ⟨_, rfl, ?_⟩
  show Val (Ieee.double.nearest _ (X + Y).natAbs b) e (rnd (M - N))
  have habs : (X + Y).natAbs * 2 ^ (b + 1074).toNat = (M - N).natAbs * 2 ^ e := by
    have := congrArg Int.natAbs hsum
    rwa [Int.natAbs_mul, Int.natAbs_mul, Int.natAbs_natCast, Int.natAbs_natCast] at this
  have hp := cast_pos (b + 1074).toNat
  have hq := cast_pos e
  rw [nearest_same _ (q := (e : Int) - 1074) habs (by omega)]
  refine val_write hb hk rfl (fun h0 => ?_)
  have hz : X + Y ≠ 0 := by
    intro h
    rw [h, Int.zero_mul] at hsum
    rcases Int.mul_eq_zero.1 hsum.symm with h | h
    · exact h0 h
    · omega
  rw [if_neg hz]
  congr 1
  apply propext
  constructor
  · intro h
    have := Int.mul_neg_of_neg_of_pos h hp
    rw [hsum] at this
    exact Int.lt_of_mul_lt_mul_right (by rw [Int.zero_mul]; exact this) (Int.le_of_lt hq)
  · intro h
    have := Int.mul_neg_of_neg_of_pos h hq
    rw [← hsum] at this
    exact Int.lt_of_mul_lt_mul_right (by rw [Int.zero_mul]; exact this) (Int.le_of_lt hp)
/-- Two floats of one unit are in the order of their numbers. -/
theorem val_order {x y e : Nat} {M N : Int} (hx : Val x e M) (hy : Val y e N) : Ieee.double.order x y = some (compare M N) := by
  obtain ⟨_, s, m, i, hr, hi, hv⟩ := hx
  obtain ⟨_, t, n, j, hr2, hj, hv2⟩ := hy
  unfold Ieee.Format.order
  rw [hr, hr2, order_V hi hj]
  unfold fV
  dsimp only
  rw [hv, hv2, compare_scale _ _ (cast_pos e)]
/-- A whole number of at most 53 digits, as a float. -/
theorem val_int {n : Int} (h : n.natAbs < 9007199254740992) : Val (Ieee.double.nearest (decide (n < 0)) n.natAbs 0) 1074 n := by
  have := val_write (s := decide (n < 0)) (N := n.natAbs) (e := 1074) (k := 53) (M := n) (by simpa using h) (by decide) rfl (fun _ => rfl)
  rw [rnd_same h] at this
  exact this
end Go.Proofs.YtbnpleihhbpnlaaDoor
