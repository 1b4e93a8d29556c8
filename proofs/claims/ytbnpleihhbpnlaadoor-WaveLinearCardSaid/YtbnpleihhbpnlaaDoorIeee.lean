/- Floats, plain: a number is written once; what is divided by one; order; whole numbers; floors; what is a number; what is dropped. -/
import Derived.Laws.FloatBits
namespace Go.Proofs.YtbnpleihhbpnlaaDoor

theorem log2_shl {n : Nat} (h : n ≠ 0) (a : Nat) : (n <<< a).log2 = n.log2 + a := by
  rw [Nat.shiftLeft_eq]
  have hp : n * 2 ^ a ≠ 0 := Nat.mul_ne_zero h (Nat.pos_iff_ne_zero.1 (Nat.two_pow_pos a))
  rw [Nat.log2_eq_iff hp]
  have h1 := (Nat.log2_eq_iff h).1 rfl
  constructor
  · rw [Nat.pow_add]; exact Nat.mul_le_mul_right _ h1.1
  · rw [show n.log2 + a + 1 = (n.log2 + 1) + a from by omega, Nat.pow_add]; exact Nat.mul_lt_mul_of_pos_right h1.2 (Nat.two_pow_pos a)
theorem cut_zero (way : Ieee.Toward) (neg : Bool) (n : Nat) : way.cut neg n 0 = n := by
  unfold Ieee.Toward.cut
  have : (1 : Nat) <<< min 0 (n.log2 + 2) = 1 := by simp
  simp only [this, Nat.div_one, Nat.mod_one]
  cases way <;> simp
theorem cut_shl (neg : Bool) {n : Nat} (h : n ≠ 0) (a d : Nat) : Ieee.Toward.even.cut neg (n <<< a) (d + a) = Ieee.Toward.even.cut neg n d := by
  unfold Ieee.Toward.cut
  rw [log2_shl h]
  have hm : min (d + a) (n.log2 + a + 2) = min d (n.log2 + 2) + a := by omega
  rw [hm]
  generalize min d (n.log2 + 2) = g
  dsimp only
  have hp := Nat.two_pow_pos a
  have hg : (1 : Nat) <<< (g + a) = (1 <<< g) * 2 ^ a := by simp [Nat.shiftLeft_eq, Nat.pow_add]
  have hn : n <<< a = n * 2 ^ a := Nat.shiftLeft_eq _ _
  rw [hg, hn, Nat.mul_div_mul_right _ _ hp, Nat.mul_mod_mul_right]
  generalize n % (1 <<< g) = r
  generalize (1 : Nat) <<< g = q
  generalize n / q = l
  have e1 : (q * 2 ^ a < 2 * (r * 2 ^ a)) = (q < 2 * r) := by
    rw [← Nat.mul_assoc]; exact propext ⟨fun h => Nat.lt_of_mul_lt_mul_right h, fun h => Nat.mul_lt_mul_of_pos_right h hp⟩
  have e2 : (q * 2 ^ a == 2 * (r * 2 ^ a)) = (q == 2 * r) := by
    rw [← Nat.mul_assoc, Bool.eq_iff_iff, beq_iff_eq, beq_iff_eq]
    exact ⟨fun h => Nat.eq_of_mul_eq_mul_right hp h, fun h => by rw [h]⟩
  simp only [e1, e2]
/-- A number written with more digits is the same. -/
theorem nearest_shl (f : Ieee.Format) (neg : Bool) (n a : Nat) (p : Int) : f.nearest neg (n <<< a) (p - a) = f.nearest neg n p := by
  by_cases h : n = 0
  · subst h; simp [Ieee.Format.nearest]
  · have h2 : n <<< a ≠ 0 := by rw [Nat.shiftLeft_eq]; exact Nat.mul_ne_zero h (Nat.pos_iff_ne_zero.1 (Nat.two_pow_pos a))
    unfold Ieee.Format.nearest
    rw [if_neg h, if_neg h2, log2_shl h]
    dsimp only
    have hl : p - (a : Int) + ((n.log2 + a : Nat) : Int) - f.fractionBits = p + (n.log2 : Int) - f.fractionBits := by omega
    rw [hl]
    generalize max (p + (n.log2 : Int) - f.fractionBits) f.leastPlace = last
    congr 3
    by_cases hc : last ≤ p
    · obtain ⟨k, hk⟩ : ∃ k : Nat, p - last = k := ⟨(p - last).toNat, by omega⟩
      have e1 : (last - p).toNat = 0 := by omega
      have e2 : (p - last).toNat = k := by omega
      rw [e1, e2, cut_zero]
      by_cases ha : a ≤ k
      · have e3 : (last - (p - (a : Int))).toNat = 0 := by omega
        have e4 : (p - (a : Int) - last).toNat = k - a := by omega
        rw [e3, e4, cut_zero, ← Nat.shiftLeft_add]
        congr 1; omega
      · have e3 : (last - (p - (a : Int))).toNat = 0 + (a - k) := by omega
        have e4 : (p - (a : Int) - last).toNat = 0 := by omega
        have e5 : n <<< a = (n <<< k) <<< (a - k) := by rw [← Nat.shiftLeft_add]; congr 1; omega
        have hk0 : n <<< k ≠ 0 := by rw [Nat.shiftLeft_eq]; exact Nat.mul_ne_zero h (Nat.pos_iff_ne_zero.1 (Nat.two_pow_pos k))
        rw [e3, e4, Nat.shiftLeft_zero, e5, cut_shl neg hk0, cut_zero]
    · have e1 : (p - last).toNat = 0 := by omega
      have e2 : (p - (a : Int) - last).toNat = 0 := by omega
      have e3 : (last - (p - (a : Int))).toNat = (last - p).toNat + a := by omega
      rw [e1, e2, e3, Nat.shiftLeft_zero, Nat.shiftLeft_zero, cut_shl neg h]
theorem d_binade : Ieee.double.binade = 4503599627370496 := by decide +kernel
theorem d_inf : Ieee.double.infRung = 9218868437227405312 := by decide +kernel
theorem d_sign : Ieee.double.signWeight = 9223372036854775808 := by decide +kernel
theorem d_least : Ieee.double.leastPlace = -1074 := by decide +kernel
theorem d_frac : Ieee.double.fractionBits = 52 := rfl
theorem word_read {w : Nat} (hw : w < 18446744073709551616) : Ieee.double.word (w / 9223372036854775808 % 2 == 1) (w % 9223372036854775808) = w := by
  unfold Ieee.Format.word
  rw [d_sign]
  by_cases h : w / 9223372036854775808 % 2 = 1
  · rw [if_pos (by simpa using h)]; omega
  · rw [if_neg (by simpa using h)]; omega
/-- A word that is a number, read and written, is itself. -/
theorem write_read {w : Nat} (hw : w < 18446744073709551616) (hn : w % 9223372036854775808 ≤ 9218868437227405312) : Ieee.double.write (Ieee.double.read w) = w := by
  unfold Ieee.Format.read
  rw [d_sign, d_binade, d_inf, d_least]
  dsimp only
  have hW := word_read hw
  generalize (w / 9223372036854775808 % 2 == 1) = neg at *
  generalize w % 9223372036854775808 = r at *
  by_cases h1 : r < 4503599627370496
  · rw [if_pos h1]
    show Ieee.double.nearest neg r (-1074) = w
    unfold Ieee.Format.nearest
    by_cases h0 : r = 0
    · rw [if_pos h0, ← hW, h0]
    · rw [if_neg h0, d_least, d_frac, d_binade, d_inf]
      have hl : r.log2 < 52 := (Nat.log2_lt h0).2 (by simpa using h1)
      have e : max (-1074 + (r.log2 : Int) - ((52 : Nat) : Int)) (-1074) = -1074 := by omega
      rw [e]
      dsimp only
      simp only [Int.sub_self, Int.toNat_zero, Nat.shiftLeft_zero, cut_zero, Nat.zero_mul, Nat.zero_add]
      rw [Nat.min_eq_left (by omega), hW]
  · rw [if_neg h1]
    by_cases h2 : r < 9218868437227405312
    · rw [if_pos h2]
      show Ieee.double.nearest neg (4503599627370496 + r % 4503599627370496) (-1074 + ((r / 4503599627370496 - 1 : Nat) : Int)) = w
      unfold Ieee.Format.nearest
      have h0 : 4503599627370496 + r % 4503599627370496 ≠ 0 := by omega
      have hl : (4503599627370496 + r % 4503599627370496).log2 = 52 := by
        rw [Nat.log2_eq_iff h0]
        constructor <;> simp <;> omega
      rw [if_neg h0, d_least, d_frac, d_binade, d_inf, hl]
      have e : max (-1074 + ((r / 4503599627370496 - 1 : Nat) : Int) + ((52 : Nat) : Int) - ((52 : Nat) : Int)) (-1074) = -1074 + ((r / 4503599627370496 - 1 : Nat) : Int) := by omega
      rw [e]
      dsimp only
      simp only [Int.sub_self, Int.toNat_zero, Nat.shiftLeft_zero, cut_zero]
      have e2 : (-1074 + ((r / 4503599627370496 - 1 : Nat) : Int) - -1074).toNat = r / 4503599627370496 - 1 := by omega
      rw [e2]
      have e3 : (r / 4503599627370496 - 1) * 4503599627370496 + (4503599627370496 + r % 4503599627370496) = r := by omega
      rw [e3, Nat.min_eq_left (by omega), hW]
    · have e : r = 9218868437227405312 := by omega
      rw [if_neg h2, if_pos e]
      show Ieee.double.word neg Ieee.double.infRung = w
      rw [d_inf, ← hW, e]
def oneF : Nat := 4607182418800017408
theorem read_one : Ieee.double.read oneF = .number false 4503599627370496 (-52) := by decide +kernel
/-- A number divided by one is itself. -/
theorem div_one {w : Nat} (hw : w < 18446744073709551616) (hn : w % 9223372036854775808 < 9218868437227405312) : Ieee.double.div w oneF = some w := by
  have hwr := write_read hw (Nat.le_of_lt hn)
  unfold Ieee.Format.div
  rw [read_one]
  cases hr : Ieee.double.read w with
  | infinity s => exfalso; unfold Ieee.Format.read at hr; rw [d_sign, d_binade, d_inf] at hr; dsimp only at hr; (split at hr) <;> cases hr
  | nan s t => exfalso; unfold Ieee.Format.read at hr; rw [d_sign, d_binade, d_inf] at hr; dsimp only at hr; (split at hr) <;> cases hr
  | number s m i =>
    rw [hr] at hwr
    have hwr : Ieee.double.nearest s m i = w := hwr
    unfold Ieee.Datum.quotient
    dsimp only
    rw [if_neg (by decide), d_frac]
    have hl : (4503599627370496 : Nat).log2 = 52 := by decide +kernel
    rw [hl]
    obtain ⟨k, hk⟩ : ∃ k, 52 + 2 + 52 - m.log2 = k := ⟨_, rfl⟩
    have hm : m < 9007199254740992 := by
      unfold Ieee.Format.read at hr
      rw [d_sign, d_binade, d_inf] at hr
      dsimp only at hr
      split at hr
      · injection hr with _ e2 _; omega
      · injection hr with _ e2 _; omega
    have hml : m.log2 ≤ 52 := by
      by_cases h0 : m = 0
      · subst h0; decide
      · have := (Nat.log2_lt h0).2 (show m < 2 ^ 53 by simpa using hm); omega
    rw [hk]
    have hk52 : 52 ≤ k := by omega
    have e1 : m <<< k = (m <<< (k - 52)) * 4503599627370496 := by
      rw [Nat.shiftLeft_eq, Nat.shiftLeft_eq, Nat.mul_assoc]
      congr 1
      rw [show (4503599627370496 : Nat) = 2 ^ 52 from by decide, ← Nat.pow_add]
      congr 1; omega
    rw [e1, Nat.mul_div_cancel _ (by decide), Nat.mul_mod_left]
    simp only [Option.map_some, bne_self_eq_false, Bool.toNat_false, Nat.add_zero, Bool.xor_false]
    show some (Ieee.double.nearest s (2 * m <<< (k - 52)) (i - -52 - (k : Int) - 1)) = _
    have e2 : 2 * m <<< (k - 52) = m <<< (k - 51) := by
      rw [Nat.shiftLeft_eq, Nat.shiftLeft_eq, show k - 51 = (k - 52) + 1 from by omega, Nat.pow_succ]
      ac_rfl
    have e3 : i - -52 - (k : Int) - 1 = i - ((k - 51 : Nat) : Int) := by omega
    rw [e2, e3, nearest_shl, hwr]
theorem order_isSome (d e : Ieee.Datum) : (d.order e).isSome = (!d.isNaN && !e.isNaN) := by
  cases d <;> cases e <;> rfl
/-- What is below one is written as no more than one. -/
theorem kept_le (neg : Bool) (n d k : Nat) (h : n < 2 ^ (k + d)) : Ieee.Toward.even.cut neg n d ≤ 2 ^ k := by
  unfold Ieee.Toward.cut
  dsimp only
  obtain ⟨g, hg⟩ : ∃ g, min d (n.log2 + 2) = g := ⟨_, rfl⟩
  rw [hg, Nat.one_shiftLeft]
  have hb : ∀ b : Bool, b.toNat ≤ 1 := fun b => by cases b <;> decide
  have hlow : n / 2 ^ g < 2 ^ k := by
    by_cases h0 : n = 0
    · subst h0; rw [Nat.zero_div]; exact Nat.two_pow_pos k
    · rw [Nat.div_lt_iff_lt_mul (Nat.two_pow_pos g), ← Nat.pow_add]
      by_cases hc : d ≤ n.log2 + 2
      · rw [← hg, Nat.min_eq_left hc]; exact h
      · have : g = n.log2 + 2 := by omega
        rw [this]
        have h1 : n < 2 ^ (n.log2 + 1) := ((Nat.log2_eq_iff h0).1 rfl).2
        exact Nat.lt_of_lt_of_le h1 (Nat.pow_le_pow_right (by decide) (by omega))
  have := hb (decide (2 ^ g < 2 * (n % 2 ^ g)) || (2 ^ g == 2 * (n % 2 ^ g)) && (n / 2 ^ g % 2 == 1))
  omega
theorem signed_up (s : Bool) (m u k : Nat) : Ieee.signed s m (u + k) = Ieee.signed s m u * ((2 ^ k : Nat) : Int) := by
  unfold Ieee.signed
  rw [Nat.shiftLeft_eq, Nat.shiftLeft_eq, Nat.pow_add, ← Nat.mul_assoc]
  cases s
  · rw [if_neg (by decide), if_neg (by decide), Int.natCast_mul]
  · rw [if_pos rfl, if_pos rfl, Int.natCast_mul, Int.neg_mul]
theorem compare_scale (a b : Int) {c : Int} (hc : 0 < c) : compare (a * c) (b * c) = compare a b := by
  have h1 : (a * c < b * c) = (a < b) := propext ⟨fun h => Int.lt_of_mul_lt_mul_right h (Int.le_of_lt hc), fun h => Int.mul_lt_mul_of_pos_right h hc⟩
  have h2 : (a * c = b * c) = (a = b) := propext ⟨fun h => Int.eq_of_mul_eq_mul_right (by omega) h, fun h => by rw [h]⟩
  simp only [compare, compareOfLessAndEq, h1, h2]
/-- A number's value, in units of the least place. -/
def fV : Ieee.Datum → Int
  | .number s m i => Ieee.signed s m (i + 1074).toNat
  | _ => 0
theorem order_V {s t : Bool} {m n : Nat} {i j : Int} (hi : -1074 ≤ i) (hj : -1074 ≤ j) : (Ieee.Datum.number s m i).order (.number t n j) = some (compare (fV (.number s m i)) (fV (.number t n j))) := by
  unfold Ieee.Datum.order fV
  dsimp only
  have e1 : (i + 1074).toNat = (i - min i j).toNat + (min i j + 1074).toNat := by omega
  have e2 : (j + 1074).toNat = (j - min i j).toNat + (min i j + 1074).toNat := by omega
  rw [e1, e2, signed_up, signed_up, compare_scale _ _ (Int.natCast_pos.2 (Nat.two_pow_pos _))]
theorem read_place {w : Nat} {s : Bool} {m : Nat} {i : Int} (h : Ieee.double.read w = .number s m i) : -1074 ≤ i ∧ m < 9007199254740992 ∧ s = (w / 9223372036854775808 % 2 == 1) := by
  unfold Ieee.Format.read at h
  rw [d_sign, d_binade, d_inf, d_least] at h
  dsimp only at h
  split at h
  · injection h with e1 e2 e3; exact ⟨by omega, by omega, e1.symm⟩
  · split at h
    · injection h with e1 e2 e3; exact ⟨by omega, by omega, e1.symm⟩
    · split at h <;> cases h
set_option maxRecDepth 100000 in
/-- A whole number of at most 53 digits is written as it is. -/
theorem read_nearest (s : Bool) {K : Nat} (hK : K < 9007199254740992) : ∃ a : Nat, a ≤ 1074 ∧ Ieee.double.read (Ieee.double.nearest s K 0) = .number s (K <<< a) (-(a : Int)) := by
  unfold Ieee.Format.nearest
  have hs : ∀ r, r < 9223372036854775808 → (Ieee.double.word s r / 9223372036854775808 % 2 == 1) = s ∧ Ieee.double.word s r % 9223372036854775808 = r := by
    intro r hr
    unfold Ieee.Format.word
    rw [d_sign]
    cases s
    · rw [if_neg (by decide)]
      refine ⟨?_, by omega⟩
      have : r / 9223372036854775808 % 2 = 0 := by omega
      rw [this]; rfl
    · rw [if_pos rfl]
      refine ⟨?_, by omega⟩
      have : (9223372036854775808 + r) / 9223372036854775808 % 2 = 1 := by omega
      rw [this]; rfl
  by_cases h0 : K = 0
  · rw [if_pos h0]
    refine ⟨1074, by omega, ?_⟩
    unfold Ieee.Format.read
    obtain ⟨e1, e2⟩ := hs 0 (by decide)
    rw [d_sign, d_binade, d_inf, d_least]
    dsimp only
    rw [e1, e2, if_pos (by decide), h0]
    simp
  · rw [if_neg h0, d_least, d_frac, d_binade, d_inf]
    dsimp only
    obtain ⟨l, hl⟩ : ∃ l, K.log2 = l := ⟨_, rfl⟩
    have hl52 : l ≤ 52 := by
      have := (Nat.log2_lt h0).2 (show K < 2 ^ 53 by simpa using hK)
      omega
    have hb := (Nat.log2_eq_iff h0).1 hl
    rw [hl]
    have e1 : max ((0 : Int) + (l : Int) - ((52 : Nat) : Int)) (-1074) = (l : Int) - 52 := by omega
    rw [e1]
    have e2 : ((0 : Int) - ((l : Int) - 52)).toNat = 52 - l := by omega
    have e3 : ((l : Int) - 52 - 0).toNat = 0 := by omega
    have e4 : ((l : Int) - 52 - -1074).toNat = l + 1022 := by omega
    rw [e2, e3, e4, cut_zero]
    obtain ⟨Q, hQ⟩ : ∃ Q, K <<< (52 - l) = Q := ⟨_, rfl⟩
    have hQ1 : 4503599627370496 ≤ Q ∧ Q < 9007199254740992 := by
      rw [← hQ, Nat.shiftLeft_eq]
      have p : (2 : Nat) ^ l * 2 ^ (52 - l) = 4503599627370496 := by rw [← Nat.pow_add, show l + (52 - l) = 52 from by omega]
      have p2 : (2 : Nat) ^ (l + 1) * 2 ^ (52 - l) = 9007199254740992 := by rw [← Nat.pow_add, show l + 1 + (52 - l) = 53 from by omega]
      exact ⟨by rw [← p]; exact Nat.mul_le_mul_right _ hb.1, by rw [← p2]; exact Nat.mul_lt_mul_of_pos_right hb.2 (Nat.two_pow_pos _)⟩
    rw [hQ]
    have hr : (l + 1022) * 4503599627370496 + Q < 9218868437227405312 := by omega
    rw [Nat.min_eq_left (Nat.le_of_lt hr)]
    obtain ⟨f1, f2⟩ := hs ((l + 1022) * 4503599627370496 + Q) (by omega)
    refine ⟨52 - l, by omega, ?_⟩
    unfold Ieee.Format.read
    rw [d_sign, d_binade, d_inf, d_least]
    dsimp only
    rw [f1, f2, if_neg (by omega), if_pos hr, hQ]
    have g1 : 4503599627370496 + ((l + 1022) * 4503599627370496 + Q) % 4503599627370496 = Q := by omega
    have g2 : ((l + 1022) * 4503599627370496 + Q) / 4503599627370496 - 1 = l + 1022 := by omega
    rw [g1, g2]
    congr 1
    omega
theorem cut_down (s : Bool) (n d : Nat) : (s = false → Ieee.Toward.down.cut s n d * 2 ^ d ≤ n ∧ n < (Ieee.Toward.down.cut s n d + 1) * 2 ^ d) ∧ (s = true → n ≤ Ieee.Toward.down.cut s n d * 2 ^ d ∧ Ieee.Toward.down.cut s n d * 2 ^ d < n + 2 ^ d) := by
  unfold Ieee.Toward.cut
  dsimp only
  obtain ⟨g, hg⟩ : ∃ g, min d (n.log2 + 2) = g := ⟨_, rfl⟩
  rw [hg, Nat.one_shiftLeft]
  have hp := Nat.two_pow_pos d
  have hpg := Nat.two_pow_pos g
  by_cases hc : d ≤ n.log2 + 2
  · have e : g = d := by omega
    subst e
    have h1 := Nat.div_add_mod n (2 ^ g)
    have h2 := Nat.mod_lt n hpg
    have h3 : n / 2 ^ g * 2 ^ g = 2 ^ g * (n / 2 ^ g) := Nat.mul_comm _ _
    constructor
    · intro hs
      subst hs
      simp only [Bool.false_and, Bool.toNat_false, Nat.add_zero, Nat.add_mul, Nat.one_mul]
      omega
    · intro hs
      subst hs
      by_cases hr : n % 2 ^ g = 0
      · simp only [hr, bne_self_eq_false, Bool.and_false, Bool.toNat_false, Nat.add_zero]
        omega
      · have hb : (n % 2 ^ g != 0) = true := by simpa using hr
        simp only [hb, Bool.and_true, Bool.toNat_true, Nat.add_mul, Nat.one_mul]
        omega
  · have e : g = n.log2 + 2 := by omega
    have hlt : n < 2 ^ g := by
      by_cases h0 : n = 0
      · rw [h0]; exact hpg
      · rw [e]
        exact Nat.lt_of_lt_of_le ((Nat.log2_eq_iff h0).1 rfl).2 (Nat.pow_le_pow_right (by decide) (by omega))
    have hgd : 2 ^ g ≤ 2 ^ d := Nat.pow_le_pow_right (by decide) (by omega)
    rw [Nat.div_eq_of_lt hlt, Nat.mod_eq_of_lt hlt]
    constructor
    · intro hs
      subst hs
      simp only [Bool.false_and, Bool.toNat_false, Nat.add_zero, Nat.zero_mul, Nat.zero_add, Nat.one_mul]
      omega
    · intro hs
      subst hs
      by_cases hr : n = 0
      · simp only [hr, bne_self_eq_false, Bool.and_false, Bool.toNat_false, Nat.add_zero, Nat.zero_mul]
        omega
      · have hb : (n != 0) = true := by simpa using hr
        simp only [hb, Bool.and_true, Bool.toNat_true, Nat.zero_add, Nat.one_mul]
        omega
theorem cut_zero_way (s : Bool) (n d : Nat) : Ieee.Toward.zero.cut s n d * 2 ^ d ≤ n ∧ n < (Ieee.Toward.zero.cut s n d + 1) * 2 ^ d := by
  have h := (cut_down false n d).1 rfl
  have e : Ieee.Toward.zero.cut s n d = Ieee.Toward.down.cut false n d := by
    unfold Ieee.Toward.cut
    simp
  rw [e]
  exact h
def oneV : Int := ((2 ^ 1074 : Nat) : Int)
/-- The number that is made whole, downwards. -/
def downW (w : Nat) : Nat := Ieee.double.write ((Ieee.double.read w).integral .down)
def truncW (w : Nat) : Nat := Ieee.double.write ((Ieee.double.read w).integral .zero)
def finW (w : Nat) : Prop := w < 18446744073709551616 ∧ w % 9223372036854775808 < 9218868437227405312
theorem fin_read {w : Nat} (h : finW w) : ∃ s m i, Ieee.double.read w = .number s m i ∧ -1074 ≤ i ∧ m < 9007199254740992 := by
  cases hr : Ieee.double.read w with
  | number s m i => exact ⟨s, m, i, rfl, (read_place hr).1, (read_place hr).2.1⟩
  | infinity s => exfalso; have hn := h.2; unfold Ieee.Format.read at hr; rw [d_sign, d_binade, d_inf] at hr; dsimp only at hr; (split at hr) <;> first | cases hr | (split at hr <;> first | cases hr | omega | (split at hr <;> first | cases hr | omega))
  | nan s t => exfalso; have hn := h.2; unfold Ieee.Format.read at hr; rw [d_sign, d_binade, d_inf] at hr; dsimp only at hr; (split at hr) <;> first | cases hr | (split at hr <;> first | cases hr | omega | (split at hr <;> first | cases hr | omega))
/-- A number made whole by a way: its value is whole, and its word is told. -/
theorem whole_way (way : Ieee.Toward) {w : Nat} {s : Bool} {m : Nat} {i : Int} (hr : Ieee.double.read w = .number s m i) (hi : i < 0) {K : Nat} (hK : way.cut s m (-i).toNat = K) (hb : K < 9007199254740992) :
    ∃ a : Nat, a ≤ 1074 ∧ Ieee.double.read (Ieee.double.write ((Ieee.double.read w).integral way)) = .number s (K <<< a) (-(a : Int)) ∧ Ieee.double.write ((Ieee.double.read w).integral way) = Ieee.double.nearest s K 0 := by
  have e : (Ieee.double.read w).integral way = .number s K 0 := by
    rw [hr]
    unfold Ieee.Datum.integral
    dsimp only
    rw [show i.toNat = 0 from by omega, Nat.shiftLeft_zero, hK]
  rw [e]
  obtain ⟨a, ha, h2⟩ := read_nearest s hb
  exact ⟨a, ha, h2, rfl⟩
theorem whole_big (way : Ieee.Toward) {w : Nat} (h : finW w) {s : Bool} {m : Nat} {i : Int} (hr : Ieee.double.read w = .number s m i) (hi : 0 ≤ i) : Ieee.double.write ((Ieee.double.read w).integral way) = w := by
  have hw := write_read h.1 (Nat.le_of_lt h.2)
  rw [hr] at hw ⊢
  unfold Ieee.Datum.integral
  dsimp only
  rw [show (-i).toNat = 0 from by omega, cut_zero]
  show Ieee.double.nearest s (m <<< i.toNat) 0 = w
  have := nearest_shl Ieee.double s m i.toNat i
  rw [show i - ((i.toNat : Nat) : Int) = 0 from by omega] at this
  rw [this]
  exact hw
theorem fV_shl (s : Bool) (K a : Nat) (ha : a ≤ 1074) : fV (.number s (K <<< a) (-(a : Int))) = Ieee.signed s K 1074 := by
  unfold fV Ieee.signed
  dsimp only
  rw [← Nat.shiftLeft_add, show a + (-(a : Int) + 1074).toNat = 1074 from by omega]
theorem fin_of {w : Nat} (hw : w < 18446744073709551616) {s : Bool} {m : Nat} {i : Int} (hr : Ieee.double.read w = .number s m i) : finW w := by
  refine ⟨hw, ?_⟩
  unfold Ieee.Format.read at hr
  rw [d_sign, d_binade, d_inf] at hr
  dsimp only at hr
  split at hr
  · omega
  · split at hr
    · assumption
    · split at hr <;> cases hr
theorem nearest_64 (s : Bool) (m : Nat) (p : Int) : Ieee.double.nearest s m p < 18446744073709551616 := by
  have := Ieee.double.nearest_lt s m p
  have e : Ieee.double.width = 64 := by decide
  rw [e] at this
  simpa using this
theorem cut_whole (s : Bool) (K a : Nat) : Ieee.Toward.down.cut s (K <<< a) a = K := by
  have h := cut_down s (K <<< a) a
  generalize Ieee.Toward.down.cut s (K <<< a) a = L at *
  rw [Nat.shiftLeft_eq] at h
  have hp := Nat.two_pow_pos a
  cases s with
  | false =>
    obtain ⟨h1, h2⟩ := h.1 rfl
    have a1 := Nat.le_of_mul_le_mul_right h1 hp
    have a2 := Nat.lt_of_mul_lt_mul_right h2
    omega
  | true =>
    obtain ⟨h1, h2⟩ := h.2 rfl
    have a1 := Nat.le_of_mul_le_mul_right h1 hp
    have e : K * 2 ^ a + 2 ^ a = (K + 1) * 2 ^ a := by rw [Nat.add_mul, Nat.one_mul]
    rw [e] at h2
    have a2 := Nat.lt_of_mul_lt_mul_right h2
    omega
theorem cut_bound (s : Bool) {m d : Nat} (hm : m < 9007199254740992) (hd : 0 < d) : Ieee.Toward.down.cut s m d < 9007199254740992 := by
  have h := cut_down s m d
  generalize Ieee.Toward.down.cut s m d = K at *
  have hp : 2 ≤ 2 ^ d := by
    have := Nat.pow_le_pow_right (n := 2) (by decide) hd
    simpa using this
  cases s with
  | false =>
    have h1 := (h.1 rfl).1
    have : K * 2 ≤ K * 2 ^ d := Nat.mul_le_mul_left _ hp
    omega
  | true =>
    have h2 := (h.2 rfl).2
    by_cases hK : K = 0
    · omega
    · obtain ⟨k, rfl⟩ : ∃ k, K = k + 1 := ⟨K - 1, by omega⟩
      rw [Nat.add_mul, Nat.one_mul] at h2
      have : k * 2 ≤ k * 2 ^ d := Nat.mul_le_mul_left _ hp
      omega
theorem signed_nat (s : Bool) (m u : Nat) : Ieee.signed s m u = if s then -((m * 2 ^ u : Nat) : Int) else ((m * 2 ^ u : Nat) : Int) := by
  unfold Ieee.signed
  rw [Nat.shiftLeft_eq]
theorem cast_pos (n : Nat) : (0 : Int) < ((2 ^ n : Nat) : Int) := Int.natCast_pos.2 (Nat.two_pow_pos n)
theorem oneV_pos : 0 < oneV := cast_pos 1074
structure Down (w : Nat) : Prop where
  spec : ∃ (s : Bool) (m n : Nat) (i j : Int), Ieee.double.read w = .number s m i ∧ -1074 ≤ i ∧ Ieee.double.read (downW w) = .number s n j ∧ -1074 ≤ j
  lo : fV (Ieee.double.read (downW w)) ≤ fV (Ieee.double.read w)
  hi : fV (Ieee.double.read w) < fV (Ieee.double.read (downW w)) + oneV
  whole : ∃ k : Int, fV (Ieee.double.read (downW w)) = k * oneV
  same : downW (downW w) = downW w
  fin : finW (downW w)
theorem down_law {w : Nat} (h : finW w) : Down w := by
  obtain ⟨s, m, i, hr, hi, hm⟩ := fin_read h
  by_cases h0 : 0 ≤ i
  · have e : downW w = w := whole_big .down h hr h0
    refine ⟨⟨s, m, m, i, i, hr, hi, by rw [e]; exact hr, hi⟩, by rw [e]; exact Int.le_refl _, by rw [e]; exact Int.lt_add_of_pos_right _ oneV_pos, ?_, by rw [e, e], by rw [e]; exact h⟩
    rw [e, hr]
    refine ⟨Ieee.signed s m i.toNat, ?_⟩
    unfold fV oneV
    dsimp only
    rw [show (i + 1074).toNat = i.toNat + 1074 from by omega]
    exact signed_up s m i.toNat 1074
  · obtain ⟨d, hd⟩ : ∃ d, (-i).toNat = d := ⟨_, rfl⟩
    have hi0 : i < 0 := by omega
    have hb := cut_bound s hm (show 0 < d by omega)
    obtain ⟨K, hK⟩ : ∃ K, Ieee.Toward.down.cut s m d = K := ⟨_, rfl⟩
    rw [hK] at hb
    obtain ⟨a, ha, hf, hn⟩ := whole_way .down hr hi0 (K := K) (by rw [hd, hK]) hb
    change Ieee.double.read (downW w) = _ at hf
    change downW w = _ at hn
    have hfin : finW (downW w) := fin_of (by rw [hn]; exact nearest_64 _ _ _) hf
    have hVf : fV (Ieee.double.read (downW w)) = Ieee.signed s K 1074 := by rw [hf, fV_shl s K a ha]
    have hVx : fV (Ieee.double.read w) = Ieee.signed s m (1074 - d) := by rw [hr]; unfold fV; dsimp only; congr 1; omega
    have hc := cut_down s m d
    rw [hK] at hc
    obtain ⟨U, hU⟩ : ∃ U : Nat, 2 ^ (1074 - d) = U := ⟨_, rfl⟩
    have hUp : 0 < U := by rw [← hU]; exact Nat.two_pow_pos _
    have h1074 : (2 : Nat) ^ 1074 = 2 ^ d * U := by rw [← hU, ← Nat.pow_add]; congr 1; omega
    have hsame : downW (downW w) = downW w := by
      by_cases ha0 : a = 0
      · subst ha0
        exact whole_big .down hfin hf (by simp)
      · have hi2 : (-(a : Int)) < 0 := by omega
        have hc2 : Ieee.Toward.down.cut s (K <<< a) (-(-(a : Int))).toNat = K := by
          rw [show (-(-(a : Int))).toNat = a from by omega]; exact cut_whole s K a
        obtain ⟨a2, _, _, hn2⟩ := whole_way .down hf hi2 hc2 hb
        show Ieee.double.write ((Ieee.double.read (downW w)).integral .down) = _
        rw [hn2, ← hn]
    refine ⟨⟨s, m, K <<< a, i, -(a : Int), hr, hi, hf, by omega⟩, ?_, ?_, ⟨Ieee.signed s K 0, ?_⟩, hsame, hfin⟩
    · rw [hVf, hVx, signed_nat, signed_nat, h1074, hU, ← Nat.mul_assoc]
      cases s with
      | false =>
        have := Nat.mul_le_mul_right U (hc.1 rfl).1
        simp only [Bool.false_eq_true, if_false]
        omega
      | true =>
        have := Nat.mul_le_mul_right U (hc.2 rfl).1
        simp only [if_true]
        omega
    · rw [hVf, hVx, signed_nat, signed_nat, oneV, h1074, hU, ← Nat.mul_assoc]
      cases s with
      | false =>
        have := Nat.mul_lt_mul_of_pos_right (hc.1 rfl).2 hUp
        rw [Nat.add_mul, Nat.add_mul, Nat.one_mul] at this
        simp only [Bool.false_eq_true, if_false]
        omega
      | true =>
        have := Nat.mul_lt_mul_of_pos_right (hc.2 rfl).2 hUp
        rw [Nat.add_mul] at this
        simp only [if_true]
        omega
    · rw [hVf]; exact signed_up s K 0 1074
theorem signed_zero (s : Bool) (K : Nat) : Ieee.signed s K 1074 = Ieee.signed s K 0 * oneV := signed_up s K 0 1074
theorem trunc_law {w : Nat} (h : finW w) : (∃ (t : Bool) (n : Nat) (j : Int), Ieee.double.read (truncW w) = .number t n j ∧ -1074 ≤ j) ∧ (fV (Ieee.double.read (truncW w)) = fV (Ieee.double.read w) ↔ ∃ k : Int, fV (Ieee.double.read w) = k * oneV) := by
  obtain ⟨s, m, i, hr, hi, hm⟩ := fin_read h
  by_cases h0 : 0 ≤ i
  · have e : truncW w = w := whole_big .zero h hr h0
    rw [e]
    refine ⟨⟨s, m, i, hr, hi⟩, fun _ => ⟨Ieee.signed s m i.toNat, ?_⟩, fun _ => rfl⟩
    rw [hr]
    unfold fV oneV
    dsimp only
    rw [show (i + 1074).toNat = i.toNat + 1074 from by omega]
    exact signed_up s m i.toNat 1074
  · obtain ⟨d, hd⟩ : ∃ d, (-i).toNat = d := ⟨_, rfl⟩
    obtain ⟨K, hK⟩ : ∃ K, Ieee.Toward.zero.cut s m d = K := ⟨_, rfl⟩
    have hc := cut_zero_way s m d
    rw [hK] at hc
    have hp := Nat.two_pow_pos d
    have hb : K < 9007199254740992 := by
      have : K * 1 ≤ K * 2 ^ d := Nat.mul_le_mul_left _ hp
      omega
    obtain ⟨a, ha, hf, hn⟩ := whole_way .zero hr (by omega) (K := K) (by rw [hd, hK]) hb
    change Ieee.double.read (truncW w) = _ at hf
    have hVf : fV (Ieee.double.read (truncW w)) = Ieee.signed s K 1074 := by rw [hf, fV_shl s K a ha]
    have hVx : fV (Ieee.double.read w) = Ieee.signed s m (1074 - d) := by rw [hr]; unfold fV; dsimp only; congr 1; omega
    obtain ⟨U, hU⟩ : ∃ U : Nat, 2 ^ (1074 - d) = U := ⟨_, rfl⟩
    have hUp : 0 < U := by rw [← hU]; exact Nat.two_pow_pos _
    have h1074 : (2 : Nat) ^ 1074 = 2 ^ d * U := by rw [← hU, ← Nat.pow_add]; congr 1; omega
    refine ⟨⟨s, K <<< a, -(a : Int), hf, by omega⟩, fun he => ⟨Ieee.signed s K 0, ?_⟩, fun ⟨k, hk⟩ => ?_⟩
    · rw [← he, hVf]; exact signed_zero s K
    · have habs : m * U = k.natAbs * (2 ^ d * U) := by
        have := congrArg Int.natAbs hk
        rw [hVx, Int.natAbs_mul, signed_nat, hU, oneV, h1074] at this
        rw [Int.natAbs_natCast] at this
        cases s with
        | false => rw [if_neg (by decide), Int.natAbs_natCast] at this; exact this
        | true => rw [if_pos rfl, Int.natAbs_neg, Int.natAbs_natCast] at this; exact this
      have hm2 : m = k.natAbs * 2 ^ d := by
        rw [← Nat.mul_assoc] at habs
        exact Nat.eq_of_mul_eq_mul_right hUp habs
      have hKk : K = k.natAbs := by
        obtain ⟨c1, c2⟩ := hc
        rw [hm2] at c1 c2
        have a1 := Nat.le_of_mul_le_mul_right c1 hp
        have a2 := Nat.lt_of_mul_lt_mul_right c2
        omega
      rw [hVf, hVx, signed_nat, signed_nat, hU, h1074, hm2, hKk, Nat.mul_assoc]
theorem pow_le2 {a b : Nat} (h : a ≤ b) : (2 : Nat) ^ a ≤ 2 ^ b := Nat.pow_le_pow_right (by decide) h
theorem small_read {r : Nat} (h : r ≤ oneF) : ∃ n j, Ieee.double.read r = .number false n j ∧ -1074 ≤ j ∧ fV (Ieee.double.read r) ≤ oneV := by
  have hf : finW r := by unfold oneF at h; exact ⟨by omega, by omega⟩
  obtain ⟨s, m, i, hr, hi, hm⟩ := fin_read hf
  have hs := (read_place hr).2.2
  have hs0 : s = false := by rw [hs]; unfold oneF at h; rw [show r / 9223372036854775808 % 2 = 0 from by omega]; rfl
  subst hs0
  refine ⟨m, i, hr, hi, ?_⟩
  obtain ⟨E, hE⟩ : ∃ E : Nat, E = 1074 := ⟨_, rfl⟩
  have hval : m * 2 ^ (i + 1074).toNat ≤ 2 ^ E := by
    unfold Ieee.Format.read at hr
    rw [d_sign, d_binade, d_inf, d_least] at hr
    dsimp only at hr
    unfold oneF at h
    have hmod : r % 9223372036854775808 = r := by omega
    rw [hmod] at hr
    split at hr
    · injection hr with e1 e2 e3
      subst e2 e3
      have h52 : (2 : Nat) ^ 52 = 4503599627370496 := by decide
      have h2 : r * 2 ^ 0 ≤ 2 ^ 52 := by rw [Nat.pow_zero, Nat.mul_one]; omega
      rw [show (-1074 + 1074 : Int).toNat = 0 from rfl]
      exact Nat.le_trans h2 (pow_le2 (show 52 ≤ E by omega))
    · split at hr
      · injection hr with e1 e2 e3
        subst e2 e3
        obtain ⟨q, hq⟩ : ∃ q, r / 4503599627370496 = q := ⟨_, rfl⟩
        rw [hq, show (-1074 + ((q - 1 : Nat) : Int) + 1074).toNat = q - 1 from by omega]
        by_cases hlt : q ≤ 1022
        · have h53 : (2 : Nat) ^ 53 = 9007199254740992 := by decide
          have h2 : (4503599627370496 + r % 4503599627370496) * 2 ^ (q - 1) ≤ 2 ^ 53 * 2 ^ (q - 1) := Nat.mul_le_mul_right _ (by omega)
          refine Nat.le_trans h2 ?_
          rw [← Nat.pow_add]
          exact pow_le2 (by omega)
        · have hr2 : r = 4607182418800017408 := by omega
          have hq2 : q = 1023 := by omega
          rw [hr2]
          have h2 : 4503599627370496 + 4607182418800017408 % 4503599627370496 = 2 ^ 52 := by decide
          rw [h2, ← Nat.pow_add]
          exact pow_le2 (by omega)
      · split at hr <;> cases hr
  rw [hr]
  unfold fV oneV
  dsimp only
  rw [signed_nat, if_neg (by decide)]
  rw [hE] at hval
  exact Int.ofNat_le.2 hval
set_option maxRecDepth 100000 in
theorem nearest_small {T : Nat} {b : Int} (hb : -1074 ≤ b) (h : T * 2 ^ (b + 1074).toNat < 2 ^ 1074) : Ieee.double.nearest false T b ≤ oneF := by
  unfold Ieee.Format.nearest
  by_cases h0 : T = 0
  · rw [if_pos h0]; unfold Ieee.Format.word; rw [if_neg (by decide)]; exact Nat.zero_le _
  · rw [if_neg h0, d_least, d_frac, d_binade, d_inf]
    dsimp only
    obtain ⟨l, hl⟩ : ∃ l, T.log2 = l := ⟨_, rfl⟩
    have hT := (Nat.log2_eq_iff h0).1 hl
    rw [hl]
    have hlb : b + (l : Int) < 0 := by
      have h1 : 2 ^ l * 2 ^ (b + 1074).toNat < 2 ^ 1074 := Nat.lt_of_le_of_lt (Nat.mul_le_mul_right _ hT.1) h
      rw [← Nat.pow_add] at h1
      have := (Nat.pow_lt_pow_iff_right (by decide : 1 < 2)).1 h1
      omega
    obtain ⟨L, hL⟩ : ∃ L, max (b + (l : Int) - ((52 : Nat) : Int)) (-1074) = L := ⟨_, rfl⟩
    rw [hL]
    have hkept : Ieee.Toward.even.cut false (T <<< (b - L).toNat) (L - b).toNat ≤ 2 ^ 53 := by
      apply kept_le
      rw [Nat.shiftLeft_eq]
      have h1 : T * 2 ^ (b - L).toNat < 2 ^ (l + 1) * 2 ^ (b - L).toNat := Nat.mul_lt_mul_of_pos_right hT.2 (Nat.two_pow_pos _)
      refine Nat.lt_of_lt_of_le h1 ?_
      rw [← Nat.pow_add]
      exact pow_le2 (by omega)
    have e53 : (2 : Nat) ^ 53 = 9007199254740992 := by decide
    rw [e53] at hkept
    unfold Ieee.Format.word oneF
    rw [if_neg (by decide)]
    have : (L - -1074).toNat ≤ 1021 := by omega
    clear h hT
    have h3 : (L - -1074).toNat * 4503599627370496 ≤ 1021 * 4503599627370496 := Nat.mul_le_mul_right _ this
    have e1021 : 1021 * 4503599627370496 = 4598175219545276416 := by decide
    rw [e1021] at h3
    refine Nat.le_trans (Nat.min_le_left _ _) ?_
    exact Nat.le_trans (Nat.add_le_add h3 hkept) (by decide)
theorem sub_law {w : Nat} (h : finW w) : ∃ r, Ieee.double.sub w (downW w) = some r ∧ r ≤ oneF := by
  have hd := down_law h
  obtain ⟨s, m, n, i, j, hr, hi, hf, hj⟩ := hd.spec
  have hlo := hd.lo
  have hhi := hd.hi
  rw [hr, hf] at hlo hhi
  unfold Ieee.Format.sub
  rw [hr, hf]
  unfold Ieee.Datum.opposite Ieee.Datum.sum
  dsimp only
  obtain ⟨b, hb⟩ : ∃ b, min i j = b := ⟨_, rfl⟩
  rw [hb]
  have e1 : (i + 1074).toNat = (i - b).toNat + (b + 1074).toNat := by omega
  have e2 : (j + 1074).toNat = (j - b).toNat + (b + 1074).toNat := by omega
  have hneg : Ieee.signed (!s) n (j - b).toNat = - Ieee.signed s n (j - b).toNat := by
    rw [signed_nat, signed_nat]
    cases s <;> simp
  unfold fV at hlo hhi
  dsimp only at hlo hhi
  rw [e1, e2, signed_up, signed_up] at hlo hhi
  rw [hneg]
  generalize Ieee.signed s m (i - b).toNat = x at *
  generalize Ieee.signed s n (j - b).toNat = y at *
  obtain ⟨c, hc⟩ : ∃ c : Nat, 2 ^ (b + 1074).toNat = c := ⟨_, rfl⟩
  have hcp : (0 : Int) < (c : Int) := by rw [← hc]; exact cast_pos _
  rw [hc] at hlo hhi
  have hge : y ≤ x := Int.le_of_mul_le_mul_right hlo hcp
  obtain ⟨T, hT⟩ : ∃ T : Nat, x + -y = T := ⟨(x + -y).toNat, by omega⟩
  rw [hT]
  have hsg : (if ((T : Int) = 0) then (s && !s) else decide ((T : Int) < 0)) = false := by
    split
    · cases s <;> rfl
    · exact decide_eq_false (by omega)
  rw [hsg, Int.natAbs_natCast]
  refine ⟨_, rfl, nearest_small (by omega) ?_⟩
  rw [hc]
  have hx : x = y + T := by omega
  rw [hx, Int.add_mul] at hhi
  have h4 : (T : Int) * (c : Int) < oneV := by omega
  unfold oneV at h4
  rw [← Int.natCast_mul] at h4
  exact Int.ofNat_lt.1 h4
theorem order_fin {x y : Nat} {s t : Bool} {m n : Nat} {i j : Int} (hx : Ieee.double.read x = .number s m i) (hi : -1074 ≤ i) (hy : Ieee.double.read y = .number t n j) (hj : -1074 ≤ j) : Ieee.double.order x y = some (compare (fV (Ieee.double.read x)) (fV (Ieee.double.read y))) := by
  unfold Ieee.Format.order
  rw [hx, hy, order_V hi hj]
theorem cmp_eq {a b : Int} : compare a b = .eq ↔ a = b := by
  simp only [compare, compareOfLessAndEq]
  by_cases h : a < b
  · rw [if_pos h]; simp; omega
  · rw [if_neg h]
    by_cases h2 : a = b
    · simp [h2]
    · simp [h2]
theorem cmp_gt {a b : Int} : compare a b = .gt ↔ b < a := by
  simp only [compare, compareOfLessAndEq]
  by_cases h : a < b
  · rw [if_pos h]; simp; omega
  · rw [if_neg h]
    by_cases h2 : a = b
    · simp [h2]
    · simp [h2]; omega
theorem pow_two_eq {a b c : Nat} (h : a + b = c) : (2 : Nat) ^ a * 2 ^ b = 2 ^ c := by rw [← Nat.pow_add, h]
theorem one_any {E F : Nat} (h : 52 + E = F) : Ieee.signed false 4503599627370496 E = ((2 ^ F : Nat) : Int) := by
  rw [signed_nat, if_neg (by decide), show (4503599627370496 : Nat) = 2 ^ 52 from by decide, pow_two_eq h]
theorem one_signed : fV (.number false 4503599627370496 (-52)) = oneV := one_any (E := (-52 + 1074 : Int).toNat) (F := 1074) (by decide)
/-- What is said of a floor. -/
theorem floor_signs {w : Nat} (h : finW w) : Ieee.double.order (downW w) w ≠ some .gt ∧ (∃ r, Ieee.double.sub w (downW w) = some r ∧ Ieee.double.order r oneF ≠ some .gt ∧ Ieee.double.order r oneF ≠ none) ∧
    (Ieee.double.order w (downW w) = some .eq ↔ Ieee.double.order (truncW w) w = some .eq) ∧ Ieee.double.order (truncW (downW w)) (downW w) = some .eq ∧ downW (downW w) = downW w := by
  have hd := down_law h
  obtain ⟨s, m, n, i, j, hr, hi, hf, hj⟩ := hd.spec
  obtain ⟨k, hk⟩ := hd.whole
  obtain ⟨⟨t, n2, j2, ht, hj2⟩, hT⟩ := trunc_law h
  obtain ⟨⟨t3, n3, j3, ht3, hj3⟩, hT3⟩ := trunc_law hd.fin
  obtain ⟨r, hr1, hr2⟩ := sub_law h
  obtain ⟨n4, j4, hr4, hj4, hv4⟩ := small_read hr2
  have hlo := hd.lo
  have hhi := hd.hi
  refine ⟨?_, ⟨r, hr1, ?_, ?_⟩, ?_, ?_, hd.same⟩
  · rw [order_fin hf hj hr hi]
    intro e
    injection e with e
    rw [cmp_gt] at e
    omega
  · rw [order_fin hr4 hj4 read_one (by omega)]
    intro e
    injection e with e
    rw [cmp_gt] at e
    have h1 : fV (Ieee.double.read oneF) = oneV := by
      rw [read_one]
      exact one_signed
    rw [h1] at e
    omega
  · rw [order_fin hr4 hj4 read_one (by omega)]
    exact fun e => by cases e
  · rw [order_fin hr hi hf hj, order_fin ht hj2 hr hi]
    rw [Option.some_inj, Option.some_inj, cmp_eq, cmp_eq, hT]
    constructor
    · intro e; exact ⟨k, by rw [e, hk]⟩
    · rintro ⟨k2, hk2⟩
      rw [hk2, hk] at hlo hhi ⊢
      have h1 : k ≤ k2 := Int.le_of_mul_le_mul_right hlo oneV_pos
      have e2 : k * oneV + oneV = (k + 1) * oneV := by rw [Int.add_mul, Int.one_mul]
      rw [e2] at hhi
      have h2 : k2 < k + 1 := Int.lt_of_mul_lt_mul_right hhi (Int.le_of_lt oneV_pos)
      have : k2 = k := by omega
      rw [this]
  · rw [order_fin ht3 hj3 hf hj, Option.some_inj, cmp_eq, hT3]
    exact ⟨k, hk⟩
theorem sub_self {w : Nat} (h : finW w) : Ieee.double.sub w w = some 0 := by
  obtain ⟨s, m, i, hr, hi, _⟩ := fin_read h
  unfold Ieee.Format.sub
  rw [hr]
  unfold Ieee.Datum.opposite Ieee.Datum.sum
  dsimp only
  have hneg : Ieee.signed (!s) m (i - min i i).toNat = - Ieee.signed s m (i - min i i).toNat := by
    rw [signed_nat, signed_nat]
    cases s <;> simp
  rw [hneg, Int.add_right_neg, if_pos rfl]
  have e : (s && !s) = false := by cases s <;> rfl
  rw [e]
  show some (Ieee.double.nearest false (Int.natAbs 0) _) = _
  unfold Ieee.Format.nearest Ieee.Format.word
  rw [show Int.natAbs 0 = 0 from rfl, if_pos rfl, if_neg (by decide)]
theorem word_mod (neg : Bool) {r : Nat} (h : r < 9223372036854775808) : Ieee.double.word neg r % 9223372036854775808 = r := by
  unfold Ieee.Format.word
  rw [d_sign]
  split <;> omega
theorem nearest_num (s : Bool) (m : Nat) (p : Int) : Ieee.double.nearest s m p % 9223372036854775808 ≤ 9218868437227405312 := by
  unfold Ieee.Format.nearest
  split
  · rw [word_mod s (by decide)]; exact Nat.zero_le _
  · rw [d_least, d_frac, d_binade, d_inf]
    dsimp only
    have h : ∀ a : Nat, min a 9218868437227405312 ≤ 9218868437227405312 := fun a => Nat.min_le_right _ _
    rw [word_mod s (Nat.lt_of_le_of_lt (h _) (by decide))]
    exact h _
def Numb : Ieee.Datum → Prop
  | .nan .. => False
  | _ => True
theorem write_num {d : Ieee.Datum} (h : Numb d) : Ieee.double.write d % 9223372036854775808 ≤ 9218868437227405312 := by
  cases d with
  | number s m p => exact nearest_num s m p
  | infinity s =>
    show Ieee.double.word s Ieee.double.infRung % _ ≤ _
    rw [d_inf, word_mod s (by decide)]
    exact Nat.le_refl _
  | nan s t => exact h.elim
theorem sum_num {d e r : Ieee.Datum} (h : d.sum e = some r) : Numb r := by
  cases d <;> cases e <;> simp only [Ieee.Datum.sum] at h <;> first | cases h; done | (injection h with h; subst h; exact trivial) | (split at h <;> first | cases h; done | (injection h with h; subst h; exact trivial))
theorem prod_num {d e r : Ieee.Datum} (h : d.product e = some r) : Numb r := by
  cases d <;> cases e <;> simp only [Ieee.Datum.product] at h <;> first | cases h; done | (injection h with h; subst h; exact trivial) | (split at h <;> first | cases h; done | (injection h with h; subst h; exact trivial))
theorem quot_num {k : Nat} {d e r : Ieee.Datum} (h : d.quotient k e = some r) : Numb r := by
  cases d <;> cases e <;> simp only [Ieee.Datum.quotient] at h <;> first | cases h; done | (injection h with h; subst h; exact trivial) | (split at h <;> first | cases h; done | (injection h with h; subst h; exact trivial) | (split at h <;> first | cases h; done | (injection h with h; subst h; exact trivial)))
/-- What is dropped is at most half a unit. -/
theorem cut_err (neg : Bool) (n d : Nat) : 2 * n ≤ 2 * (Ieee.Toward.even.cut neg n d * 2 ^ d) + 2 ^ d ∧ 2 * (Ieee.Toward.even.cut neg n d * 2 ^ d) ≤ 2 * n + 2 ^ d := by
  unfold Ieee.Toward.cut
  dsimp only
  obtain ⟨g, hg⟩ : ∃ g, min d (n.log2 + 2) = g := ⟨_, rfl⟩
  rw [hg, Nat.one_shiftLeft]
  have hpg := Nat.two_pow_pos g
  by_cases hc : d ≤ n.log2 + 2
  · have e : g = d := by omega
    subst e
    have h1 := Nat.div_add_mod n (2 ^ g)
    have h2 := Nat.mod_lt n hpg
    have h3 : n / 2 ^ g * 2 ^ g = 2 ^ g * (n / 2 ^ g) := Nat.mul_comm _ _
    by_cases hb : (decide (2 ^ g < 2 * (n % 2 ^ g)) || (2 ^ g == 2 * (n % 2 ^ g)) && (n / 2 ^ g % 2 == 1)) = true
    · rw [hb]
      have h4 : 2 ^ g ≤ 2 * (n % 2 ^ g) := by
        rw [Bool.or_eq_true, decide_eq_true_eq, Bool.and_eq_true, beq_iff_eq] at hb
        omega
      simp only [Bool.toNat_true, Nat.add_mul, Nat.one_mul]
      omega
    · have hb2 : (decide (2 ^ g < 2 * (n % 2 ^ g)) || (2 ^ g == 2 * (n % 2 ^ g)) && (n / 2 ^ g % 2 == 1)) = false := by simpa using hb
      rw [hb2]
      have h4 : 2 * (n % 2 ^ g) ≤ 2 ^ g := by
        rw [Bool.or_eq_false_iff, decide_eq_false_iff_not] at hb2
        omega
      simp only [Bool.toNat_false, Nat.add_zero]
      omega
  · have e : g = n.log2 + 2 := by omega
    have hlt : 2 * n < 2 ^ g := by
      by_cases h0 : n = 0
      · rw [h0]; exact hpg
      · rw [e, Nat.pow_succ]
        have := ((Nat.log2_eq_iff h0).1 rfl).2
        omega
    have hgd : 2 ^ g ≤ 2 ^ d := Nat.pow_le_pow_right (by decide) (by omega)
    have hz : n % 2 ^ g = n := Nat.mod_eq_of_lt (by omega)
    have hd : n / 2 ^ g = 0 := Nat.div_eq_of_lt (by omega)
    rw [hz, hd]
    have hb2 : (decide (2 ^ g < 2 * n) || (2 ^ g == 2 * n) && (0 % 2 == 1)) = false := by
      rw [Bool.or_eq_false_iff, decide_eq_false_iff_not]
      exact ⟨by omega, by simp⟩
    rw [hb2]
    simp only [Bool.toNat_false, Nat.add_zero, Nat.zero_mul]
    omega
end Go.Proofs.YtbnpleihhbpnlaaDoor
