/- Bits of numbers' bytes. Plain lemmas. -/
import Derived.Test.YtnlheomfobpcmaaGreatCodS
import Derived.Laws.BitsAllLaws
import Derived.Laws.BitsLemmas
namespace Go.Proofs.YtnlheomfobpcmaaGreat
open Go.RowKit

set_option maxRecDepth 100000 in
theorem or128 : ∀ a, a < 256 → a ||| 128 = a % 128 + 128 := by decide
set_option maxRecDepth 100000 in
theorem and127 : ∀ a, a < 256 → a &&& 127 = a % 128 := by decide
/-- 'byte(v)|128' -/
theorem byte_or (v : Nat) : bits .or .u8 (IntKind.u8.wrap (v : Int)) 128 = ((v % 128 + 128 : Nat) : Int) := by
  rw [IntKind.wrap_u8, show (v : Int) % 256 = ((v % 256 : Nat) : Int) from by omega]
  have e := u8_or_nat (v % 256) 128 (by omega) (by omega)
  rw [or128 _ (by omega)] at e
  rw [show ((v % 128 + 128 : Nat) : Int) = ((v % 256 % 128 + 128 : Nat) : Int) from by omega]
  exact e
/-- 'v&127|128' -/
theorem u64_lo7 (v : Nat) (h : v < 18446744073709551616) : bits .and .u64 (v : Int) 127 = ((v % 128 : Nat) : Int) := by
  have e := u64_and_nat v 127 h (by omega)
  rw [show v &&& 127 = v % 128 from Nat.and_two_pow_sub_one_eq_mod v 7] at e
  exact e
theorem u64_lo7_or (v : Nat) (h : v < 18446744073709551616) : bits .or .u64 (bits .and .u64 (v : Int) 127) 128 = ((v % 128 + 128 : Nat) : Int) := by
  rw [u64_lo7 v h]
  have e := u64_or_nat (v % 128) 128 (by omega) (by omega)
  rw [or128 _ (by omega)] at e
  rw [show ((v % 128 + 128 : Nat) : Int) = ((v % 128 % 128 + 128 : Nat) : Int) from by omega]
  exact e
theorem u8_lo7 (c : UInt8) : bits .and .u8 (c.toNat : Int) 127 = ((c.toNat % 128 : Nat) : Int) := by
  have h := c.toNat_lt
  have e := u8_and_nat c.toNat 127 (by omega) (by omega)
  rw [and127 _ (by omega)] at e
  exact e
/-- 'v | x<<i' where v has only bits below i. -/
theorem u64_join (v x i : Nat) (hv : v < 2 ^ i) (h : v + x * 2 ^ i < 18446744073709551616) : bits .or .u64 (v : Int) ((x * 2 ^ i : Nat) : Int) = ((v + x * 2 ^ i : Nat) : Int) := by
  have e := u64_or_nat v (x * 2 ^ i) (by omega) (by omega)
  rw [Nat.or_comm, nat_join i (x * 2 ^ i) v (Nat.mul_mod_left _ _) hv, Nat.add_comm] at e
  exact e
theorem xor_ones (x : Nat) (h : x < 18446744073709551616) : x ^^^ 18446744073709551615 = 18446744073709551615 - x := by
  have e : (BitVec.ofNat 64 x ^^^ BitVec.ofNat 64 18446744073709551615) = ~~~ (BitVec.ofNat 64 x) := by
    rw [show BitVec.ofNat 64 18446744073709551615 = BitVec.allOnes 64 from by decide, BitVec.xor_allOnes]
  have e2 := congrArg BitVec.toNat e
  rw [BitVec.toNat_xor, BitVec.toNat_not, BitVec.toNat_ofNat, BitVec.toNat_ofNat, Nat.mod_eq_of_lt (by omega)] at e2
  simpa using e2
theorem u64_xor_ones (x : Nat) (h : x < 18446744073709551616) : bits .xor .u64 (x : Int) 18446744073709551615 = 18446744073709551615 - (x : Int) := by
  have e := u64_xor_nat x 18446744073709551615 h (by omega)
  rw [xor_ones x h] at e
  rw [show (18446744073709551615 : Int) - (x : Int) = ((18446744073709551615 - x : Nat) : Int) from by omega]
  exact e
theorem u64_xor_zero (x : Nat) (h : x < 18446744073709551616) : bits .xor .u64 (x : Int) 0 = (x : Int) := by
  have e := u64_xor_nat x 0 h (by omega)
  rw [Nat.xor_zero] at e
  exact e
theorem i64_xor_neg (x : Nat) (h : x < 9223372036854775808) : bits .xor .i64 (x : Int) (-1) = -(x : Int) - 1 := by
  have e1 : (BitVec.ofInt 64 (x : Int)).toNat = x := by rw [BitVec.ofInt_natCast, BitVec.toNat_ofNat]; exact Nat.mod_eq_of_lt (by omega)
  have e2 : (BitVec.ofInt 64 (-1)).toNat = 18446744073709551615 := by decide
  show IntKind.i64.wrap ((BitVec.ofInt 64 (x : Int) ^^^ BitVec.ofInt 64 (-1)).toNat : Int) = _
  rw [BitVec.toNat_xor, e1, e2, xor_ones x (by omega), IntKind.wrap_i64]
  omega
theorem i64_xor_zero (x : Nat) (h : x < 9223372036854775808) : bits .xor .i64 (x : Int) 0 = (x : Int) := by
  have e1 : (BitVec.ofInt 64 (x : Int)).toNat = x := by rw [BitVec.ofInt_natCast, BitVec.toNat_ofNat]; exact Nat.mod_eq_of_lt (by omega)
  have e2 : (BitVec.ofInt 64 0).toNat = 0 := by decide
  show IntKind.i64.wrap ((BitVec.ofInt 64 (x : Int) ^^^ BitVec.ofInt 64 0).toNat : Int) = _
  rw [BitVec.toNat_xor, e1, e2, Nat.xor_zero, IntKind.wrap_i64]
  omega
theorem u64_lo1 (v : Nat) (h : v < 18446744073709551616) : bits .and .u64 (v : Int) 1 = ((v % 2 : Nat) : Int) := by
  have e := u64_and_nat v 1 h (by omega)
  rw [nat_mask1] at e
  exact e
/-- 'int64(v>>1) ^ -int64(v&1)' -/
theorem zag_bits (v : Nat) (h : v < 18446744073709551616) : bits .xor .i64 ((v / 2 : Nat) : Int) (-((v % 2 : Nat) : Int)) = zag v := by
  unfold zag
  by_cases hv : v % 2 = 0
  · rw [if_pos hv, hv]; exact i64_xor_zero _ (by omega)
  · rw [if_neg hv, show v % 2 = 1 from by omega]; exact i64_xor_neg _ (by omega)
end Go.Proofs.YtnlheomfobpcmaaGreat
