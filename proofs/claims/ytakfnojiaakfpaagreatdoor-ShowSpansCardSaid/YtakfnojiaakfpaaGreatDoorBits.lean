/- Bits of small numbers. Plain lemmas. -/
import Derived.Test.YtakfnojiaakfpaaGreatDoorLexSpec
import Derived.Laws.BitsAllLaws
import Derived.Laws.BitsLemmas
namespace Go.Proofs.YtakfnojiaakfpaaGreatDoor
open Go.RowKit

set_option maxRecDepth 100000 in
theorem and192 : ∀ a, a < 256 → a &&& 192 = a / 64 * 64 := by decide
theorem u8_and63 (c : UInt8) : bits .and .u8 (c.toNat : Int) 63 = ((c.toNat % 64 : Nat) : Int) := by
  have h := c.toNat_lt
  have e := u8_and_nat c.toNat 63 (by omega) (by omega)
  have m : c.toNat &&& 63 = c.toNat % 64 := Nat.and_two_pow_sub_one_eq_mod c.toNat 6
  rw [m] at e
  exact e
theorem u8_and192 (c : UInt8) : bits .and .u8 (c.toNat : Int) 192 = ((c.toNat / 64 * 64 : Nat) : Int) := by
  have h := c.toNat_lt
  have e := u8_and_nat c.toNat 192 (by omega) (by omega)
  rw [and192 _ (by omega)] at e
  exact e
theorem i32_or_nat (a b : Nat) (ha : a < 2147483648) (hb : b < 2147483648) : bits .or .i32 (a : Int) (b : Int) = ((a ||| b : Nat) : Int) := by
  have hx : a ||| b < 2 ^ 31 := Nat.or_lt_two_pow (by omega) (by omega)
  have e1 : (BitVec.ofInt 32 (a : Int)).toNat = a := by rw [BitVec.ofInt_natCast, BitVec.toNat_ofNat]; exact Nat.mod_eq_of_lt (by omega)
  have e2 : (BitVec.ofInt 32 (b : Int)).toNat = b := by rw [BitVec.ofInt_natCast, BitVec.toNat_ofNat]; exact Nat.mod_eq_of_lt (by omega)
  show IntKind.i32.wrap ((BitVec.ofInt 32 (a : Int) ||| BitVec.ofInt 32 (b : Int)).toNat : Int) = _
  rw [BitVec.toNat_or, e1, e2, IntKind.wrap_i32]
  omega
theorem or64 (v x : Nat) (hx : x < 64) : v * 64 ||| x = v * 64 + x := by
  have := Nat.shiftLeft_add_eq_or_of_lt (i := 6) (b := x) (by omega) v
  rw [Nat.shiftLeft_eq] at this
  exact this.symm
/-- 'v<<6 | rune(c&63)' -/
theorem rune_step (v : Nat) (c : UInt8) (hv : v < 16777216) : bits .or .i32 ((v : Int) * 64) (wrap32 (bits .and .u8 (c.toNat : Int) 63)) = ((v * 64 + c.toNat % 64 : Nat) : Int) := by
  rw [u8_and63]
  have h1 : c.toNat % 64 < 64 := Nat.mod_lt _ (by omega)
  rw [show wrap32 ((c.toNat % 64 : Nat) : Int) = ((c.toNat % 64 : Nat) : Int) from by unfold wrap32; omega]
  rw [show (v : Int) * 64 = ((v * 64 : Nat) : Int) from by omega, i32_or_nat _ _ (by omega) (by omega), or64 _ _ h1]
theorem cont_yes {c : UInt8} (h : 128 ≤ c.toNat ∧ c.toNat ≤ 191) : (bits .and .u8 (c.toNat : Int) 192 != 128) = false := by
  rw [u8_and192]
  have : c.toNat / 64 * 64 = 128 := by omega
  rw [this]; rfl
theorem cont_no {c : UInt8} (h : ¬ (128 ≤ c.toNat ∧ c.toNat ≤ 191)) : (bits .and .u8 (c.toNat : Int) 192 != 128) = true := by
  rw [u8_and192, bne_iff_ne]
  omega
end Go.Proofs.YtakfnojiaakfpaaGreatDoor
