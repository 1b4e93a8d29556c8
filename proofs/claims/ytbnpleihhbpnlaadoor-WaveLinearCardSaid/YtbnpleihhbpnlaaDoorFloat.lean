/- A float's bits: what is no number. Plain lemmas. -/
import Derived.Test.YtbnpleihhbpnlaaDoorMem
import Derived.Laws.Externs
import Derived.Laws.Cover2
import Derived.Laws.BitsAllLaws
namespace Go.Proofs.YtbnpleihhbpnlaaDoor
open Go.RowKit

/-- Bits of what is no number. -/
def nanN (v : Nat) : Bool := decide (9218868437227405312 < v % 9223372036854775808)
theorem order_self (d : Ieee.Datum) : d.order d = if d.isNaN then none else some .eq := by
  cases d with
  | nan => rfl
  | infinity s => cases s <;> rfl
  | number s m i => simp [Ieee.Datum.order, Ieee.Datum.isNaN]
theorem read_nan (v : Nat) : (Ieee.double.read v).isNaN = nanN v := by
  have h1 : Ieee.double.signWeight = 9223372036854775808 := by decide +kernel
  have h2 : Ieee.double.binade = 4503599627370496 := by decide +kernel
  have h3 : Ieee.double.infRung = 9218868437227405312 := by decide +kernel
  unfold Ieee.Format.read nanN
  simp only [h1, h2, h3]
  generalize v % 9223372036854775808 = r
  by_cases a1 : r < 4503599627370496
  · rw [if_pos a1]; simp only [Ieee.Datum.isNaN]; exact (decide_eq_false (by omega)).symm
  · rw [if_neg a1]
    by_cases a2 : r < 9218868437227405312
    · rw [if_pos a2]; simp only [Ieee.Datum.isNaN]; exact (decide_eq_false (by omega)).symm
    · rw [if_neg a2]
      by_cases a3 : r = 9218868437227405312
      · rw [if_pos a3]; simp only [Ieee.Datum.isNaN]; exact (decide_eq_false (by omega)).symm
      · rw [if_neg a3]; simp only [Ieee.Datum.isNaN]; exact (decide_eq_true (by omega)).symm
theorem f64_order_self (v : Nat) : (FloatKind.f64.format.order v v != some .eq) = nanN v := by
  have : FloatKind.f64.format = Ieee.double := rfl
  rw [this]
  unfold Ieee.Format.order
  rw [order_self, read_nan]
  cases nanN v <;> rfl

theorem u64_and2047 (v : Int) (h0 : 0 ≤ v) (h1 : v < 18446744073709551616) : bits .and .u64 v 2047 = v % 2048 := by
  obtain ⟨n, rfl⟩ := Int.eq_ofNat_of_zero_le h0
  have e := u64_and_nat n 2047 (by omega) (by omega)
  have m : n &&& 2047 = n % 2048 := Nat.and_two_pow_sub_one_eq_mod n 11
  rw [m] at e
  have e' : bits .and .u64 (n : Int) 2047 = ((n % 2048 : Nat) : Int) := e
  rw [e']; omega
/-- The two tests by bits that say that there is no number. -/
theorem nan_tests (v : Int) (h0 : 0 ≤ v) (h1 : v < 18446744073709551616) : nanN v.toNat = (bits .and .u64 (v / 4503599627370496) 2047 == 2047 && IntKind.u64.wrap (v * 4096) != 0) := by
  rw [u64_and2047 _ (by omega) (by omega), IntKind.wrap_u64]
  unfold nanN
  rw [Bool.eq_iff_iff, decide_eq_true_eq, Bool.and_eq_true, beq_iff_eq, bne_iff_ne]
  omega
end Go.Proofs.YtbnpleihhbpnlaaDoor
