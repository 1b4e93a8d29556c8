/- A number's lower bits. -/
import Derived.Test.YtakfnojiaakfpaaGreatDoorProg
import Derived.Test.YtakfnojiaakfpaaGreatDoorBits
namespace Go.Proofs.YtakfnojiaakfpaaGreatDoor
open Go.RowKit

def lowI (x : Int) : Int := bits .and .i64 x 9223372036854775807
theorem lowI_nn (x : Int) : 0 ≤ lowI x ∧ lowI x < 9223372036854775808 := by
  have h : (BitVec.ofInt 64 x &&& BitVec.ofInt 64 9223372036854775807).toNat ≤ (BitVec.ofInt 64 9223372036854775807).toNat := by
    rw [BitVec.toNat_and]; exact Nat.and_le_right
  have e : (BitVec.ofInt 64 9223372036854775807).toNat = 9223372036854775807 := by decide +kernel
  rw [e] at h
  have : lowI x = IntKind.i64.wrap ((BitVec.ofInt 64 x &&& BitVec.ofInt 64 9223372036854775807).toNat : Int) := rfl
  rw [this, IntKind.wrap_i64]
  omega
set_option maxHeartbeats 400000 in
theorem low_any (x : Int) (w : World) : Calls Tryz.prog 16 #[.int .i64 x] w fun e w' => e = .returned (.int .i64 (lowI x)) ∧ w = w' := by
  have H : Hid (lowI x = bits .and .i64 x 9223372036854775807) := rfl
  go_enter Tryz.func16, Tryz.ntmps16
  go_wp2
  go_ret
  exact ⟨ret_int H.out.symm, rfl⟩
end Go.Proofs.YtakfnojiaakfpaaGreatDoor
