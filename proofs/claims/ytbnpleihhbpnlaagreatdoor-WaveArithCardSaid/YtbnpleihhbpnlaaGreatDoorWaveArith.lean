/- WaveArith: sums, products, comparisons, floors of any two floats are what the document says. -/
import Derived.Test.YtbnpleihhbpnlaaGreatDoorWavX
import Derived.Test.YtbnpleihhbpnlaaGreatDoorWavW
namespace Go.Proofs.YtbnpleihhbpnlaaGreatDoor
open Go.RowKit

set_option maxRecDepth 100000 in
set_option maxHeartbeats 4000000 in
theorem waveArith_any (op a b : Int) (w : World) (hF : FloatMem w) (_ : -9223372036854775808 ≤ op ∧ op < 9223372036854775808) (ha : 0 ≤ a ∧ a < 18446744073709551616) (_ : 0 ≤ b ∧ b < 18446744073709551616) :
    Calls Tryz.prog 3 #[.int .i64 op, .int .u64 a, .int .u64 b] w fun e w' => e = .returned (.bool true) ∧ Below w.heap.size w w' := by
  have H1 := fun W => Lib.hid (arith_any op a b W)
  have H2 := fun W => Lib.hid (rarith_any op a b W)
  have H3 := fun W => Lib.hid (compare_any op a b W)
  have H4 := fun W => Lib.hid (rcompare_any op a b W)
  have H5 := fun W => Lib.hid (floor_any a W)
  have H6 := fun W => Lib.hid (rfloor_any a W)
  have H7 := fun W => Lib.hid (abs_any a ha.1 ha.2 W)
  have H8 := fun W => Lib.hid (rabs_any a ha.1 ha.2 W)
  have H9 := fun W => Lib.hid (normal_any a W)
  have H10 := fun W => Lib.hid (f21_any a W)
  have H11 := fun W => Lib.hid (b21_any a.toNat W)
  have HA := fun d => Lib.hid (awake_any (w.drewN d) (hF.drewN d))
  unfold ArithR at H1 H2
  unfold CompareR at H3 H4
  clear hF ha
  generalize arithV op a.toNat b.toNat = v1 at *
  generalize arithOk op = v2 at *
  generalize compareV op a.toNat b.toNat = v3 at *
  generalize compareOk op = v4 at *
  generalize wholeF .down a.toNat = v5 at *
  generalize toN (absW a.toNat) = v6 at *
  go_enter Tryz.func3, Tryz.ntmps3
  go_wp2_with (first
    | (go_at_call 6; refine ((H1 _).out).mono ?_; rintro e w' ⟨rfl, d1, rfl⟩)
    | (go_at_call 7; refine ((H2 _).out).mono ?_; rintro e w' ⟨rfl, d2, rfl⟩)
    | (go_at_call 8; refine ((H3 _).out).mono ?_; rintro e w' ⟨rfl, rfl⟩)
    | (go_at_call 9; refine ((H4 _).out).mono ?_; rintro e w' ⟨rfl, rfl⟩)
    | (go_at_call 10; refine ((H5 _).out).mono ?_; rintro e w' ⟨rfl, d3, rfl⟩)
    | (go_at_call 11; refine ((H6 _).out).mono ?_; rintro e w' ⟨rfl, d4, rfl⟩)
    | (go_at_call 12; refine ((H7 _).out).mono ?_; rintro e w' ⟨rfl, rfl⟩)
    | (go_at_call 13; refine ((H8 _).out).mono ?_; rintro e w' ⟨rfl, rfl⟩)
    | (go_at_call 14; refine ((H9 _).out).mono ?_; rintro e w' ⟨rfl, rfl⟩)
    | (go_at_call 16; refine ((H10 _).out).mono ?_; rintro e w' ⟨rfl, rfl⟩)
    | (go_at_call 15; refine ((H11 _).out).mono ?_; rintro e w' ⟨rfl, rfl⟩)
    | (go_at_call 17; refine ((HA _).out).mono ?_; rintro e w' ⟨rfl, hb⟩))
  go_ret
  exact ⟨rfl, (below_drewN (Below.refl _ _) _).trans hb⟩
end Go.Proofs.YtbnpleihhbpnlaaGreatDoor
