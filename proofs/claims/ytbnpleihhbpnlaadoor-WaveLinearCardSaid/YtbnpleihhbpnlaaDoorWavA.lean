/- wave and the document's answer: floats by their bits: both programs. -/
import Derived.Test.YtbnpleihhbpnlaaDoorProg
import Derived.Test.YtbnpleihhbpnlaaDoorFlo
import Derived.Test.YtbnpleihhbpnlaaDoorMem
namespace Go.Proofs.YtbnpleihhbpnlaaDoor
open Go.RowKit

theorem frombits (v : Int) (w : World) : (callFunc 11 #[.int .u64 v]).run Tryd.prog w = .ok (.value (.float .f64 v.toNat)) w := by
  rw [run_callFunc_extern Tryd.func11 (by kernel_rfl) (by kernel_rfl) (by kernel_rfl) (e := Extern.MathFloatBits.float64frombits) (by kernel_rfl)]
  rfl
theorem tobits (x : Nat) (w : World) : (callFunc 8 #[.float .f64 x]).run Tryd.prog w = .ok (.value (.int .u64 x)) w := by
  rw [run_callFunc_extern Tryd.func8 (by kernel_rfl) (by kernel_rfl) (by kernel_rfl) (e := Extern.MathFloatBits.float64bits) (by kernel_rfl)]
  rfl
theorem order_not_self (v : Nat) : (FloatKind.f64.format.order v v != some .eq) = nanN v := f64_order_self v
set_option maxHeartbeats 400000 in
theorem isNaN_any (v : Nat) (w : World) : Calls Tryd.prog 31 #[.float .f64 v] w fun e w' => e = .returned (.bool (nanN v)) ∧ w = w' := by
  have H := Lib.hid (order_not_self v)
  go_enter Tryd.func31, Tryd.ntmps31
  go_wp2
  go_ret
  exact ⟨ret_bool H.out, rfl⟩
theorem toN_pos {x : Nat} (h : nanN x = true) : ((nanW : Nat) : Int) = ((toN x : Nat) : Int) := by unfold toN; rw [if_pos h]
theorem toN_neg {x : Nat} (h : ¬ nanN x = true) : ((x : Nat) : Int) = ((toN x : Nat) : Int) := by unfold toN; rw [if_neg h]
theorem of_any (v : Int) (w : World) : Calls Tryd.prog 26 #[.int .u64 v] w fun e w' => e = .returned (.float .f64 v.toNat) ∧ w = w' := by
  have hfb := frombits
  go_enter Tryd.func26, Tryd.ntmps26
  go_wp2
  go_ret
  exact ⟨rfl, rfl⟩
set_option maxHeartbeats 1000000 in
theorem to_any (x : Nat) (w : World) : Calls Tryd.prog 22 #[.float .f64 x] w fun e w' => e = .returned (.int .u64 (toN x)) ∧ w = w' := by
  have htb := tobits
  have HI := fun W => Lib.hid (isNaN_any x W)
  by_cases hn : nanN x = true
  · have HN := Lib.hid (toN_pos hn)
    rw [hn] at HI
    clear hn
    go_enter Tryd.func22, Tryd.ntmps22
    go_wp2_with (go_at_call 31; refine ((HI _).out).mono ?_; rintro e w' ⟨rfl, rfl⟩)
    go_ret
    exact ⟨ret_int HN.out, rfl⟩
  · have HN := Lib.hid (toN_neg hn)
    rw [show nanN x = false by simpa using hn] at HI
    clear hn
    go_enter Tryd.func22, Tryd.ntmps22
    go_wp2_with (go_at_call 31; refine ((HI _).out).mono ?_; rintro e w' ⟨rfl, rfl⟩)
    go_ret
    exact ⟨ret_int HN.out, rfl⟩
end Go.Proofs.YtbnpleihhbpnlaaDoor
