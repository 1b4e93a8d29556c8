/- A number's normal bits: both programs. -/
import Derived.Test.YtpoefknaaohmhaaProg
import Derived.Test.YtpoefknaaohmhaaFloat
namespace Go.Proofs.Ytpoefknaaohmhaa
open Go.RowKit

def stale : Int := 9218868437227405314
def nanBits : Int := 9221120237041090560
def normalN (v : Int) : Int := if nanN v.toNat = true ∧ v ≠ stale then nanBits else v

theorem frombits (v : Int) (w : World) : (callFunc 21 #[.int .u64 v]).run Try.prog w = .ok (.value (.float .f64 v.toNat)) w := by
  rw [run_callFunc_extern Try.func21 (by kernel_rfl) (by kernel_rfl) (by kernel_rfl) (e := Extern.MathFloatBits.float64frombits) (by kernel_rfl)]
  rfl

set_option maxHeartbeats 400000 in
theorem isNaN_any (v : Nat) (w : World) : Calls Try.prog 20 #[.float .f64 v] w fun e w' => e = .returned (.bool (nanN v)) ∧ w = w' := by
  have h := f64_order_self v
  have H := Lib.hid h
  clear h
  go_enter Try.func20, Try.ntmps20
  go_wp2
  go_ret
  exact ⟨ret_bool H.out, rfl⟩
set_option maxRecDepth 100000 in
set_option maxHeartbeats 1000000 in
theorem normal_any (v : Int) (w : World) : Calls Try.prog 12 #[.int .u64 v] w fun e w' => e = .returned (.int .u64 (normalN v)) ∧ w = w' := by
  have hfb := frombits
  have HI := fun W => Lib.hid (isNaN_any v.toNat W)
  have HN : Hid (normalN v = if nanN v.toNat = true ∧ v ≠ stale then nanBits else v) := rfl
  generalize nanN v.toNat = b at HI HN
  by_cases hs : v = stale
  · have hst : (v != (9218868437227405314 : Int)) = false := by rw [hs]; rfl
    have HV : Hid (normalN v = v) := by show _ = _; rw [HN.out, if_neg (fun h => h.2 hs)]
    clear hs HI
    go_enter Try.func12, Try.ntmps12
    go_wp2
    go_ret
    exact ⟨ret_int HV.out.symm, rfl⟩
  · have hst : (v != (9218868437227405314 : Int)) = true := by rw [bne_iff_ne]; exact hs
    cases b with
    | true =>
      have HV : Hid (normalN v = nanBits) := by show _ = _; rw [HN.out, if_pos ⟨rfl, hs⟩]
      clear hs
      go_enter Try.func12, Try.ntmps12
      go_wp2_with (go_at_call 20; refine ((HI _).out).mono ?_; rintro e w' ⟨rfl, rfl⟩)
      go_ret
      exact ⟨ret_int HV.out.symm, rfl⟩
    | false =>
      have HV : Hid (normalN v = v) := by show _ = _; rw [HN.out, if_neg (fun h => by simp at h)]
      clear hs
      go_enter Try.func12, Try.ntmps12
      go_wp2_with (go_at_call 20; refine ((HI _).out).mono ?_; rintro e w' ⟨rfl, rfl⟩)
      go_ret
      exact ⟨ret_int HV.out.symm, rfl⟩

set_option maxRecDepth 100000 in
set_option maxHeartbeats 1000000 in
theorem normal15_any (v : Int) (w : World) (h0 : 0 ≤ v) (h1 : v < 18446744073709551616) : Calls Try.prog 13 #[.int .u64 v] w fun e w' => e = .returned (.int .u64 (normalN v)) ∧ w = w' := by
  have HT := Lib.hid (nan_tests v h0 h1)
  have HN : Hid (normalN v = if nanN v.toNat = true ∧ v ≠ stale then nanBits else v) := rfl
  cases e1 : (bits .and .u64 (v / 4503599627370496) 2047 == 2047) with
  | false =>
    have HV : Hid (normalN v = v) := by show _ = _; rw [HN.out, HT.out, e1]; simp
    go_enter Try.func13, Try.ntmps13
    go_wp2
    go_ret
    exact ⟨ret_int HV.out.symm, rfl⟩
  | true =>
    cases e2 : (IntKind.u64.wrap (v * 4096) != 0) with
    | false =>
      have HV : Hid (normalN v = v) := by show _ = _; rw [HN.out, HT.out, e1, e2]; simp
      go_enter Try.func13, Try.ntmps13
      go_wp2
      go_ret
      exact ⟨ret_int HV.out.symm, rfl⟩
    | true =>
      by_cases hs : v = stale
      · have hst : (v != (9218868437227405314 : Int)) = false := by rw [hs]; rfl
        have HV : Hid (normalN v = v) := by show _ = _; rw [HN.out, if_neg (fun h => h.2 hs)]
        clear hs
        go_enter Try.func13, Try.ntmps13
        go_wp2
        go_ret
        exact ⟨ret_int HV.out.symm, rfl⟩
      · have hst : (v != (9218868437227405314 : Int)) = true := by rw [bne_iff_ne]; exact hs
        have HV : Hid (normalN v = nanBits) := by show _ = _; rw [HN.out, HT.out, e1, e2, if_pos ⟨rfl, hs⟩]
        clear hs
        go_enter Try.func13, Try.ntmps13
        go_wp2
        go_ret
        exact ⟨ret_int HV.out.symm, rfl⟩
end Go.Proofs.Ytpoefknaaohmhaa
