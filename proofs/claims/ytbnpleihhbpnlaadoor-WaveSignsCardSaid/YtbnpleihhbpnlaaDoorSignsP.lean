/- WaveSigns: a floor is whole, not above, and less than one below; a float without its sign is it or its opposite. -/
import Derived.Test.YtbnpleihhbpnlaaDoorWavW
namespace Go.Proofs.YtbnpleihhbpnlaaDoor
open Go.RowKit

theorem run_archTrunc (x : Nat) (w : World) : ∃ r n, (callFunc 28 #[.float .f64 x]).run Tryd.prog w = .ok (.value (.float .f64 r)) (w.drewN n) ∧ EqN r (wholeF .zero x) := by
  obtain ⟨r, n, h1, h2⟩ := run_whole (name := "math.archTrunc") (way := .zero) x w
  refine ⟨r, n, ?_, h2⟩
  rw [run_callFunc_extern Tryd.func28 (by kernel_rfl) (by kernel_rfl) (by kernel_rfl) (e := Extern.MathFloor.toIntegral "math.archTrunc" .zero) (by kernel_rfl)]
  simp [h1]
set_option maxRecDepth 100000 in
theorem truncM_any (x : Nat) (w : World) : Calls Tryd.prog 18 #[.float .f64 x] w fun e w' => ∃ r, e = .returned (.float .f64 r) ∧ EqN r (wholeF .zero x) ∧ ∃ n, w' = w.drewN n := by
  obtain ⟨r, n, hr, hE⟩ := run_archTrunc x w
  have H := Lib.hid hE
  clear hE
  go_enter Tryd.func18, Tryd.ntmps18
  go_wp2
  go_ret
  exact ⟨r, rfl, H.out, n, rfl⟩
theorem fin_num {x : Nat} (h : finW x) : nanN x = false := numb_of (Nat.le_of_lt h.2)
theorem whole_down {x : Nat} (h : nanN x = false) : wholeF .down x = downW x := by unfold wholeF; rw [if_neg (by rw [h]; decide)]; rfl
theorem whole_trunc {x : Nat} (h : nanN x = false) : wholeF .zero x = truncW x := by unfold wholeF; rw [if_neg (by rw [h]; decide)]; rfl
theorem trunc_num {x : Nat} (h : finW x) : nanN (truncW x) = false := by
  obtain ⟨s, m, i, hr, _⟩ := fin_read h
  unfold truncW
  rw [hr]
  exact numb_of (write_num trivial)
theorem truncF_any {x : Nat} (h : finW x) (w : World) : Calls Tryd.prog 18 #[.float .f64 x] w fun e w' => e = .returned (.float .f64 (truncW x)) ∧ ∃ n, w' = w.drewN n := by
  refine (truncM_any x w).mono ?_
  rintro e w' ⟨r, rfl, hE, hd⟩
  refine ⟨?_, hd⟩
  rw [whole_trunc (fin_num h)] at hE
  rcases hE with rfl | ⟨_, h2⟩
  · rfl
  · rw [trunc_num h] at h2; cases h2
theorem order_refl {x : Nat} (h : nanN x = false) : Ieee.double.order x x = some .eq := by
  unfold Ieee.Format.order
  rw [order_self, read_nan, h]; rfl
/-- A float without its sign: not below nought; it, or its opposite. -/
theorem abs_signs {x : Nat} (hx : x < 18446744073709551616) (h : nanN x = false) : toN (absW x) = absW x ∧ Ieee.double.order (absW x) 0 ≠ some .lt ∧ (Ieee.double.order (absW x) x = some .eq ∨ Ieee.double.order (absW x) (negW x) = some .eq) := by
  have hm : absW x % 9223372036854775808 = x % 9223372036854775808 := by unfold absW; omega
  have hn : nanN (absW x) = false := by unfold nanN at h ⊢; rw [hm]; exact h
  refine ⟨?_, ?_, ?_⟩
  · unfold toN; rw [if_neg (by rw [hn]; decide)]
  · have hs : absW x / 9223372036854775808 % 2 = 0 := by unfold absW; omega
    rw [← read_nan] at hn
    unfold Ieee.Format.order
    have h0 : Ieee.double.read 0 = .number false 0 (-1074) := by decide +kernel
    rw [h0]
    cases hr : Ieee.double.read (absW x) with
    | nan s t => rw [hr] at hn; cases hn
    | infinity s =>
      have hneg : s = false := by
        unfold Ieee.Format.read at hr
        rw [d_sign, d_binade, d_inf, d_least] at hr
        dsimp only at hr
        split at hr
        · cases hr
        · split at hr
          · cases hr
          · split at hr
            · injection hr with hr; rw [← hr, hs]; rfl
            · cases hr
      subst hneg
      intro e
      cases e
    | number s m i =>
      obtain ⟨hi, _, hsg⟩ := read_place hr
      rw [hs] at hsg
      have hsf : s = false := hsg
      subst hsf
      rw [order_V hi (by decide)]
      unfold fV
      dsimp only
      rw [signed_nat, signed_nat, if_neg (by decide), if_neg (by decide), Nat.zero_mul]
      intro e
      injection e with e
      rw [cmp_lt] at e
      omega
  · by_cases hl : x < 9223372036854775808
    · left
      have : absW x = x := by unfold absW; omega
      rw [this]
      exact order_refl h
    · right
      have : negW x = absW x := by rw [negW_eq hx, if_neg hl]; unfold absW; omega
      rw [this]
      exact order_refl hn
theorem beq_of {a b : Option Ordering} (h : a = b) : (a == b) = true := by subst h; simp
theorem beq_no {a b : Option Ordering} (h : a ≠ b) : (a == b) = false := by simpa using h
/-- What is known of a float that is no number; of an infinity; of a number. -/
structure SignInf (x : Nat) : Prop where
  num : nanN x = false
  floor : wholeF .down x = x
  sub : floatBits .sub .f64 x x = none
theorem inf_signs {x : Nat} (hx : x < 18446744073709551616) (hn : nanN x = false) (hf : ¬ finW x) : SignInf x := by
  have hr : x % 9223372036854775808 = 9218868437227405312 := by
    unfold nanN at hn
    have := of_decide_eq_false hn
    unfold finW at hf
    omega
  have hrd : Ieee.double.read x = .infinity (x / 9223372036854775808 % 2 == 1) := by
    unfold Ieee.Format.read
    rw [d_sign, d_binade, d_inf, d_least]
    dsimp only
    rw [hr]; rfl
  refine ⟨hn, ?_, ?_⟩
  · unfold wholeF
    rw [if_neg (by rw [hn]; decide)]
    have : (Ieee.double.read x).integral .down = Ieee.double.read x := by rw [hrd]; rfl
    rw [this]
    exact write_read hx (by omega)
  · show Option.map Ieee.double.write ((Ieee.double.read x).sum (Ieee.double.read x).opposite) = none
    rw [hrd]
    cases (x / 9223372036854775808 % 2 == 1) <;> rfl
end Go.Proofs.YtbnpleihhbpnlaaDoor
