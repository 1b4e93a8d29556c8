/- wave: sums, products, comparisons, floors of floats by their bits. -/
import Derived.Test.YtbnpleihhbpnlaaDoorWavA
namespace Go.Proofs.YtbnpleihhbpnlaaDoor
open Go.RowKit

theorem andNot_sign {v : Int} (h0 : 0 ≤ v) (h1 : v < 18446744073709551616) : bits .andNot .u64 v 9223372036854775808 = ((absW v.toNat : Nat) : Int) := by
  rw [u64_andNot v _ h0 h1 (by decide) (by decide), show 18446744073709551615 - (9223372036854775808 : Int).toNat = 2 ^ 63 - 1 from by decide, Nat.and_two_pow_sub_one_eq_mod]
  rfl
/-- Made whole. -/
def wholeF (way : Ieee.Toward) (x : Nat) : Nat := if nanN x = true then nanW else Ieee.double.write ((Ieee.double.read x).integral way)
theorem quiet_nan (s : Bool) (t : Nat) : nanN (FloatKind.f64.encode (.nan s (FloatKind.f64.format.quiet t))) = true := by
  show nanN (Ieee.double.word s (Ieee.double.infRung + (Ieee.double.quiet t) % Ieee.double.binade)) = true
  rw [d_inf, d_binade]
  obtain ⟨q, hq⟩ : ∃ q, Ieee.double.quiet t % 4503599627370496 = q := ⟨_, rfl⟩
  have hq1 : 1 ≤ q := by
    rw [← hq]
    show 1 ≤ (t ||| 2 ^ 51) % 2 ^ 52
    rw [Nat.or_mod_two_pow, show (2 : Nat) ^ 51 % 2 ^ 52 = 2 ^ 51 from by decide]
    exact Nat.le_trans (by decide) Nat.right_le_or
  have hq2 : q < 4503599627370496 := by rw [← hq]; exact Nat.mod_lt _ (by decide)
  rw [hq]
  unfold nanN
  rw [word_mod s (by omega)]
  exact decide_eq_true (by omega)
theorem nan_read {x : Nat} {s : Bool} {t : Nat} (h : FloatKind.f64.decode x = .nan s t) : nanN x = true := by
  have h2 : Ieee.double.read x = .nan s t := h
  rw [← read_nan, h2]; rfl
theorem run_whole {name : String} {way : Ieee.Toward} (x : Nat) (w : World) :
    ∃ r n, (Extern.MathFloor.toIntegral name way #[.float .f64 x]).run Tryd.prog w = .ok (.float .f64 r) (w.drewN n) ∧ EqN r (wholeF way x) := by
  cases h : FloatKind.f64.decode x with
  | nan s t =>
    have hn := nan_read h
    by_cases hq : FloatKind.f64.format.quiet t = t
    · refine ⟨x, 0, ?_, .inr ⟨hn, ?_⟩⟩
      · conv in (Extern.MathFloor.toIntegral _ _ _) => whnf
        rw [h]; simp only [hq, if_true]; rfl
      · unfold wholeF; rw [if_pos hn]; exact nan_nanW
    · obtain ⟨q, hqq⟩ : ∃ q, (if ((Question.extern "math.Floor,Ceil,Trunc,RoundToEven.signallingNaN kept" 2).cut (w.tape w.drawn (Question.extern "math.Floor,Ceil,Trunc,RoundToEven.signallingNaN kept" 2)) == 1) = true then x else FloatKind.f64.encode (.nan s (FloatKind.f64.format.quiet t))) = q := ⟨_, rfl⟩
      refine ⟨q, 1, ?_, .inr ⟨?_, ?_⟩⟩
      · conv in (Extern.MathFloor.toIntegral _ _ _) => whnf
        rw [h, ← hqq]; simp [hq, Question.forced]; rfl
      · rw [← hqq]
        split
        · exact hn
        · exact quiet_nan s t
      · unfold wholeF; rw [if_pos hn]; exact nan_nanW
  | infinity s =>
    refine ⟨FloatKind.f64.encode (.infinity s), 0, ?_, .inl ?_⟩
    · conv in (Extern.MathFloor.toIntegral _ _ _) => whnf
      rw [h]; rfl
    · have h2 : Ieee.double.read x = .infinity s := h
      unfold wholeF
      rw [show nanN x = false from by rw [← read_nan, h2]; rfl, if_neg (by decide), h2]; rfl
  | number s m i =>
    refine ⟨FloatKind.f64.encode ((Ieee.Datum.number s m i).integral way), 0, ?_, .inl ?_⟩
    · conv in (Extern.MathFloor.toIntegral _ _ _) => whnf
      rw [h]; rfl
    · have h2 : Ieee.double.read x = .number s m i := h
      unfold wholeF
      rw [show nanN x = false from by rw [← read_nan, h2]; rfl, if_neg (by decide), h2]; rfl
theorem run_archFloor (x : Nat) (w : World) : ∃ r n, (callFunc 34 #[.float .f64 x]).run Tryd.prog w = .ok (.value (.float .f64 r)) (w.drewN n) ∧ EqN r (wholeF .down x) := by
  obtain ⟨r, n, h1, h2⟩ := run_whole (name := "math.archFloor") (way := .down) x w
  refine ⟨r, n, ?_, h2⟩
  rw [run_callFunc_extern Tryd.func34 (by kernel_rfl) (by kernel_rfl) (by kernel_rfl) (e := Extern.MathFloor.toIntegral "math.archFloor" .down) (by kernel_rfl)]
  simp [h1]
set_option maxRecDepth 100000 in
theorem floorM_any (x : Nat) (w : World) : Calls Tryd.prog 27 #[.float .f64 x] w fun e w' => ∃ r, e = .returned (.float .f64 r) ∧ EqN r (wholeF .down x) ∧ ∃ n, w' = w.drewN n := by
  obtain ⟨r, n, hr, hE⟩ := run_archFloor x w
  have H := Lib.hid hE
  clear hE
  go_enter Tryd.func27, Tryd.ntmps27
  go_wp2
  go_ret
  exact ⟨r, rfl, H.out, n, rfl⟩
theorem absM_any (x : Nat) (w : World) (hx : x < 18446744073709551616) : Calls Tryd.prog 12 #[.float .f64 x] w fun e w' => e = .returned (.float .f64 (absW x)) ∧ w = w' := by
  have hfb := frombits
  have htb := tobits
  have ha := andNot_sign (v := (x : Int)) (by omega) (by omega)
  rw [Int.toNat_natCast] at ha
  go_enter Tryd.func12, Tryd.ntmps12
  go_wp2
  go_ret
  exact ⟨rfl, rfl⟩
end Go.Proofs.YtbnpleihhbpnlaaDoor
