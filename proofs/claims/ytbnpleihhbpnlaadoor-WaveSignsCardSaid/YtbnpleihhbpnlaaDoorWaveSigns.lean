/- WaveSigns: a floor is whole, not above, and less than one below; a float without its sign is it or its opposite. -/
import Derived.Test.YtbnpleihhbpnlaaDoorSignsP
namespace Go.Proofs.YtbnpleihhbpnlaaDoor
open Go.RowKit

def SignsOk (w : World) (e : Ending) (w' : World) : Prop := e = .returned (.bool true) ∧ Below w.heap.size w w'
theorem signs_done {w w1 w2 : World} {d : Nat} (h : w1 = w.drewN d) (hb : Below w1.heap.size w1 w2) : SignsOk w (.returned (.bool true)) w2 := by
  subst h
  exact ⟨rfl, (below_drewN (Below.refl _ _) d).trans hb⟩
set_option maxRecDepth 100000 in
set_option maxHeartbeats 4000000 in
theorem signs_nan (x : Nat) (w : World) (hF : FloatMem w) (_ : x < 18446744073709551616) (hn : nanN x = true) :
    Calls Tryd.prog 5 #[.int .u64 x] w (SignsOk w) := by
  have hfb := frombits
  have ho := (order_not_self x).trans hn
  have hf : wholeF .down x = nanW := by unfold wholeF; rw [if_pos hn]
  have ha : toN (absW x) = nanW := by
    unfold toN
    rw [if_pos]
    unfold nanN absW at *
    simp at hn ⊢
    exact hn
  have H5 := fun W => Lib.hid (floor_any (x : Int) W)
  have H7 := fun W => Lib.hid (abs_any (x : Int) (by omega) (by omega) W)
  rw [Int.toNat_natCast] at H5 H7
  rw [hf] at H5
  rw [ha] at H7
  have HA := fun d => Lib.hid (awake_any (w.drewN d) (hF.drewN d))
  clear hF hn hf ha
  go_enter Tryd.func5, Tryd.ntmps5
  go_wp2_with (first
    | (go_at_call 16; refine ((H5 _).out).mono ?_; rintro e w' ⟨rfl, d3, rfl⟩)
    | (go_at_call 17; refine ((H7 _).out).mono ?_; rintro e w' ⟨rfl, rfl⟩)
    | (go_at_call 13; refine ((HA _).out).mono ?_; rintro e w' ⟨rfl, hb⟩))
  go_ret
  exact signs_done rfl hb
set_option maxRecDepth 100000 in
set_option maxHeartbeats 4000000 in
theorem signs_inf (x : Nat) (w : World) (hF : FloatMem w) (hx : x < 18446744073709551616) (hI : SignInf x) :
    Calls Tryd.prog 5 #[.int .u64 x] w (SignsOk w) := by
  have hfb := frombits
  have ho := (order_not_self x).trans hI.num
  have hself : (FloatKind.f64.format.order x x == some .eq) = true := beq_of (order_refl hI.num)
  have hgt : (FloatKind.f64.format.order x x == some .gt) = false := beq_no (by show Ieee.double.order x x ≠ _; rw [order_refl hI.num]; exact fun h => by cases h)
  obtain ⟨a1, a2, a3⟩ := abs_signs hx hI.num
  have hal : (FloatKind.f64.format.order (absW x) 0 == some .lt) = false := beq_no a2
  have ha : (FloatKind.f64.format.order (absW x) x != some .eq) = false ∨ ((FloatKind.f64.format.order (absW x) x != some .eq) = true ∧ (FloatKind.f64.format.order (absW x) (negW x) != some .eq) = false) := by
    by_cases h : FloatKind.f64.format.order (absW x) x = some .eq
    · left; rw [h]; rfl
    · right; exact ⟨by simpa using h, by rcases a3 with a3 | a3; exact absurd a3 h; show (Ieee.double.order (absW x) (negW x) != some .eq) = false; rw [a3]; rfl⟩
  have hS := fun t W => run_float (P := Tryd.prog) .sub rfl t x x W
  have hnot : ∀ W, (FloatKind.f64.format.order (rawF .sub x x W) 0 != some .eq) = true := fun W => by
    have hr : nanN (rawF .sub x x W) = true := by unfold rawF; rw [hI.sub]; exact cut_nan x x _
    have : FloatKind.f64.format.order (rawF .sub x x W) 0 = none := by
      show Ieee.double.order _ 0 = none
      unfold Ieee.Format.order
      rw [← read_nan] at hr
      cases hd : Ieee.double.read (rawF .sub x x W) with
      | nan s t => cases Ieee.double.read 0 <;> rfl
      | infinity s => rw [hd] at hr; cases hr
      | number s m i => rw [hd] at hr; cases hr
    rw [this]; rfl
  have hng := run_neg
  have H5 := fun W => Lib.hid (floor_any (x : Int) W)
  have H7 := fun W => Lib.hid (abs_any (x : Int) (by omega) (by omega) W)
  rw [Int.toNat_natCast] at H5 H7
  rw [hI.floor] at H5
  rw [a1] at H7
  have HA := fun d => Lib.hid (awake_any (w.drewN d) (hF.drewN d))
  clear hF hI hx a1 a2 a3
  generalize absW x = a at *
  rcases ha with h1 | ⟨h1, h2⟩
  all_goals
    go_enter Tryd.func5, Tryd.ntmps5
    go_wp2_with (first
      | (go_at_call 16; refine ((H5 _).out).mono ?_; rintro e w' ⟨rfl, d3, rfl⟩)
      | (go_at_call 17; refine ((H7 _).out).mono ?_; rintro e w' ⟨rfl, rfl⟩)
      | (go_at_call 13; refine ((HA _).out).mono ?_; rintro e w' ⟨rfl, hb⟩)
      | simp only [hS, hng])
    go_ret
    exact signs_done rfl hb
set_option maxRecDepth 100000 in
set_option maxHeartbeats 4000000 in
theorem signs_fin (x : Nat) (w : World) (hF : FloatMem w) (hx : x < 18446744073709551616) (hfin : finW x) :
    Calls Tryd.prog 5 #[.int .u64 x] w (SignsOk w) := by
  have hfb := frombits
  have hnum := fin_num hfin
  have ho := (order_not_self x).trans hnum
  obtain ⟨a1, a2, a3⟩ := abs_signs hx hnum
  have hal : (FloatKind.f64.format.order (absW x) 0 == some .lt) = false := beq_no a2
  have ha : (FloatKind.f64.format.order (absW x) x != some .eq) = false ∨ ((FloatKind.f64.format.order (absW x) x != some .eq) = true ∧ (FloatKind.f64.format.order (absW x) (negW x) != some .eq) = false) := by
    by_cases h : FloatKind.f64.format.order (absW x) x = some .eq
    · left; rw [h]; rfl
    · right; exact ⟨by simpa using h, by rcases a3 with a3 | a3; exact absurd a3 h; show (Ieee.double.order (absW x) (negW x) != some .eq) = false; rw [a3]; rfl⟩
  obtain ⟨f1, ⟨r, f2, f3, f3'⟩, f4, f5, f6⟩ := floor_signs hfin
  have hd := (down_law hfin).fin
  have hfl : downW x < 18446744073709551616 := hd.1
  have hgt : (FloatKind.f64.format.order (downW x) x == some .gt) = false := beq_no f1
  have hS1 : ∀ t W, (binOp .sub t (.float .f64 x) (.float .f64 x)).run Tryd.prog W = .ok (.float .f64 0) W := fun t W => run_float_arith W .sub t .f64 x x 0 (sub_self hfin)
  have hS2 : ∀ t W, (binOp .sub t (.float .f64 x) (.float .f64 (downW x))).run Tryd.prog W = .ok (.float .f64 r) W := fun t W => run_float_arith W .sub t .f64 x _ r f2
  have h00 : (FloatKind.f64.format.order 0 0 != some .eq) = false := by decide +kernel
  have hle : (FloatKind.f64.format.order r 4607182418800017408 == some .lt || FloatKind.f64.format.order r 4607182418800017408 == some .eq) = true := by
    change Ieee.double.order r 4607182418800017408 ≠ some .gt at f3
    change Ieee.double.order r 4607182418800017408 ≠ none at f3'
    show (Ieee.double.order r 4607182418800017408 == some .lt || Ieee.double.order r 4607182418800017408 == some .eq) = true
    cases hh : Ieee.double.order r 4607182418800017408 with
    | none => exact absurd hh f3'
    | some o => cases o with
      | lt => rfl
      | eq => rfl
      | gt => exact absurd hh f3
  have hb : (FloatKind.f64.format.order x (downW x) == some .eq) = (FloatKind.f64.format.order (truncW x) x == some .eq) := by
    rw [Bool.eq_iff_iff, beq_iff_eq, beq_iff_eq]; exact f4
  have ht : (FloatKind.f64.format.order (truncW (downW x)) (downW x) == some .eq) = true := beq_of f5
  have hng := run_neg
  have H5 := fun W => Lib.hid (floor_any (x : Int) W)
  have H6 := fun W => Lib.hid (floor_any ((downW x : Nat) : Int) W)
  have H7 := fun W => Lib.hid (abs_any (x : Int) (by omega) (by omega) W)
  rw [Int.toNat_natCast] at H5 H6 H7
  rw [whole_down hnum] at H5
  rw [whole_down (fin_num hd), f6] at H6
  rw [a1] at H7
  have H8 := fun W => Lib.hid (truncF_any hfin W)
  have H9 := fun W => Lib.hid (truncF_any hd W)
  have HA := fun d => Lib.hid (awake_any (w.drewN d) (hF.drewN d))
  clear hF hfin hx a1 a2 a3 f1 f2 f3 f3' f4 f5 f6 hd hfl hnum
  generalize truncW (downW x) = tf at *
  generalize truncW x = tx at *
  generalize downW x = f at *
  generalize absW x = a at *
  cases hbv : (FloatKind.f64.format.order tx x == some .eq)
  all_goals
    rw [hbv] at hb
    rcases ha with h1 | ⟨h1, h2⟩
    all_goals
      go_enter Tryd.func5, Tryd.ntmps5
      go_wp2_with (first
        | (go_at_call 16; first | (with_reducible refine ((H5 _).out).mono ?_; rintro e w' ⟨rfl, d3, rfl⟩) | (with_reducible refine ((H6 _).out).mono ?_; rintro e w' ⟨rfl, d4, rfl⟩))
        | (go_at_call 17; refine ((H7 _).out).mono ?_; rintro e w' ⟨rfl, rfl⟩)
        | (go_at_call 18; first | (with_reducible refine ((H8 _).out).mono ?_; rintro e w' ⟨rfl, d5, rfl⟩) | (with_reducible refine ((H9 _).out).mono ?_; rintro e w' ⟨rfl, d6, rfl⟩))
        | (go_at_call 13; refine ((HA _).out).mono ?_; rintro e w' ⟨rfl, hbb⟩)
        | simp only [hS1, hS2, hng])
      go_ret
      exact signs_done rfl hbb
theorem waveSigns_any (v : Int) (w : World) (hF : FloatMem w) (hv : 0 ≤ v ∧ v < 18446744073709551616) : Calls Tryd.prog 5 #[.int .u64 v] w fun e w' => e = .returned (.bool true) ∧ Below w.heap.size w w' := by
  obtain ⟨x, rfl⟩ := Int.eq_ofNat_of_zero_le hv.1
  have hx : x < 18446744073709551616 := by omega
  by_cases hn : nanN x = true
  · exact signs_nan x w hF hx hn
  · have hn2 : nanN x = false := by simpa using hn
    by_cases hf : finW x
    · exact signs_fin x w hF hx hf
    · exact signs_inf x w hF hx (inf_signs hx hn2 hf)
end Go.Proofs.YtbnpleihhbpnlaaDoor
