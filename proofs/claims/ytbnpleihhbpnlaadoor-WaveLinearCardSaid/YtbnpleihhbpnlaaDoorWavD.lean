/- wave: comparisons, floors, signs, normal words. -/
import Derived.Test.YtbnpleihhbpnlaaDoorWavC
namespace Go.Proofs.YtbnpleihhbpnlaaDoor
open Go.RowKit

/-- What Compare hands back. -/
def CompareR (op : Int) (x y : Nat) (w : World) (e : Ending) (w' : World) : Prop := e = .returned (.tuple #[.bool (compareV op x y), .bool (compareOk op)]) ∧ w = w'
theorem compareR_of {op : Int} {x y : Nat} {w : World} {v b : Bool} (h : compareV op x y = v ∧ compareOk op = b) : CompareR op x y w (.returned (.tuple #[.bool v, .bool b])) w := by
  obtain ⟨rfl, rfl⟩ := h
  exact ⟨rfl, rfl⟩
theorem compare_5 (x y : Nat) : compareV 5 x y = (FloatKind.f64.format.order x y == some .eq) ∧ compareOk 5 = true := ⟨rfl, rfl⟩
theorem compare_6 (x y : Nat) : compareV 6 x y = (FloatKind.f64.format.order x y != some .eq) ∧ compareOk 6 = true := ⟨rfl, rfl⟩
theorem compare_7 (x y : Nat) : compareV 7 x y = (FloatKind.f64.format.order x y == some .lt) ∧ compareOk 7 = true := ⟨rfl, rfl⟩
theorem compare_8 (x y : Nat) : compareV 8 x y = (FloatKind.f64.format.order x y == some .lt || FloatKind.f64.format.order x y == some .eq) ∧ compareOk 8 = true := ⟨rfl, rfl⟩
theorem compare_9 (x y : Nat) : compareV 9 x y = (FloatKind.f64.format.order x y == some .gt) ∧ compareOk 9 = true := ⟨rfl, rfl⟩
theorem compare_10 (x y : Nat) : compareV 10 x y = (FloatKind.f64.format.order x y == some .gt || FloatKind.f64.format.order x y == some .eq) ∧ compareOk 10 = true := ⟨rfl, rfl⟩
theorem compare_0 {op : Int} (h5 : ¬ op = 5) (h6 : ¬ op = 6) (h7 : ¬ op = 7) (h8 : ¬ op = 8) (h9 : ¬ op = 9) (h10 : ¬ op = 10) (x y : Nat) : compareV op x y = false ∧ compareOk op = false := by
  unfold compareV compareOk
  rw [if_neg h5, if_neg h6, if_neg h7, if_neg h8, if_neg h9, if_neg h10]
  exact ⟨rfl, decide_eq_false (by omega)⟩
set_option maxRecDepth 100000 in
set_option maxHeartbeats 2000000 in
theorem compare_walk5 (a b : Int) (w : World) : Calls Tryd.prog 14 #[.int .i64 5, .int .u64 a, .int .u64 b] w fun e w' => CompareR 5 a.toNat b.toNat w e w' := by
  have HO := fun v W => Lib.hid (of_any v W)
  go_enter Tryd.func14, Tryd.ntmps14
  go_wp2_with (go_at_call 26; refine ((HO _ _).out).mono ?_; rintro e w' ⟨rfl, rfl⟩)
  all_goals go_ret2
  all_goals exact compareR_of (compare_5 _ _)
set_option maxRecDepth 100000 in
set_option maxHeartbeats 2000000 in
theorem compare_walk6 (a b : Int) (w : World) : Calls Tryd.prog 14 #[.int .i64 6, .int .u64 a, .int .u64 b] w fun e w' => CompareR 6 a.toNat b.toNat w e w' := by
  have HO := fun v W => Lib.hid (of_any v W)
  go_enter Tryd.func14, Tryd.ntmps14
  go_wp2_with (go_at_call 26; refine ((HO _ _).out).mono ?_; rintro e w' ⟨rfl, rfl⟩)
  all_goals go_ret2
  all_goals exact compareR_of (compare_6 _ _)
set_option maxRecDepth 100000 in
set_option maxHeartbeats 2000000 in
theorem compare_walk7 (a b : Int) (w : World) : Calls Tryd.prog 14 #[.int .i64 7, .int .u64 a, .int .u64 b] w fun e w' => CompareR 7 a.toNat b.toNat w e w' := by
  have HO := fun v W => Lib.hid (of_any v W)
  go_enter Tryd.func14, Tryd.ntmps14
  go_wp2_with (go_at_call 26; refine ((HO _ _).out).mono ?_; rintro e w' ⟨rfl, rfl⟩)
  all_goals go_ret2
  all_goals exact compareR_of (compare_7 _ _)
set_option maxRecDepth 100000 in
set_option maxHeartbeats 2000000 in
theorem compare_walk8 (a b : Int) (w : World) : Calls Tryd.prog 14 #[.int .i64 8, .int .u64 a, .int .u64 b] w fun e w' => CompareR 8 a.toNat b.toNat w e w' := by
  have HO := fun v W => Lib.hid (of_any v W)
  go_enter Tryd.func14, Tryd.ntmps14
  go_wp2_with (go_at_call 26; refine ((HO _ _).out).mono ?_; rintro e w' ⟨rfl, rfl⟩)
  all_goals go_ret2
  all_goals exact compareR_of (compare_8 _ _)
set_option maxRecDepth 100000 in
set_option maxHeartbeats 2000000 in
theorem compare_walk9 (a b : Int) (w : World) : Calls Tryd.prog 14 #[.int .i64 9, .int .u64 a, .int .u64 b] w fun e w' => CompareR 9 a.toNat b.toNat w e w' := by
  have HO := fun v W => Lib.hid (of_any v W)
  go_enter Tryd.func14, Tryd.ntmps14
  go_wp2_with (go_at_call 26; refine ((HO _ _).out).mono ?_; rintro e w' ⟨rfl, rfl⟩)
  all_goals go_ret2
  all_goals exact compareR_of (compare_9 _ _)
set_option maxRecDepth 100000 in
set_option maxHeartbeats 2000000 in
theorem compare_walk10 (a b : Int) (w : World) : Calls Tryd.prog 14 #[.int .i64 10, .int .u64 a, .int .u64 b] w fun e w' => CompareR 10 a.toNat b.toNat w e w' := by
  have HO := fun v W => Lib.hid (of_any v W)
  go_enter Tryd.func14, Tryd.ntmps14
  go_wp2_with (go_at_call 26; refine ((HO _ _).out).mono ?_; rintro e w' ⟨rfl, rfl⟩)
  all_goals go_ret2
  all_goals exact compareR_of (compare_10 _ _)
set_option maxRecDepth 100000 in
set_option maxHeartbeats 2000000 in
theorem compare_any (op a b : Int) (w : World) : Calls Tryd.prog 14 #[.int .i64 op, .int .u64 a, .int .u64 b] w fun e w' => CompareR op a.toNat b.toNat w e w' := by
  have HO := fun v W => Lib.hid (of_any v W)
  by_cases h5 : op = 5
  · subst h5; exact compare_walk5 a b w
  by_cases h6 : op = 6
  · subst h6; exact compare_walk6 a b w
  by_cases h7 : op = 7
  · subst h7; exact compare_walk7 a b w
  by_cases h8 : op = 8
  · subst h8; exact compare_walk8 a b w
  by_cases h9 : op = 9
  · subst h9; exact compare_walk9 a b w
  by_cases h10 : op = 10
  · subst h10; exact compare_walk10 a b w
  have H0 := Lib.hid (compare_0 h5 h6 h7 h8 h9 h10 a.toNat b.toNat)
  go_enter Tryd.func14, Tryd.ntmps14
  go_wp2_with (go_at_call 26; refine ((HO _ _).out).mono ?_; rintro e w' ⟨rfl, rfl⟩)
  all_goals go_ret2
  all_goals exact compareR_of H0.out
theorem toN_whole (way : Ieee.Toward) (x : Nat) : toN (wholeF way x) = wholeF way x := by
  unfold wholeF
  by_cases h : nanN x = true
  · rw [if_pos h]; decide
  · rw [if_neg h]
    unfold toN
    rw [numb_of (write_num ?_), if_neg (by decide)]
    rw [← read_nan] at h
    cases hd : Ieee.double.read x with
    | nan => rw [hd] at h; exact absurd rfl h
    | infinity => exact trivial
    | number => exact trivial
set_option maxRecDepth 100000 in
set_option maxHeartbeats 1000000 in
theorem floor_any (v : Int) (w : World) : Calls Tryd.prog 16 #[.int .u64 v] w fun e w' => e = .returned (.int .u64 (wholeF .down v.toNat)) ∧ ∃ n, w' = w.drewN n := by
  have HO := fun v W => Lib.hid (of_any v W)
  have HT := fun v W => Lib.hid (to_any v W)
  have HF := fun v W => Lib.hid (floorM_any v W)
  go_enter Tryd.func16, Tryd.ntmps16
  go_wp2_with (first
    | (go_at_call 26; refine ((HO _ _).out).mono ?_; rintro e w' ⟨rfl, rfl⟩)
    | (go_at_call 27; refine ((HF _ _).out).mono ?_; rintro e w' ⟨r, rfl, hE, n, rfl⟩; replace hE := Lib.hid (eqN_toN.1 hE))
    | (go_at_call 22; refine ((HT _ _).out).mono ?_; rintro e w' ⟨rfl, rfl⟩))
  go_ret
  rw [toN_whole] at hE
  exact ⟨ret_int (by rw [hE.out]), _, rfl⟩
set_option maxRecDepth 100000 in
set_option maxHeartbeats 1000000 in
theorem abs_any (v : Int) (h0 : 0 ≤ v) (h1 : v < 18446744073709551616) (w : World) : Calls Tryd.prog 17 #[.int .u64 v] w fun e w' => e = .returned (.int .u64 (toN (absW v.toNat))) ∧ w = w' := by
  have HO := fun v W => Lib.hid (of_any v W)
  have HT := fun v W => Lib.hid (to_any v W)
  have HF := fun W => Lib.hid (absM_any v.toNat W (by omega))
  clear h0 h1
  go_enter Tryd.func17, Tryd.ntmps17
  go_wp2_with (first
    | (go_at_call 26; refine ((HO _ _).out).mono ?_; rintro e w' ⟨rfl, rfl⟩)
    | (go_at_call 12; refine ((HF _).out).mono ?_; rintro e w' ⟨rfl, rfl⟩)
    | (go_at_call 22; refine ((HT _ _).out).mono ?_; rintro e w' ⟨rfl, rfl⟩))
  go_ret
  exact ⟨rfl, rfl⟩
set_option maxRecDepth 100000 in
set_option maxHeartbeats 1000000 in
theorem normal_any (v : Int) (w : World) : Calls Tryd.prog 15 #[.int .u64 v] w fun e w' => e = .returned (.int .u64 (toN v.toNat)) ∧ w = w' := by
  have HO := fun v W => Lib.hid (of_any v W)
  have HT := fun v W => Lib.hid (to_any v W)
  go_enter Tryd.func15, Tryd.ntmps15
  go_wp2_with (first
    | (go_at_call 26; refine ((HO _ _).out).mono ?_; rintro e w' ⟨rfl, rfl⟩)
    | (go_at_call 22; refine ((HT _ _).out).mono ?_; rintro e w' ⟨rfl, rfl⟩))
  go_ret
  exact ⟨rfl, rfl⟩
end Go.Proofs.YtbnpleihhbpnlaaDoor
