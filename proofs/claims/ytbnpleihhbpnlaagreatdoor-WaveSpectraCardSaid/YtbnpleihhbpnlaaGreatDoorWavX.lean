/- The document's wave: floats by their bits. -/
import Derived.Test.YtbnpleihhbpnlaaGreatDoorWavD
namespace Go.Proofs.YtbnpleihhbpnlaaGreatDoor
open Go.RowKit

theorem f21_any (v : Int) (w : World) : Calls Tryz.prog 16 #[.int .u64 v] w fun e w' => e = .returned (.float .f64 v.toNat) ∧ w = w' := by
  have hfb := frombits
  go_enter Tryz.func16, Tryz.ntmps16
  go_wp2
  go_ret
  exact ⟨rfl, rfl⟩
set_option maxHeartbeats 1000000 in
theorem b21_any (x : Nat) (w : World) : Calls Tryz.prog 15 #[.float .f64 x] w fun e w' => e = .returned (.int .u64 (toN x)) ∧ w = w' := by
  have htb := tobits
  have ho := order_not_self x
  by_cases hn : nanN x = true
  · have HN := Lib.hid (toN_pos hn)
    rw [hn] at ho
    clear hn
    go_enter Tryz.func15, Tryz.ntmps15
    go_wp2
    go_ret
    exact ⟨ret_int HN.out, rfl⟩
  · have HN := Lib.hid (toN_neg hn)
    rw [show nanN x = false by simpa using hn] at ho
    clear hn
    go_enter Tryz.func15, Tryz.ntmps15
    go_wp2
    go_ret
    exact ⟨ret_int HN.out, rfl⟩
set_option maxRecDepth 100000 in
set_option maxHeartbeats 2000000 in
theorem rarith_1 (a b : Int) (w : World) : Calls Tryz.prog 7 #[.int .i64 1, .int .u64 a, .int .u64 b] w fun e w' => ArithR 1 a.toNat b.toNat w e w' := by
  have HO := fun v W => Lib.hid (f21_any v W)
  have HT := fun v W => Lib.hid (b21_any v W)
  have hF := fun t x y W => run_float (P := Tryz.prog) .add rfl t x y W
  have hS := fun t x y W => run_float (P := Tryz.prog) .sub rfl t x y W
  have hM := fun t x y W => run_float (P := Tryz.prog) .mul rfl t x y W
  have hQ := fun t x y W => run_float (P := Tryz.prog) .quo rfl t x y W
  go_enter Tryz.func7, Tryz.ntmps7
  go_wp2_with (first
    | (go_at_call 16; refine ((HO _ _).out).mono ?_; rintro e w' ⟨rfl, rfl⟩)
    | (go_at_call 15; refine ((HT _ _).out).mono ?_; rintro e w' ⟨rfl, rfl⟩)
    | simp only [hF, hS, hM, hQ])
  all_goals go_ret2
  all_goals exact arithR_raw (arith_1 _ _)
set_option maxRecDepth 100000 in
set_option maxHeartbeats 2000000 in
theorem rarith_2 (a b : Int) (w : World) : Calls Tryz.prog 7 #[.int .i64 2, .int .u64 a, .int .u64 b] w fun e w' => ArithR 2 a.toNat b.toNat w e w' := by
  have HO := fun v W => Lib.hid (f21_any v W)
  have HT := fun v W => Lib.hid (b21_any v W)
  have hF := fun t x y W => run_float (P := Tryz.prog) .add rfl t x y W
  have hS := fun t x y W => run_float (P := Tryz.prog) .sub rfl t x y W
  have hM := fun t x y W => run_float (P := Tryz.prog) .mul rfl t x y W
  have hQ := fun t x y W => run_float (P := Tryz.prog) .quo rfl t x y W
  go_enter Tryz.func7, Tryz.ntmps7
  go_wp2_with (first
    | (go_at_call 16; refine ((HO _ _).out).mono ?_; rintro e w' ⟨rfl, rfl⟩)
    | (go_at_call 15; refine ((HT _ _).out).mono ?_; rintro e w' ⟨rfl, rfl⟩)
    | simp only [hF, hS, hM, hQ])
  all_goals go_ret2
  all_goals exact arithR_raw (arith_2 _ _)
set_option maxRecDepth 100000 in
set_option maxHeartbeats 2000000 in
theorem rarith_3 (a b : Int) (w : World) : Calls Tryz.prog 7 #[.int .i64 3, .int .u64 a, .int .u64 b] w fun e w' => ArithR 3 a.toNat b.toNat w e w' := by
  have HO := fun v W => Lib.hid (f21_any v W)
  have HT := fun v W => Lib.hid (b21_any v W)
  have hF := fun t x y W => run_float (P := Tryz.prog) .add rfl t x y W
  have hS := fun t x y W => run_float (P := Tryz.prog) .sub rfl t x y W
  have hM := fun t x y W => run_float (P := Tryz.prog) .mul rfl t x y W
  have hQ := fun t x y W => run_float (P := Tryz.prog) .quo rfl t x y W
  go_enter Tryz.func7, Tryz.ntmps7
  go_wp2_with (first
    | (go_at_call 16; refine ((HO _ _).out).mono ?_; rintro e w' ⟨rfl, rfl⟩)
    | (go_at_call 15; refine ((HT _ _).out).mono ?_; rintro e w' ⟨rfl, rfl⟩)
    | simp only [hF, hS, hM, hQ])
  all_goals go_ret2
  all_goals exact arithR_raw (arith_3 _ _)
set_option maxRecDepth 100000 in
set_option maxHeartbeats 2000000 in
theorem rarith_4 (a b : Int) (w : World) : Calls Tryz.prog 7 #[.int .i64 4, .int .u64 a, .int .u64 b] w fun e w' => ArithR 4 a.toNat b.toNat w e w' := by
  have HO := fun v W => Lib.hid (f21_any v W)
  have HT := fun v W => Lib.hid (b21_any v W)
  have hF := fun t x y W => run_float (P := Tryz.prog) .add rfl t x y W
  have hS := fun t x y W => run_float (P := Tryz.prog) .sub rfl t x y W
  have hM := fun t x y W => run_float (P := Tryz.prog) .mul rfl t x y W
  have hQ := fun t x y W => run_float (P := Tryz.prog) .quo rfl t x y W
  go_enter Tryz.func7, Tryz.ntmps7
  go_wp2_with (first
    | (go_at_call 16; refine ((HO _ _).out).mono ?_; rintro e w' ⟨rfl, rfl⟩)
    | (go_at_call 15; refine ((HT _ _).out).mono ?_; rintro e w' ⟨rfl, rfl⟩)
    | simp only [hF, hS, hM, hQ])
  all_goals go_ret2
  all_goals exact arithR_raw (arith_4 _ _)
set_option maxRecDepth 100000 in
set_option maxHeartbeats 2000000 in
theorem rarith_any (op a b : Int) (w : World) : Calls Tryz.prog 7 #[.int .i64 op, .int .u64 a, .int .u64 b] w fun e w' => ArithR op a.toNat b.toNat w e w' := by
  by_cases h1 : op = 1
  · subst h1; exact rarith_1 a b w
  by_cases h2 : op = 2
  · subst h2; exact rarith_2 a b w
  by_cases h3 : op = 3
  · subst h3; exact rarith_3 a b w
  by_cases h4 : op = 4
  · subst h4; exact rarith_4 a b w
  have HO := fun v W => Lib.hid (f21_any v W)
  have H0 := Lib.hid (arith_0 h1 h2 h3 h4 a.toNat b.toNat)
  go_enter Tryz.func7, Tryz.ntmps7
  go_wp2_with (go_at_call 16; refine ((HO _ _).out).mono ?_; rintro e w' ⟨rfl, rfl⟩)
  all_goals go_ret2
  all_goals exact arithR_of (n := 0) H0.out
set_option maxRecDepth 100000 in
set_option maxHeartbeats 2000000 in
theorem rcompare_5 (a b : Int) (w : World) : Calls Tryz.prog 9 #[.int .i64 5, .int .u64 a, .int .u64 b] w fun e w' => CompareR 5 a.toNat b.toNat w e w' := by
  have HO := fun v W => Lib.hid (f21_any v W)
  go_enter Tryz.func9, Tryz.ntmps9
  go_wp2_with (go_at_call 16; refine ((HO _ _).out).mono ?_; rintro e w' ⟨rfl, rfl⟩)
  all_goals go_ret2
  all_goals exact compareR_of (compare_5 _ _)
set_option maxRecDepth 100000 in
set_option maxHeartbeats 2000000 in
theorem rcompare_6 (a b : Int) (w : World) : Calls Tryz.prog 9 #[.int .i64 6, .int .u64 a, .int .u64 b] w fun e w' => CompareR 6 a.toNat b.toNat w e w' := by
  have HO := fun v W => Lib.hid (f21_any v W)
  go_enter Tryz.func9, Tryz.ntmps9
  go_wp2_with (go_at_call 16; refine ((HO _ _).out).mono ?_; rintro e w' ⟨rfl, rfl⟩)
  all_goals go_ret2
  all_goals exact compareR_of (compare_6 _ _)
set_option maxRecDepth 100000 in
set_option maxHeartbeats 2000000 in
theorem rcompare_7 (a b : Int) (w : World) : Calls Tryz.prog 9 #[.int .i64 7, .int .u64 a, .int .u64 b] w fun e w' => CompareR 7 a.toNat b.toNat w e w' := by
  have HO := fun v W => Lib.hid (f21_any v W)
  go_enter Tryz.func9, Tryz.ntmps9
  go_wp2_with (go_at_call 16; refine ((HO _ _).out).mono ?_; rintro e w' ⟨rfl, rfl⟩)
  all_goals go_ret2
  all_goals exact compareR_of (compare_7 _ _)
set_option maxRecDepth 100000 in
set_option maxHeartbeats 2000000 in
theorem rcompare_8 (a b : Int) (w : World) : Calls Tryz.prog 9 #[.int .i64 8, .int .u64 a, .int .u64 b] w fun e w' => CompareR 8 a.toNat b.toNat w e w' := by
  have HO := fun v W => Lib.hid (f21_any v W)
  go_enter Tryz.func9, Tryz.ntmps9
  go_wp2_with (go_at_call 16; refine ((HO _ _).out).mono ?_; rintro e w' ⟨rfl, rfl⟩)
  all_goals go_ret2
  all_goals exact compareR_of (compare_8 _ _)
set_option maxRecDepth 100000 in
set_option maxHeartbeats 2000000 in
theorem rcompare_9 (a b : Int) (w : World) : Calls Tryz.prog 9 #[.int .i64 9, .int .u64 a, .int .u64 b] w fun e w' => CompareR 9 a.toNat b.toNat w e w' := by
  have HO := fun v W => Lib.hid (f21_any v W)
  go_enter Tryz.func9, Tryz.ntmps9
  go_wp2_with (go_at_call 16; refine ((HO _ _).out).mono ?_; rintro e w' ⟨rfl, rfl⟩)
  all_goals go_ret2
  all_goals exact compareR_of (compare_9 _ _)
set_option maxRecDepth 100000 in
set_option maxHeartbeats 2000000 in
theorem rcompare_10 (a b : Int) (w : World) : Calls Tryz.prog 9 #[.int .i64 10, .int .u64 a, .int .u64 b] w fun e w' => CompareR 10 a.toNat b.toNat w e w' := by
  have HO := fun v W => Lib.hid (f21_any v W)
  go_enter Tryz.func9, Tryz.ntmps9
  go_wp2_with (go_at_call 16; refine ((HO _ _).out).mono ?_; rintro e w' ⟨rfl, rfl⟩)
  all_goals go_ret2
  all_goals exact compareR_of (compare_10 _ _)
set_option maxRecDepth 100000 in
set_option maxHeartbeats 2000000 in
theorem rcompare_any (op a b : Int) (w : World) : Calls Tryz.prog 9 #[.int .i64 op, .int .u64 a, .int .u64 b] w fun e w' => CompareR op a.toNat b.toNat w e w' := by
  have HO := fun v W => Lib.hid (f21_any v W)
  by_cases h5 : op = 5
  · subst h5; exact rcompare_5 a b w
  by_cases h6 : op = 6
  · subst h6; exact rcompare_6 a b w
  by_cases h7 : op = 7
  · subst h7; exact rcompare_7 a b w
  by_cases h8 : op = 8
  · subst h8; exact rcompare_8 a b w
  by_cases h9 : op = 9
  · subst h9; exact rcompare_9 a b w
  by_cases h10 : op = 10
  · subst h10; exact rcompare_10 a b w
  have H0 := Lib.hid (compare_0 h5 h6 h7 h8 h9 h10 a.toNat b.toNat)
  go_enter Tryz.func9, Tryz.ntmps9
  go_wp2_with (go_at_call 16; refine ((HO _ _).out).mono ?_; rintro e w' ⟨rfl, rfl⟩)
  all_goals go_ret2
  all_goals exact compareR_of H0.out
set_option maxRecDepth 100000 in
set_option maxHeartbeats 1000000 in
theorem rfloor_any (v : Int) (w : World) : Calls Tryz.prog 11 #[.int .u64 v] w fun e w' => e = .returned (.int .u64 (wholeF .down v.toNat)) ∧ ∃ n, w' = w.drewN n := by
  have HO := fun v W => Lib.hid (f21_any v W)
  have HT := fun v W => Lib.hid (b21_any v W)
  have HF := fun v W => Lib.hid (floorM_any v W)
  go_enter Tryz.func11, Tryz.ntmps11
  go_wp2_with (first
    | (go_at_call 16; refine ((HO _ _).out).mono ?_; rintro e w' ⟨rfl, rfl⟩)
    | (go_at_call 31; refine ((HF _ _).out).mono ?_; rintro e w' ⟨r, rfl, hE, n, rfl⟩; replace hE := Lib.hid (eqN_toN.1 hE))
    | (go_at_call 15; refine ((HT _ _).out).mono ?_; rintro e w' ⟨rfl, rfl⟩))
  go_ret
  rw [toN_whole] at hE
  exact ⟨ret_int (by rw [hE.out]), _, rfl⟩
theorem toN_abs_nan {v : Nat} (h : nanN v = true) : toN (absW v) = nanW := by
  unfold toN
  rw [if_pos]
  unfold nanN absW at *
  simp at h ⊢
  exact h
theorem toN_abs_num {v : Nat} (h : nanN v = false) : toN (absW v) = absW v := by
  unfold toN
  rw [if_neg]
  unfold nanN absW at *
  simp at h ⊢
  exact h
set_option maxRecDepth 100000 in
set_option maxHeartbeats 1000000 in
theorem rabs_any (v : Int) (h0 : 0 ≤ v) (h1 : v < 18446744073709551616) (w : World) : Calls Tryz.prog 13 #[.int .u64 v] w fun e w' => e = .returned (.int .u64 (toN (absW v.toNat))) ∧ w = w' := by
  have HO := fun v W => Lib.hid (f21_any v W)
  have ho := order_not_self v.toNat
  have ha := andNot_sign h0 h1
  cases hn : nanN v.toNat with
  | true =>
    have HN := Lib.hid (toN_abs_nan hn)
    rw [hn] at ho
    clear hn h0 h1
    go_enter Tryz.func13, Tryz.ntmps13
    go_wp2_with (go_at_call 16; refine ((HO _ _).out).mono ?_; rintro e w' ⟨rfl, rfl⟩)
    go_ret
    exact ⟨by rw [HN.out]; rfl, rfl⟩
  | false =>
    have HN := Lib.hid (toN_abs_num hn)
    rw [hn] at ho
    clear hn h0 h1
    go_enter Tryz.func13, Tryz.ntmps13
    go_wp2_with (go_at_call 16; refine ((HO _ _).out).mono ?_; rintro e w' ⟨rfl, rfl⟩)
    go_ret
    exact ⟨by rw [HN.out]; rfl, rfl⟩
end Go.Proofs.YtbnpleihhbpnlaaGreatDoor
