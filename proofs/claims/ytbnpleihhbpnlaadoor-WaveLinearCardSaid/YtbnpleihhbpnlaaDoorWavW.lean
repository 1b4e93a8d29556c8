/- awake: what wave answers to the calls that every statement makes. -/
import Derived.Test.YtbnpleihhbpnlaaDoorWavT
import Derived.Test.YtbnpleihhbpnlaaDoorIdsS
import Derived.Test.YtbnpleihhbpnlaaDoorSpecP
namespace Go.Proofs.YtbnpleihhbpnlaaDoor
open Go.RowKit

def b1F : Nat := 4607182418800017408
def b2F : Nat := 4611686018427387904
theorem aw_r : specR [4607182418800017408, 4611686018427387904] 2 2 = [4613937818241073152, 13830554455654793216] := by decide +kernel
theorem aw_p : powerV [4611686018427387904] 1 = 4616189618054758400 := by decide +kernel
theorem aw_n : numV ⟨#[48, 46, 49]⟩ = 4591870180066957722 ∧ numB (⟨#[48, 46, 49]⟩ : ByteArray).data.toList = true := by decide +kernel
theorem aw_a : arithV 1 4607182418800017408 4607182418800017408 = 4611686018427387904 := by decide +kernel
theorem aw_c : compareV 7 4607182418800017408 4611686018427387904 = true := by decide +kernel
theorem aw_f : wholeF .down 4609434218613702656 = 4607182418800017408 := by decide +kernel
theorem aw_b : toN (absW 13830554455654793216) = 4607182418800017408 := by decide +kernel
theorem aw_s : toN 9218868437227405314 = 9221120237041090560 := by decide +kernel
theorem aw_spec (A : Option Addr) (c B : Nat) (w : World) (hr : Rd w B 1 A (wrdC [4607182418800017408, 4611686018427387904])) (hB : B ≤ w.heap.size) :
    Calls Tryd.prog 9 #[.slice A 2 c] w fun e w' => ∃ A1 c1 A2 c2, e = .returned (.tuple #[.slice A1 2 c1, .slice A2 2 c2, .int .i64 0]) ∧ Rd w' w'.heap.size 1 A1 (wrdC [4613937818241073152, 13830554455654793216]) ∧ Below w.heap.size w w' := by
  refine (spectrum_any _ A 2 c B w (.inr (.inl rfl)) rfl hr hB).mono ?_
  rintro e w' ⟨A1, c1, A2, c2, rfl, hT⟩
  rw [aw_r] at hT
  exact ⟨A1, c1, A2, c2, rfl, hT.1.rd, hT.2.2.2⟩
theorem aw_power (A : Option Addr) (c B : Nat) (w : World) (hr : Rd w B 1 A (wrdC [4611686018427387904])) (hB : B ≤ w.heap.size) :
    Calls Tryd.prog 10 #[.slice A 1 c] w fun e w' => e = .returned (.tuple #[.int .u64 4616189618054758400, .int .i64 0]) ∧ Below w.heap.size w w' := by
  refine (power_any _ A 1 c B w (.inl rfl) rfl hr hB).mono ?_
  rintro e w' ⟨rfl, hb⟩
  rw [aw_p]
  exact ⟨rfl, hb⟩
theorem aw_number (w : World) (hF : FloatMem w) : Calls Tryd.prog 23 #[.string ⟨#[48, 46, 49]⟩] w fun e w' => e = .returned (.tuple #[.int .u64 4591870180066957722, .bool true]) ∧ ∃ d, w' = w.drewN d := by
  refine (numberW_any _ w (by decide) hF).mono ?_
  rintro e w' ⟨rfl, hd⟩
  rw [aw_n.1, aw_n.2]
  exact ⟨rfl, hd⟩
theorem aw_arith (w : World) : Calls Tryd.prog 24 #[.int .i64 1, .int .u64 4607182418800017408, .int .u64 4607182418800017408] w fun e w' => e = .returned (.tuple #[.int .u64 4611686018427387904, .bool true]) ∧ ∃ d, w' = w.drewN d := by
  refine (arith_any 1 _ _ w).mono ?_
  rintro e w' ⟨rfl, hd⟩
  refine ⟨?_, hd⟩
  rw [show (4607182418800017408 : Int).toNat = 4607182418800017408 from rfl, aw_a]
  rfl
theorem aw_compare (w : World) : Calls Tryd.prog 14 #[.int .i64 7, .int .u64 4607182418800017408, .int .u64 4611686018427387904] w fun e w' => e = .returned (.tuple #[.bool true, .bool true]) ∧ w = w' := by
  refine (compare_any 7 _ _ w).mono ?_
  rintro e w' ⟨rfl, hd⟩
  refine ⟨?_, hd⟩
  rw [show (4607182418800017408 : Int).toNat = 4607182418800017408 from rfl, show (4611686018427387904 : Int).toNat = 4611686018427387904 from rfl, aw_c]
  rfl
theorem aw_floor (w : World) : Calls Tryd.prog 16 #[.int .u64 4609434218613702656] w fun e w' => e = .returned (.int .u64 4607182418800017408) ∧ ∃ n, w' = w.drewN n := by
  refine (floor_any _ w).mono ?_
  rintro e w' ⟨rfl, hd⟩
  refine ⟨?_, hd⟩
  rw [show (4609434218613702656 : Int).toNat = 4609434218613702656 from rfl, aw_f]
  rfl
theorem aw_abs (w : World) : Calls Tryd.prog 17 #[.int .u64 13830554455654793216] w fun e w' => e = .returned (.int .u64 4607182418800017408) ∧ w = w' := by
  refine (abs_any _ (by decide) (by decide) w).mono ?_
  rintro e w' ⟨rfl, hd⟩
  refine ⟨?_, hd⟩
  rw [show (13830554455654793216 : Int).toNat = 13830554455654793216 from rfl, aw_b]
  rfl
theorem aw_normal (w : World) : Calls Tryd.prog 15 #[.int .u64 9218868437227405314] w fun e w' => e = .returned (.int .u64 9221120237041090560) ∧ w = w' := by
  refine (normal_any _ w).mono ?_
  rintro e w' ⟨rfl, hd⟩
  refine ⟨?_, hd⟩
  rw [show (9218868437227405314 : Int).toNat = 9218868437227405314 from rfl, aw_s]
  rfl
theorem aw_same (A1 A2 : Option Addr) (c1 c2 B1 B2 : Nat) (w : World) (h1 : Rd w B1 1 A1 (wrdC [4613937818241073152, 13830554455654793216])) (h2 : Rd w B2 1 A2 (wrdC [4613937818241073152, 13830554455654793216])) :
    Calls Tryd.prog 25 #[.slice A1 2 c1, .slice A2 2 c2] w fun e w' => e = .returned (.bool true) ∧ ∃ n, w' = w.drewN n := by
  have h := sameIds_any _ _ A1 A2 2 2 c1 c2 B1 B2 w h1 h2 rfl rfl (by decide) (by decide)
  rw [decide_eq_true rfl] at h
  exact h
set_option maxRecDepth 100000 in
set_option maxHeartbeats 4000000 in
theorem awake_any (w : World) (hF : FloatMem w) : Calls Tryd.prog 13 #[] w fun e w' => e = .returned (.bool true) ∧ Below w.heap.size w w' := by
  have htb := tobits
  have HF := Lib.hid hF
  clear hF
  go_enter Tryd.func13, Tryd.ntmps13
  go_wp2_with (first
    | (go_at_call 9; refine (aw_spec _ _ _ _ (Rd.new w (wrdC_sz [4607182418800017408, 4611686018427387904]) _ rfl) (by simp)).mono ?_; rintro e w2 ⟨A1, c1, A2, c2, rfl, hr1, hb1⟩; replace hr1 := Lib.hid hr1; replace hb1 := Lib.hid (((Below.refl w.heap.size w).alloc (Nat.le_refl _) _).trans (hb1.mono (by simp))))
    | (go_at_call 10; refine (aw_power _ _ _ _ (Rd.new w2 (wrdC_sz [4611686018427387904]) _ rfl) (by simp)).mono ?_; rintro e w3 ⟨rfl, hb2⟩; have hb3 := Lib.hid (((Below.refl w2.heap.size w2).alloc (Nat.le_refl _) _).trans (hb2.mono (by simp))); clear hb2)
    | (go_at_call 23; refine (aw_number _ ((HF.out.below hb1.out).below hb3.out)).mono ?_; rintro e w' ⟨rfl, d1, rfl⟩)
    | (go_at_call 24; refine (aw_arith _).mono ?_; rintro e w' ⟨rfl, d2, rfl⟩)
    | (go_at_call 14; refine (aw_compare _).mono ?_; rintro e w' ⟨rfl, rfl⟩)
    | (go_at_call 25; (refine (aw_same _ _ _ _ _ _ _ (((hr1.out.below hb3.out).drewN (d1 + d2)).below ((Below.refl w2.heap.size (w3.drewN (d1 + d2))).alloc (show w2.heap.size ≤ (w3.drewN (d1 + d2)).heap.size from hb3.out.size) _)) (Rd.new (w3.drewN (d1 + d2)) (wrdC_sz [4613937818241073152, 13830554455654793216]) _ rfl)).mono ?_; rintro e w' ⟨rfl, d4, rfl⟩))
    | (go_at_call 16; refine (aw_floor _).mono ?_; rintro e w' ⟨rfl, d3, rfl⟩)
    | (go_at_call 17; refine (aw_abs _).mono ?_; rintro e w' ⟨rfl, rfl⟩)
    | (go_at_call 15; refine (aw_normal _).mono ?_; rintro e w' ⟨rfl, rfl⟩))
  go_ret
  refine ⟨rfl, ?_⟩
  have h3 := hb1.out.trans (hb3.out.mono hb1.out.size)
  exact below_drewN ((below_drewN h3 (d1 + d2)).alloc h3.size _) _
end Go.Proofs.YtbnpleihhbpnlaaDoor
