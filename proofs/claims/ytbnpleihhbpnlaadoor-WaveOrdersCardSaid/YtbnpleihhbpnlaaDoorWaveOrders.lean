/- WaveOrders: comparisons are opposites of each other, but where one side is no number. -/
import Derived.Test.YtbnpleihhbpnlaaDoorWavW
import Derived.Test.YtbnpleihhbpnlaaDoorBlk
namespace Go.Proofs.YtbnpleihhbpnlaaDoor
open Go.RowKit

theorem order_nan (x y : Nat) : Ieee.double.order x y = none ↔ (nanN x || nanN y) = true := by
  have h : (Ieee.double.order x y).isSome = (!nanN x && !nanN y) := by
    unfold Ieee.Format.order
    rw [order_isSome, read_nan, read_nan]
  cases ho : Ieee.double.order x y with
  | none => rw [ho] at h; cases hx : nanN x <;> cases hy : nanN y <;> rw [hx, hy] at h <;> simp_all
  | some o => rw [ho] at h; cases hx : nanN x <;> cases hy : nanN y <;> rw [hx, hy] at h <;> simp_all
theorem toN_is (x : Nat) : (((toN x : Nat) : Int) == 9221120237041090560) = nanN x := by
  unfold toN
  by_cases h : nanN x = true
  · rw [if_pos h, h]; rfl
  · rw [if_neg h]
    have : x ≠ nanW := by rintro rfl; exact h nan_nanW
    unfold nanW at this
    rw [show nanN x = false by simpa using h, beq_eq_false_iff_ne]
    omega
/-- The six comparisons, of two that stand so. -/
def six : Option Ordering → List Bool
  | none => [false, true, false, false, false, false]
  | some .lt => [false, true, true, true, false, false]
  | some .eq => [true, false, false, true, false, true]
  | some .gt => [false, true, false, false, true, true]
theorem six_at {x y k : Nat} (hk : k < 6) : (six (Ieee.double.order x y))[k]? = some (compareV (5 + (k : Int)) x y) ∧ compareOk (5 + (k : Int)) = true := by
  have h : k = 0 ∨ k = 1 ∨ k = 2 ∨ k = 3 ∨ k = 4 ∨ k = 5 := by omega
  rcases h with rfl | rfl | rfl | rfl | rfl | rfl <;> (refine ⟨?_, by decide⟩; simp only [compareV, eqF, leF, gtF]; cases Ieee.double.order x y with | none => rfl | some o => cases o <;> rfl)
theorem compare_six {x y : Int} {L : List Bool} (hL : six (Ieee.double.order x.toNat y.toNat) = L) {k : Nat} (hk : k < 6) {v : Bool} (hv : L[k]? = some v) (w : World) :
    Calls Tryd.prog 14 #[.int .i64 (5 + (k : Int)), .int .u64 x, .int .u64 y] w fun e w' => e = .returned (.tuple #[.bool v, .bool true]) ∧ w = w' := by
  refine (compare_any (5 + (k : Int)) x y w).mono ?_
  rintro e w' ⟨rfl, rfl⟩
  obtain ⟨h1, h2⟩ := six_at (x := x.toNat) (y := y.toNat) hk
  rw [hL, hv] at h1
  injection h1 with h1
  rw [h2, ← h1]
  exact ⟨rfl, rfl⟩
/-- The cells behind k rounds. -/
def sixC (L : List Bool) (k : Nat) : List Value := (List.range 6).map fun j => .bool (if j < k then L.getD j false else false)
theorem sixC_set {L : List Bool} {k : Nat} {v : Bool} (hk : k < 6) (hv : L[k]? = some v) : (sixC L k).set k (.bool v) = sixC L (k + 1) := by
  apply List.ext_getElem?
  intro j
  unfold sixC
  rw [List.getElem?_set]
  by_cases hj : j < 6
  · rw [List.getElem?_map, List.getElem?_map, List.getElem?_range hj]
    by_cases e : k = j
    · subst e
      rw [if_pos rfl, if_pos (by simpa using hj)]
      simp [List.getD, hv]
    · rw [if_neg e]
      have : (j < k) = (j < k + 1) := propext ⟨fun h => by omega, fun h => by omega⟩
      simp [this]
  · rw [List.getElem?_eq_none (by simpa using hj), List.getElem?_eq_none (by simpa using hj), if_neg (by omega)]
set_option maxRecDepth 100000 in
set_option maxHeartbeats 4000000 in
theorem orders_none (a b : Int) (w : World) (hF : FloatMem w) (hn : (nanN a.toNat || nanN b.toNat) = true) (hL : six (Ieee.double.order a.toNat b.toNat) = [false,true,false,false,false,false]) :
    Calls Tryd.prog 4 #[.int .u64 a, .int .u64 b] w fun e w' => e = .returned (.bool true) ∧ Below w.heap.size w w' := by
  have HC := fun k (hk : k < 6) v (hv : ([false,true,false,false,false,false] : List Bool)[k]? = some v) W => Lib.hid (compare_six hL hk hv W)
  have HN := fun v W => Lib.hid (normal_any v W)
  have t1 := toN_is a.toNat
  have t2 := toN_is b.toNat
  have HF := Lib.hid hF
  have Hn := Lib.hid hn
  clear hF hL hn
  generalize nanN a.toNat = na at *
  generalize nanN b.toNat = nb at *
  go_enter Tryd.func4, Tryd.ntmps4
  go_wp2_with fail
  go_loopw [6] (fun i wr => ∃ k : Nat, i = .int .i64 k ∧ k ≤ 6 ∧ Hid (Blk wr w.heap.size 37 (sixC [false,true,false,false,false,false] k) ∧ Below w.heap.size w wr)) (fun i _ => 6 - (intOf i).toNat)
  case atStart => exact ⟨0, rfl, by omega, Blk.new w _ _, (Below.refl _ _).alloc (Nat.le_refl _) _⟩
  case round =>
    obtain ⟨k, rfl, hk, HB⟩ := hrel
    obtain ⟨hB, hb⟩ := HB.out
    by_cases hlt : k < 6
    · obtain ⟨v, hv⟩ : ∃ v, ([false,true,false,false,false,false] : List Bool)[k]? = some v := ⟨_, List.getElem?_eq_getElem (by exact hlt)⟩
      have HCk := fun W => HC k hlt v hv W
      have hltI : (k : Int) < 6 := by omega
      have hw5 : IntKind.i64.wrap (5 + (k : Int)) = 5 + (k : Int) := by rw [IntKind.wrap_i64]; omega
      obtain ⟨u0, hu0⟩ : ∃ u0, (sixC [false,true,false,false,false,false] k)[k]? = some u0 := ⟨_, List.getElem?_eq_getElem (by unfold sixC; simpa using hlt)⟩
      have hc0 := hB.cell hu0
      have hf0 := hB.frozen k
      have HB2 := Lib.hid (sixC_set hlt hv ▸ hB.set k (.bool v))
      have Hb := Lib.hid hb
      have hsz := hB.lt
      clear HC HB hB hb hv hu0
      go_wp2_with (go_at_call 14; refine ((HCk _).out).mono ?_; rintro e w' ⟨rfl, rfl⟩)
      go_roundw
      case rel => exact ⟨k + 1, by go_num, by omega, HB2.out, Hb.out.setCell (Nat.le_refl _) _⟩
      case measure => simp [intOf]; omega
    · have hk6 : k = 6 := by omega
      subst hk6
      have c0 := hB.cell (j := 0) rfl
      have c1 := hB.cell (j := 1) rfl
      have c2 := hB.cell (j := 2) rfl
      have c3 := hB.cell (j := 3) rfl
      have c4 := hB.cell (j := 4) rfl
      have c5 := hB.cell (j := 5) rfl
      have Hb := Lib.hid hb
      have HA := Lib.hid (awake_any wr (HF.out.below hb))
      clear HC HB hB hb
      cases na
      all_goals cases nb
      all_goals first
        | (have hbad := Hn.out; exact absurd hbad (by decide))
        | (go_wp2_with (first
            | (go_at_call 15; refine ((HN _ _).out).mono ?_; rintro e w' ⟨rfl, rfl⟩)
            | (go_at_call 13; refine (HA.out).mono ?_; rintro e w' ⟨rfl, hb2⟩))
           go_ret
           exact ⟨rfl, Hb.out.trans (hb2.mono Hb.out.size)⟩)
set_option maxRecDepth 100000 in
set_option maxHeartbeats 4000000 in
theorem orders_lt (a b : Int) (w : World) (hF : FloatMem w) (hn : (nanN a.toNat || nanN b.toNat) = false) (hL : six (Ieee.double.order a.toNat b.toNat) = [false,true,true,true,false,false]) :
    Calls Tryd.prog 4 #[.int .u64 a, .int .u64 b] w fun e w' => e = .returned (.bool true) ∧ Below w.heap.size w w' := by
  have HC := fun k (hk : k < 6) v (hv : ([false,true,true,true,false,false] : List Bool)[k]? = some v) W => Lib.hid (compare_six hL hk hv W)
  have HN := fun v W => Lib.hid (normal_any v W)
  have t1 := toN_is a.toNat
  have t2 := toN_is b.toNat
  have HF := Lib.hid hF
  have Hn := Lib.hid hn
  clear hF hL hn
  generalize nanN a.toNat = na at *
  generalize nanN b.toNat = nb at *
  go_enter Tryd.func4, Tryd.ntmps4
  go_wp2_with fail
  go_loopw [6] (fun i wr => ∃ k : Nat, i = .int .i64 k ∧ k ≤ 6 ∧ Hid (Blk wr w.heap.size 37 (sixC [false,true,true,true,false,false] k) ∧ Below w.heap.size w wr)) (fun i _ => 6 - (intOf i).toNat)
  case atStart => exact ⟨0, rfl, by omega, Blk.new w _ _, (Below.refl _ _).alloc (Nat.le_refl _) _⟩
  case round =>
    obtain ⟨k, rfl, hk, HB⟩ := hrel
    obtain ⟨hB, hb⟩ := HB.out
    by_cases hlt : k < 6
    · obtain ⟨v, hv⟩ : ∃ v, ([false,true,true,true,false,false] : List Bool)[k]? = some v := ⟨_, List.getElem?_eq_getElem (by exact hlt)⟩
      have HCk := fun W => HC k hlt v hv W
      have hltI : (k : Int) < 6 := by omega
      have hw5 : IntKind.i64.wrap (5 + (k : Int)) = 5 + (k : Int) := by rw [IntKind.wrap_i64]; omega
      obtain ⟨u0, hu0⟩ : ∃ u0, (sixC [false,true,true,true,false,false] k)[k]? = some u0 := ⟨_, List.getElem?_eq_getElem (by unfold sixC; simpa using hlt)⟩
      have hc0 := hB.cell hu0
      have hf0 := hB.frozen k
      have HB2 := Lib.hid (sixC_set hlt hv ▸ hB.set k (.bool v))
      have Hb := Lib.hid hb
      have hsz := hB.lt
      clear HC HB hB hb hv hu0
      go_wp2_with (go_at_call 14; refine ((HCk _).out).mono ?_; rintro e w' ⟨rfl, rfl⟩)
      go_roundw
      case rel => exact ⟨k + 1, by go_num, by omega, HB2.out, Hb.out.setCell (Nat.le_refl _) _⟩
      case measure => simp [intOf]; omega
    · have hk6 : k = 6 := by omega
      subst hk6
      have c0 := hB.cell (j := 0) rfl
      have c1 := hB.cell (j := 1) rfl
      have c2 := hB.cell (j := 2) rfl
      have c3 := hB.cell (j := 3) rfl
      have c4 := hB.cell (j := 4) rfl
      have c5 := hB.cell (j := 5) rfl
      have Hb := Lib.hid hb
      have HA := Lib.hid (awake_any wr (HF.out.below hb))
      clear HC HB hB hb
      cases na
      all_goals cases nb
      all_goals first
        | (have hbad := Hn.out; exact absurd hbad (by decide))
        | (go_wp2_with (first
            | (go_at_call 15; refine ((HN _ _).out).mono ?_; rintro e w' ⟨rfl, rfl⟩)
            | (go_at_call 13; refine (HA.out).mono ?_; rintro e w' ⟨rfl, hb2⟩))
           go_ret
           exact ⟨rfl, Hb.out.trans (hb2.mono Hb.out.size)⟩)
set_option maxRecDepth 100000 in
set_option maxHeartbeats 4000000 in
theorem orders_eq (a b : Int) (w : World) (hF : FloatMem w) (hn : (nanN a.toNat || nanN b.toNat) = false) (hL : six (Ieee.double.order a.toNat b.toNat) = [true,false,false,true,false,true]) :
    Calls Tryd.prog 4 #[.int .u64 a, .int .u64 b] w fun e w' => e = .returned (.bool true) ∧ Below w.heap.size w w' := by
  have HC := fun k (hk : k < 6) v (hv : ([true,false,false,true,false,true] : List Bool)[k]? = some v) W => Lib.hid (compare_six hL hk hv W)
  have HN := fun v W => Lib.hid (normal_any v W)
  have t1 := toN_is a.toNat
  have t2 := toN_is b.toNat
  have HF := Lib.hid hF
  have Hn := Lib.hid hn
  clear hF hL hn
  generalize nanN a.toNat = na at *
  generalize nanN b.toNat = nb at *
  go_enter Tryd.func4, Tryd.ntmps4
  go_wp2_with fail
  go_loopw [6] (fun i wr => ∃ k : Nat, i = .int .i64 k ∧ k ≤ 6 ∧ Hid (Blk wr w.heap.size 37 (sixC [true,false,false,true,false,true] k) ∧ Below w.heap.size w wr)) (fun i _ => 6 - (intOf i).toNat)
  case atStart => exact ⟨0, rfl, by omega, Blk.new w _ _, (Below.refl _ _).alloc (Nat.le_refl _) _⟩
  case round =>
    obtain ⟨k, rfl, hk, HB⟩ := hrel
    obtain ⟨hB, hb⟩ := HB.out
    by_cases hlt : k < 6
    · obtain ⟨v, hv⟩ : ∃ v, ([true,false,false,true,false,true] : List Bool)[k]? = some v := ⟨_, List.getElem?_eq_getElem (by exact hlt)⟩
      have HCk := fun W => HC k hlt v hv W
      have hltI : (k : Int) < 6 := by omega
      have hw5 : IntKind.i64.wrap (5 + (k : Int)) = 5 + (k : Int) := by rw [IntKind.wrap_i64]; omega
      obtain ⟨u0, hu0⟩ : ∃ u0, (sixC [true,false,false,true,false,true] k)[k]? = some u0 := ⟨_, List.getElem?_eq_getElem (by unfold sixC; simpa using hlt)⟩
      have hc0 := hB.cell hu0
      have hf0 := hB.frozen k
      have HB2 := Lib.hid (sixC_set hlt hv ▸ hB.set k (.bool v))
      have Hb := Lib.hid hb
      have hsz := hB.lt
      clear HC HB hB hb hv hu0
      go_wp2_with (go_at_call 14; refine ((HCk _).out).mono ?_; rintro e w' ⟨rfl, rfl⟩)
      go_roundw
      case rel => exact ⟨k + 1, by go_num, by omega, HB2.out, Hb.out.setCell (Nat.le_refl _) _⟩
      case measure => simp [intOf]; omega
    · have hk6 : k = 6 := by omega
      subst hk6
      have c0 := hB.cell (j := 0) rfl
      have c1 := hB.cell (j := 1) rfl
      have c2 := hB.cell (j := 2) rfl
      have c3 := hB.cell (j := 3) rfl
      have c4 := hB.cell (j := 4) rfl
      have c5 := hB.cell (j := 5) rfl
      have Hb := Lib.hid hb
      have HA := Lib.hid (awake_any wr (HF.out.below hb))
      clear HC HB hB hb
      cases na
      all_goals cases nb
      all_goals first
        | (have hbad := Hn.out; exact absurd hbad (by decide))
        | (go_wp2_with (first
            | (go_at_call 15; refine ((HN _ _).out).mono ?_; rintro e w' ⟨rfl, rfl⟩)
            | (go_at_call 13; refine (HA.out).mono ?_; rintro e w' ⟨rfl, hb2⟩))
           go_ret
           exact ⟨rfl, Hb.out.trans (hb2.mono Hb.out.size)⟩)
set_option maxRecDepth 100000 in
set_option maxHeartbeats 4000000 in
theorem orders_gt (a b : Int) (w : World) (hF : FloatMem w) (hn : (nanN a.toNat || nanN b.toNat) = false) (hL : six (Ieee.double.order a.toNat b.toNat) = [false,true,false,false,true,true]) :
    Calls Tryd.prog 4 #[.int .u64 a, .int .u64 b] w fun e w' => e = .returned (.bool true) ∧ Below w.heap.size w w' := by
  have HC := fun k (hk : k < 6) v (hv : ([false,true,false,false,true,true] : List Bool)[k]? = some v) W => Lib.hid (compare_six hL hk hv W)
  have HN := fun v W => Lib.hid (normal_any v W)
  have t1 := toN_is a.toNat
  have t2 := toN_is b.toNat
  have HF := Lib.hid hF
  have Hn := Lib.hid hn
  clear hF hL hn
  generalize nanN a.toNat = na at *
  generalize nanN b.toNat = nb at *
  go_enter Tryd.func4, Tryd.ntmps4
  go_wp2_with fail
  go_loopw [6] (fun i wr => ∃ k : Nat, i = .int .i64 k ∧ k ≤ 6 ∧ Hid (Blk wr w.heap.size 37 (sixC [false,true,false,false,true,true] k) ∧ Below w.heap.size w wr)) (fun i _ => 6 - (intOf i).toNat)
  case atStart => exact ⟨0, rfl, by omega, Blk.new w _ _, (Below.refl _ _).alloc (Nat.le_refl _) _⟩
  case round =>
    obtain ⟨k, rfl, hk, HB⟩ := hrel
    obtain ⟨hB, hb⟩ := HB.out
    by_cases hlt : k < 6
    · obtain ⟨v, hv⟩ : ∃ v, ([false,true,false,false,true,true] : List Bool)[k]? = some v := ⟨_, List.getElem?_eq_getElem (by exact hlt)⟩
      have HCk := fun W => HC k hlt v hv W
      have hltI : (k : Int) < 6 := by omega
      have hw5 : IntKind.i64.wrap (5 + (k : Int)) = 5 + (k : Int) := by rw [IntKind.wrap_i64]; omega
      obtain ⟨u0, hu0⟩ : ∃ u0, (sixC [false,true,false,false,true,true] k)[k]? = some u0 := ⟨_, List.getElem?_eq_getElem (by unfold sixC; simpa using hlt)⟩
      have hc0 := hB.cell hu0
      have hf0 := hB.frozen k
      have HB2 := Lib.hid (sixC_set hlt hv ▸ hB.set k (.bool v))
      have Hb := Lib.hid hb
      have hsz := hB.lt
      clear HC HB hB hb hv hu0
      go_wp2_with (go_at_call 14; refine ((HCk _).out).mono ?_; rintro e w' ⟨rfl, rfl⟩)
      go_roundw
      case rel => exact ⟨k + 1, by go_num, by omega, HB2.out, Hb.out.setCell (Nat.le_refl _) _⟩
      case measure => simp [intOf]; omega
    · have hk6 : k = 6 := by omega
      subst hk6
      have c0 := hB.cell (j := 0) rfl
      have c1 := hB.cell (j := 1) rfl
      have c2 := hB.cell (j := 2) rfl
      have c3 := hB.cell (j := 3) rfl
      have c4 := hB.cell (j := 4) rfl
      have c5 := hB.cell (j := 5) rfl
      have Hb := Lib.hid hb
      have HA := Lib.hid (awake_any wr (HF.out.below hb))
      clear HC HB hB hb
      cases na
      all_goals cases nb
      all_goals first
        | (have hbad := Hn.out; exact absurd hbad (by decide))
        | (go_wp2_with (first
            | (go_at_call 15; refine ((HN _ _).out).mono ?_; rintro e w' ⟨rfl, rfl⟩)
            | (go_at_call 13; refine (HA.out).mono ?_; rintro e w' ⟨rfl, hb2⟩))
           go_ret
           exact ⟨rfl, Hb.out.trans (hb2.mono Hb.out.size)⟩)
theorem waveOrders_any (a b : Int) (w : World) (hF : FloatMem w) (_ : 0 ≤ a ∧ a < 18446744073709551616) (_ : 0 ≤ b ∧ b < 18446744073709551616) : Calls Tryd.prog 4 #[.int .u64 a, .int .u64 b] w fun e w' => e = .returned (.bool true) ∧ Below w.heap.size w w' := by
  have hn := order_nan a.toNat b.toNat
  cases ho : Ieee.double.order a.toNat b.toNat with
  | none => exact orders_none a b w hF (hn.1 ho) (by rw [ho]; rfl)
  | some o =>
    have hf : (nanN a.toNat || nanN b.toNat) = false := by
      cases h : (nanN a.toNat || nanN b.toNat) with
      | false => rfl
      | true => rw [hn.2 h] at ho; cases ho
    cases o with
    | lt => exact orders_lt a b w hF hf (by rw [ho]; rfl)
    | eq => exact orders_eq a b w hF hf (by rw [ho]; rfl)
    | gt => exact orders_gt a b w hF hf (by rw [ho]; rfl)
end Go.Proofs.YtbnpleihhbpnlaaDoor
