/- strconv.ParseFloat of a number's text; wave.Number. -/
import Derived.Test.YtbnpleihhbpnlaaDoorWavS
namespace Go.Proofs.YtbnpleihhbpnlaaDoor
open Go.RowKit

theorem bool2_no (w : World) : Calls Tryd.prog 61 #[.bool false] w fun e w' => e = .returned (.int .u64 0) ∧ w = w' := by
  go_enter Tryd.func61, Tryd.ntmps61
  go_wp2
  go_ret
  exact ⟨rfl, rfl⟩
theorem sfrombits (v : Int) (w : World) : (callFunc 62 #[.int .u64 v]).run Tryd.prog w = .ok (.value (.float .f64 v.toNat)) w := by
  rw [run_callFunc_extern Tryd.func62 (by kernel_rfl) (by kernel_rfl) (by kernel_rfl) (e := Extern.MathFloatBits.float64frombits) (by kernel_rfl)]
  rfl
theorem rat_none : ∀ k, k < 23 → ratF 0 k = 0 := by decide +kernel
theorem numT_k {s : ByteArray} {n : Nat} (h : NumT s n) : s.size - n - 1 < 15 ∧ valN s.data.toList < 1000000000000000 := by
  have hp := h.pos
  refine ⟨by rcases h.cnt with ⟨_, _⟩ | ⟨_, _⟩ <;> omega, ?_⟩
  have key : ∀ k, k ≤ s.size → valN (s.data.toList.take k) < 10 ^ (k - (if n < k then 1 else 0)) := by
    intro k hk
    induction k with
    | zero => rw [if_neg (by omega)]; exact (by decide : (0 : Nat) < 10 ^ (0 - 0))
    | succ k ih =>
      have i := ih (by omega)
      rw [valN_add (by omega)]
      unfold val1
      by_cases e : k = n
      · subst e
        rw [if_pos (h.dot (by omega)), if_pos (by omega)]
        rw [if_neg (by omega)] at i
        exact i
      · have hd := h.dig k (by omega) e
        obtain ⟨d1, d2⟩ := digit_range hd
        rw [if_neg (by omega)]
        by_cases hnk : n < k
        · rw [if_pos hnk] at i
          rw [if_pos (by omega), show k + 1 - 1 = (k - 1) + 1 from by omega, Nat.pow_succ]
          omega
        · rw [if_neg hnk] at i
          rw [if_neg (by omega), show k + 1 - 0 = (k - 0) + 1 from by omega, Nat.pow_succ]
          omega
  have := key s.size (Nat.le_refl _)
  rw [take_all] at this
  refine Nat.lt_of_lt_of_le this ?_
  have e : (1000000000000000 : Nat) = 10 ^ 15 := by decide
  rw [e]
  refine Nat.pow_le_pow_right (by decide) ?_
  rcases h.cnt with ⟨e1, _⟩ | ⟨e1, _⟩
  · rw [if_neg (by omega)]; omega
  · rw [if_pos (by omega)]; omega
/-- What the reading of a number hands back. -/
def AtofOut (s : ByteArray) (n : Nat) (w : World) (e : Ending) (w' : World) : Prop := ∃ r, e = .returned (.tuple #[.float .f64 r, .int .i64 s.size, .nilIface]) ∧ EqN r (ratF (valN s.data.toList) (s.size - n - 1)) ∧ ∃ d, w' = w.drewN d
set_option maxRecDepth 100000 in
set_option maxHeartbeats 2000000 in
theorem atof64_any (s : ByteArray) (n : Nat) (w : World) (hN : NumT s n) (hF : FloatMem w) : Calls Tryd.prog 48 #[.string s] w (AtofOut s n w) := by
  have hs1 : 0 < s.size := by have := hN.pos; have := hN.le; omega
  have hd0 := hN.dig 0 hs1 (by have := hN.pos; omega)
  have HS := fun W => Lib.hid (special_any s W hs1 hd0)
  have HR := fun W => Lib.hid (readFloat_any s n W hN)
  have HB := fun W => Lib.hid (bool2_no W)
  have hfb := sfrombits
  have g2 := hF.2.1
  obtain ⟨hk, hm⟩ := numT_k hN
  have HX := Lib.hid (exact_any (valN s.data.toList) (s.size - n - 1) w (by omega) (by omega) hF)
  have HZ := Lib.hid (rat_none (s.size - n - 1) (by omega))
  have HA : Hid (AtofOut s n w = fun e w' => ∃ r, e = .returned (.tuple #[.float .f64 r, .int .i64 s.size, .nilIface]) ∧ EqN r (ratF (valN s.data.toList) (s.size - n - 1)) ∧ ∃ d, w' = w.drewN d) := rfl
  have hE : valN s.data.toList = 0 ∨ (expV s n = -((s.size - n - 1 : Nat) : Int) ∧ ¬ valN s.data.toList = 0) := by
    unfold expV
    by_cases h : valN s.data.toList = 0
    · exact .inl h
    · rw [if_neg h]; exact .inr ⟨rfl, h⟩
  unfold RFOut at HR
  clear hN hF hd0
  generalize valN s.data.toList = m at *
  generalize s.size - n - 1 = k at *
  generalize expV s n = x at *
  rcases hE with rfl | ⟨rfl, hm0⟩
  · go_enter Tryd.func48, Tryd.ntmps48
    go_wp2_with (first
      | (go_at_call 52; refine ((HS _).out).mono ?_; rintro e w' ⟨rfl, rfl⟩)
      | (go_at_call 53; refine ((HR _).out).mono ?_; rintro e w' ⟨rfl, rfl⟩)
      | (go_at_call 61; refine ((HB _).out).mono ?_; rintro e w' ⟨rfl, rfl⟩))
    go_ret3
    rw [HA.out]
    exact ⟨0, rfl, by rw [HZ.out]; exact EqN.rfl_ _, 0, rfl⟩
  · have hm1 : ((m : Int) == 0) = false := by rw [beq_eq_false_iff_ne]; omega
    have hk1 : ¬ -(k : Int) < -345 := by omega
    have hk2 : ¬ 310 < -(k : Int) := by omega
    clear hm0 HZ
    go_enter Tryd.func48, Tryd.ntmps48
    go_wp2_with (first
      | (go_at_call 52; refine ((HS _).out).mono ?_; rintro e w' ⟨rfl, rfl⟩)
      | (go_at_call 53; refine ((HR _).out).mono ?_; rintro e w' ⟨rfl, rfl⟩)
      | (go_at_call 61; refine ((HB _).out).mono ?_; rintro e w' ⟨rfl, rfl⟩)
      | (go_at_call 63; refine (HX.out).mono ?_; rintro e w' ⟨r, rfl, hr, d, rfl⟩; replace hr := Lib.hid hr))
    go_ret3
    rw [HA.out]
    exact ⟨r, rfl, hr.out, d, rfl⟩
set_option maxRecDepth 100000 in
set_option maxHeartbeats 2000000 in
theorem prefix_any (s : ByteArray) (n : Nat) (w : World) (hN : NumT s n) (hF : FloatMem w) : Calls Tryd.prog 42 #[.string s, .int .i64 64] w (AtofOut s n w) := by
  have HX := Lib.hid (atof64_any s n w hN hF)
  clear hN hF
  go_enter Tryd.func42, Tryd.ntmps42
  go_wp2_with (go_at_call 48; refine (HX.out).mono ?_; rintro e w' ⟨r, rfl, hr, d, rfl⟩; replace hr := Lib.hid hr)
  go_ret3
  exact ⟨r, rfl, hr.out, d, rfl⟩
def ParseOut (s : ByteArray) (n : Nat) (w : World) (e : Ending) (w' : World) : Prop := ∃ r, e = .returned (.tuple #[.float .f64 r, .nilIface]) ∧ EqN r (ratF (valN s.data.toList) (s.size - n - 1)) ∧ ∃ d, w' = w.drewN d
set_option maxRecDepth 100000 in
set_option maxHeartbeats 2000000 in
theorem parseI_any (s : ByteArray) (n : Nat) (w : World) (hN : NumT s n) (hF : FloatMem w) : Calls Tryd.prog 38 #[.string s, .int .i64 64] w (ParseOut s n w) := by
  have HX := Lib.hid (prefix_any s n w hN hF)
  clear hN hF
  go_enter Tryd.func38, Tryd.ntmps38
  go_wp2_with (go_at_call 42; refine (HX.out).mono ?_; rintro e w' ⟨r, rfl, hr, d, rfl⟩; replace hr := Lib.hid hr)
  go_ret2
  exact ⟨r, rfl, hr.out, d, rfl⟩
set_option maxRecDepth 100000 in
set_option maxHeartbeats 2000000 in
theorem parse_any (s : ByteArray) (n : Nat) (w : World) (hN : NumT s n) (hF : FloatMem w) : Calls Tryd.prog 33 #[.string s, .int .i64 64] w (ParseOut s n w) := by
  have HX := Lib.hid (parseI_any s n w hN hF)
  clear hN hF
  go_enter Tryd.func33, Tryd.ntmps33
  go_wp2_with (go_at_call 38; refine (HX.out).mono ?_; rintro e w' ⟨r, rfl, hr, d, rfl⟩; replace hr := Lib.hid hr)
  go_ret2
  exact ⟨r, rfl, hr.out, d, rfl⟩
/-- The word of a number's text. -/
def numV (s : ByteArray) : Nat := if numB s.data.toList = true then ratF (valN s.data.toList) (s.size - digN s.data.toList - 1) else 0
def NumberOut (s : ByteArray) (w : World) (e : Ending) (w' : World) : Prop := e = .returned (.tuple #[.int .u64 (numV s), .bool (numB s.data.toList)]) ∧ ∃ d, w' = w.drewN d
set_option maxRecDepth 100000 in
set_option maxHeartbeats 2000000 in
theorem numberW_any (s : ByteArray) (w : World) (hs : s.size ≤ 140737488355328) (hF : FloatMem w) : Calls Tryd.prog 23 #[.string s] w (NumberOut s w) := by
  have HI := fun W => Lib.hid (number_any s W hs)
  have HT := fun v W => Lib.hid (to_any v W)
  have HO : Hid (NumberOut s w = fun e w' => e = .returned (.tuple #[.int .u64 (numV s), .bool (numB s.data.toList)]) ∧ ∃ d, w' = w.drewN d) := rfl
  cases hb : numB s.data.toList with
  | true =>
    have hv : numV s = ratF (valN s.data.toList) (s.size - digN s.data.toList - 1) := by unfold numV; rw [if_pos hb]
    have HV := Lib.hid hv
    have HX := Lib.hid (parse_any s _ w (numT_of hb) hF)
    rw [hb] at HI HO
    clear hb hF hv hs
    go_enter Tryd.func23, Tryd.ntmps23
    go_wp2_with (first
      | (go_at_call 32; refine ((HI _).out).mono ?_; rintro e w' ⟨rfl, rfl⟩)
      | (go_at_call 33; refine (HX.out).mono ?_; rintro e w' ⟨r, rfl, hr, d, rfl⟩; replace hr := Lib.hid (eqN_toN.1 hr))
      | (go_at_call 22; refine ((HT _ _).out).mono ?_; rintro e w' ⟨rfl, rfl⟩))
    go_ret2
    rw [HO.out]
    refine ⟨?_, d, rfl⟩
    have e1 := hr.out
    unfold ratF at e1
    rw [toN_opF] at e1
    rw [HV.out]
    unfold ratF
    rw [← e1]
    rfl
  | false =>
    have hv : numV s = 0 := by unfold numV; rw [if_neg (by rw [hb]; decide)]
    have HV := Lib.hid hv
    rw [hb] at HI HO
    clear hb hF hv hs
    go_enter Tryd.func23, Tryd.ntmps23
    go_wp2_with (go_at_call 32; refine ((HI _).out).mono ?_; rintro e w' ⟨rfl, rfl⟩)
    go_ret2
    rw [HO.out, HV.out]
    exact ⟨rfl, 0, rfl⟩
end Go.Proofs.YtbnpleihhbpnlaaDoor
