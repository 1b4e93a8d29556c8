/- The document's wave.Number: the digits over the power of ten, nearest. -/
import Derived.Test.YtbnpleihhbpnlaaGreatDoorRefNum
import Derived.Test.YtbnpleihhbpnlaaGreatDoorWavX
import Derived.Test.YtbnpleihhbpnlaaGreatDoorWavT
namespace Go.Proofs.YtbnpleihhbpnlaaGreatDoor
open Go.RowKit

/-- Digits behind the point, of the first k bytes. -/
def tenN (n k : Nat) : Nat := 10 ^ (k - n - 1)
theorem tenN_dot {n k : Nat} (e : k = n) : tenN n (k + 1) = tenN n k := by subst e; unfold tenN; rw [show k + 1 - k - 1 = 0 from by omega, show k - k - 1 = 0 from by omega]
theorem tenN_no {n k : Nat} (h : k < n) : tenN n (k + 1) = tenN n k := by unfold tenN; rw [show k + 1 - n - 1 = 0 from by omega, show k - n - 1 = 0 from by omega]
theorem tenN_yes {n k : Nat} (h : n < k) : tenN n (k + 1) = 10 * tenN n k := by unfold tenN; rw [show k + 1 - n - 1 = (k - n - 1) + 1 from by omega, Nat.pow_succ, Nat.mul_comm]
theorem valN_lt {s : ByteArray} {n k : Nat} (h : NumT s n) (hk : k ≤ s.size) : valN (s.data.toList.take k) < 1000000000000000 := by
  have key : ∀ k, k ≤ s.size → valN (s.data.toList.take k) < 10 ^ (k - (if n < k then 1 else 0)) := by
    intro k hk
    have hp := h.pos
    induction k with
    | zero => rw [if_neg (by omega)]; exact (by decide : (0 : Nat) < 10 ^ (0 - 0))
    | succ k ih =>
      have i := ih (by omega)
      rw [valN_add (by omega)]
      unfold val1
      by_cases e : k = n
      · subst e
        rw [if_pos (h.dot (by omega)), if_pos (by omega)]
        rw [if_neg (by omega)] at i
        exact i
      · have hd := h.dig k (by omega) e
        obtain ⟨d1, d2⟩ := digit_range hd
        rw [if_neg (by omega)]
        by_cases hnk : n < k
        · rw [if_pos hnk] at i
          rw [if_pos (by omega), show k + 1 - 1 = (k - 1) + 1 from by omega, Nat.pow_succ]
          omega
        · rw [if_neg hnk] at i
          rw [if_neg (by omega), show k + 1 - 0 = (k - 0) + 1 from by omega, Nat.pow_succ]
          omega
  refine Nat.lt_of_lt_of_le (key k hk) ?_
  have e : (1000000000000000 : Nat) = 10 ^ 15 := by decide
  rw [e]
  refine Nat.pow_le_pow_right (by decide) ?_
  rcases h.cnt with ⟨e1, _⟩ | ⟨e1, _⟩
  · rw [if_neg (by omega)]; omega
  · split <;> omega
theorem tenN_lt {n k : Nat} (h : k - n - 1 ≤ 15) : tenN n k ≤ 1000000000000000 := by
  have e : (1000000000000000 : Nat) = 10 ^ 15 := by decide
  rw [e]
  exact Nat.pow_le_pow_right (by decide) h
set_option maxRecDepth 100000 in
set_option maxHeartbeats 2000000 in
theorem rnumW_any (s : ByteArray) (w : World) (hs : s.size ≤ 140737488355328) : Calls Tryz.prog 19 #[.string s] w (NumberOut s w) := by
  have HI := fun W => Lib.hid (rnumber_any s W hs)
  have HT := fun v W => Lib.hid (b21_any v W)
  have hQ := fun t x y W => run_float (P := Tryz.prog) .quo rfl t x y W
  have HO : Hid (NumberOut s w = fun e w' => e = .returned (.tuple #[.int .u64 (numV s), .bool (numB s.data.toList)]) ∧ ∃ d, w' = w.drewN d) := rfl
  cases hb : numB s.data.toList with
  | true =>
    have hv : numV s = ratF (valN s.data.toList) (s.size - digN s.data.toList - 1) := by unfold numV; rw [if_pos hb]
    have HV := Lib.hid hv
    have hN := numT_of hb
    rw [hb] at HI HO
    obtain ⟨n, hn⟩ : ∃ n, digN s.data.toList = n := ⟨_, rfl⟩
    rw [hn] at hN HV
    clear hb hv hs hn
    have hsz : s.size ≤ 16 := by rcases hN.cnt with ⟨_, _⟩ | ⟨_, _⟩ <;> omega
    have HN := Lib.hid hN
    clear hN
    go_enter Tryz.func19, Tryz.ntmps19
    go_wp2_with (go_at_call 37; refine ((HI _).out).mono ?_; rintro e w' ⟨rfl, rfl⟩)
    go_loop [7, 4, 5, 6] (fun i m t d => ∃ (k mm tt : Nat) (dot : Bool), i = .int .i64 k ∧ m = .int .u64 mm ∧ t = .int .u64 tt ∧ d = .bool dot ∧ k ≤ s.size ∧ Hid (mm = valN (s.data.toList.take k) ∧ tt = tenN n k ∧ dot = decide (n < k))) (fun i _ _ _ => s.size - (intOf i).toNat)
    case atStart => exact ⟨0, 0, 1, false, rfl, rfl, rfl, rfl, by omega, rfl, by show 1 = 10 ^ (0 - n - 1); rw [show 0 - n - 1 = 0 from by omega], (decide_eq_false (by omega)).symm⟩
    case round =>
      obtain ⟨k, m, t, dot, rfl, rfl, rfl, rfl, hk, HR⟩ := hrel
      by_cases hlt : k < s.size
      · have hltI : (k : Int) < s.size := by omega
        have hk1 : IntKind.i64.wrap ((k : Int) + 1) = ((k + 1 : Nat) : Int) := by rw [IntKind.wrap_i64]; omega
        have hv := valN_add hlt
        by_cases e : k = n
        · have h46 := HN.out.dot (by omega)
          have h46I : ((s[k].toNat : Int) == 46) = true := by subst e; rw [h46]; rfl
          have HR2 : Hid (m = valN (s.data.toList.take (k + 1)) ∧ t = tenN n (k + 1) ∧ true = decide (n < k + 1)) := by
            refine ⟨?_, ?_, (decide_eq_true (by omega)).symm⟩
            · rw [hv, ← HR.out.1]; unfold val1; subst e; rw [if_pos h46]
            · rw [tenN_dot e]; exact HR.out.2.1
          clear h46 e hv
          go_wp2_with fail
          go_round
          case rel => exact ⟨k + 1, m, t, true, rfl, rfl, rfl, rfl, by omega, HR2⟩
          case measure => simp [intOf]; omega
        · have hd := HN.out.dig k hlt e
          obtain ⟨d1, d2⟩ := digit_range hd
          have h46I : ((s[k].toNat : Int) == 46) = false := by rw [beq_eq_false_iff_ne]; omega
          have hm := HR.out.1 ▸ valN_lt HN.out hk
          have ht : t ≤ 1000000000000000 := HR.out.2.1 ▸ tenN_lt (by omega)
          obtain ⟨c, hc⟩ : ∃ c, s[k].toNat - 48 = c := ⟨_, rfl⟩
          have hw1 : IntKind.u64.wrap (10 * (m : Int)) = 10 * (m : Int) := by rw [IntKind.wrap_u64]; omega
          have hw2 : IntKind.u8.wrap ((s[k].toNat : Int) - 48) = (c : Int) := by rw [IntKind.wrap_u8']; omega
          have hw3 : IntKind.u64.wrap (c : Int) = (c : Int) := by rw [IntKind.wrap_u64]; omega
          have hw4 : IntKind.u64.wrap (10 * (m : Int) + (c : Int)) = ((10 * m + c : Nat) : Int) := by rw [IntKind.wrap_u64]; omega
          have hw5 : IntKind.u64.wrap (10 * (t : Int)) = ((10 * t : Nat) : Int) := by rw [IntKind.wrap_u64]; omega
          have hv2 : 10 * m + c = valN (s.data.toList.take (k + 1)) := by
            rw [hv, ← HR.out.1]; unfold val1; rw [if_neg (by omega), hc]
          have HV2 := Lib.hid hv2
          by_cases hnk : n < k
          · have hdot : dot = true := by rw [HR.out.2.2]; exact decide_eq_true hnk
            have HT2 : Hid (10 * t = tenN n (k + 1)) := by show _ = _; rw [tenN_yes hnk, ← HR.out.2.1]
            have HD2 : Hid (true = decide (n < k + 1)) := (decide_eq_true (by omega)).symm
            subst hdot
            clear hv hv2 HR hd e hc hnk hm ht
            go_wp2_with fail
            go_round
            case rel => exact ⟨k + 1, 10 * m + c, 10 * t, true, rfl, rfl, rfl, rfl, by omega, HV2.out, HT2.out, HD2.out⟩
            case measure => simp [intOf]; omega
          · have hdot : dot = false := by rw [HR.out.2.2]; exact decide_eq_false hnk
            have HT2 : Hid (t = tenN n (k + 1)) := by show _ = _; rw [tenN_no (by omega), ← HR.out.2.1]
            have HD2 : Hid (false = decide (n < k + 1)) := (decide_eq_false (by omega)).symm
            subst hdot
            clear hv hv2 HR hd e hc hnk hm ht
            go_wp2_with fail
            go_round
            case rel => exact ⟨k + 1, 10 * m + c, t, false, rfl, rfl, rfl, rfl, by omega, HV2.out, HT2.out, HD2.out⟩
            case measure => simp [intOf]; omega
      · have hks : k = s.size := by omega
        subst hks
        have hm := HR.out.1
        rw [take_all] at hm
        have hfl : ∀ x : Nat, floatOfInt .f64 (x : Int) = Ieee.double.nearest false x 0 := fun x => by
          show Ieee.double.nearest (decide ((x : Int) < 0)) (x : Int).natAbs 0 = _
          rw [Int.natAbs_natCast, show decide ((x : Int) < 0) = false from decide_eq_false (by omega)]
        have HE : Hid (opF .quo (Ieee.double.nearest false m 0) (Ieee.double.nearest false t 0) = numV s) := by
          show _ = _
          rw [HV.out, hm, HR.out.2.1]; rfl
        clear hm HR hlt
        go_wp2_with (first
          | (go_at_call 15; refine ((HT _ _).out).mono ?_; rintro e w' ⟨rfl, rfl⟩)
          | simp only [hQ])
        go_ret2
        rw [HO.out]
        refine ⟨?_, _, rfl⟩
        rw [← HE.out, to_raw]
        rfl
  | false =>
    have hv : numV s = 0 := by unfold numV; rw [if_neg (by rw [hb]; decide)]
    have HV := Lib.hid hv
    rw [hb] at HI HO
    clear hb hv hs
    go_enter Tryz.func19, Tryz.ntmps19
    go_wp2_with (go_at_call 37; refine ((HI _).out).mono ?_; rintro e w' ⟨rfl, rfl⟩)
    go_ret2
    rw [HO.out, HV.out]
    exact ⟨rfl, 0, rfl⟩
end Go.Proofs.YtbnpleihhbpnlaaGreatDoor
