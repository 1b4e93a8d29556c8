/- internal/strconv.readFloat of a number's text, walked. -/
import Derived.Test.YtbnpleihhbpnlaaDoorWavR
import Derived.Deep.DeepCutAuto
namespace Go.Proofs.YtbnpleihhbpnlaaDoor
open Go.RowKit

theorem lower_any (c : Int) (w : World) : Calls Tryd.prog 69 #[.int .u8 c] w fun e w' => e = .returned (.int .u8 (bits .or .u8 c 32)) ∧ w = w' := by
  go_enter Tryd.func69, Tryd.ntmps69
  go_wp2
  go_ret
  exact ⟨rfl, rfl⟩
theorem lower_no {c : UInt8} (h : c.toNat ≤ 57) : (bits .or .u8 (c.toNat : Int) 32 == 120) = false := by
  rw [show (32 : Int) = ((32 : Nat) : Int) from rfl, u8_or_nat _ _ (by omega) (by decide), beq_eq_false_iff_ne]
  have : ∀ n : Nat, n < 58 → ((n ||| 32 : Nat) : Int) ≠ 120 := by decide
  exact this _ (by omega)
theorem results_tmp7 {fn : Func} {a b c d e f g : Tmp} (h : fn.results = #[.tmp a, .tmp b, .tmp c, .tmp d, .tmp e, .tmp f, .tmp g]) (tmps : Array Value) (P : Program) (w : World) :
    (results fn tmps).run P w = .ok (.tuple #[tmps.getD a undef, tmps.getD b undef, tmps.getD c undef, tmps.getD d undef, tmps.getD e undef, tmps.getD f undef, tmps.getD g undef]) w := by
  simp [results, h]
/-- What readFloat hands back. -/
def RFOut (s : ByteArray) (n : Nat) (w : World) (e : Ending) (w' : World) : Prop :=
  e = .returned (.tuple #[.int .u64 (valN s.data.toList), .int .i64 (expV s n), .bool false, .bool false, .bool false, .int .i64 s.size, .bool true]) ∧ w = w'
set_option maxRecDepth 100000 in
set_option maxHeartbeats 4000000 in
theorem readFloat_any (s : ByteArray) (n : Nat) (w : World) (hN : NumT s n) : Calls Tryd.prog 53 #[.string s] w (RFOut s n w) := by
  have hs1 : 0 < s.size := by have := hN.pos; have := hN.le; omega
  have hsz : s.size ≤ 16 := by rcases hN.cnt with ⟨_, _⟩ | ⟨_, _⟩ <;> omega
  have hs1I : (0 : Int) < s.size := by omega
  have hz : ¬ (s.size : Int) ≤ 0 := by omega
  have he : ¬ s = ByteArray.empty := by rintro rfl; exact absurd hs1 (by decide)
  have hd0 := hN.dig 0 hs1 (by have := hN.pos; omega)
  have a1 : (48 : Int) ≤ s[0].toNat := by unfold dchar at hd0; simp at hd0; omega
  have a2 : (s[0].toNat : Int) ≤ 57 := by unfold dchar at hd0; simp at hd0; omega
  have h43 : ((s[0].toNat : Int) == 43) = false := by rw [beq_eq_false_iff_ne]; omega
  have h45 : ((s[0].toNat : Int) == 45) = false := by rw [beq_eq_false_iff_ne]; omega
  have HL := fun c W => Lib.hid (lower_any c W)
  have HN := Lib.hid hN
  clear hN hd0
  go_enter Tryd.func53, Tryd.ntmps53
  go_wp2_with fail
  go_step3
  go_upto_region 12 with fail
  go_cut [54] (fun v wx => v = .bool false ∧ wx = w)
  case first =>
    by_cases h2 : 2 < s.size
    · have h2I : (2 : Int) < (s.size : Int) := by omega
      have h1I : (1 : Int) < (s.size : Int) := by omega
      have hl1 : (bits .or .u8 (s[1].toNat : Int) 32 == 120) = false := lower_no (by
        by_cases h1 : 1 = n
        · subst h1; rw [HN.out.dot (by omega)]; decide
        · have := HN.out.dig 1 (by omega) h1
          unfold dchar at this
          simp at this
          omega)
      cases h48 : ((s[0].toNat : Int) == 48)
      all_goals
        go_wp2_with (go_at_call 69; refine ((HL _ _).out).mono ?_; rintro e w' ⟨rfl, rfl⟩)
        go_meet
        exact ⟨rfl, rfl⟩
    · have h2I : ¬ (2 : Int) < (s.size : Int) := by omega
      go_wp2_with fail
      go_meet
      exact ⟨rfl, rfl⟩
  case rest =>
    obtain ⟨rfl, rfl⟩ := hcut
    go_wp2_with fail
    clear a1 a2 h43 h45
    go_step3
    go_wp2_with fail
    go_loop [5, 9, 7, 2, 13, 14, 15, 16, 17] (fun tr us i m d g nd nm dp => ∃ (k mm nn : Nat) (dot : Bool) (dd : Int), tr = .bool false ∧ us = .bool false ∧ i = .int .i64 k ∧ m = .int .u64 mm ∧ d = .bool dot ∧ g = .bool (decide (0 < k)) ∧ nd = .int .i64 nn ∧ nm = .int .i64 nn ∧ dp = .int .i64 dd ∧ k ≤ s.size ∧ Hid (RFat s n k mm dot nn dd)) (fun _ _ i _ _ _ _ _ _ => s.size - (intOf i).toNat)
    case atStart => exact ⟨0, 0, 0, false, 0, rfl, rfl, rfl, rfl, rfl, rfl, rfl, rfl, rfl, by omega, rf_start s n⟩
    case round =>
      obtain ⟨k, m, nd, dot, dp, rfl, rfl, rfl, rfl, rfl, rfl, rfl, rfl, rfl, hk, HR⟩ := hrel
      have hb1 := HR.out.2.2.2.2.2.1
      have hb2 := HR.out.2.2.2.2.2.2
      by_cases hlt : k < s.size
      · have hltI : (k : Int) < s.size := by omega
        have hk1 : IntKind.i64.wrap ((k : Int) + 1) = ((k + 1 : Nat) : Int) := by rw [IntKind.wrap_i64]; omega
        have hg1 : decide (0 < k + 1) = true := decide_eq_true (by omega)
        by_cases e : k = n
        · have hfl := rf_flag HR.out e
          subst hfl
          have h46 := HN.out.dot (by omega)
          have h46I : ((s[k].toNat : Int) == 46) = true := by subst e; rw [h46]; rfl
          have h95 : ((s[k].toNat : Int) == 95) = false := by subst e; rw [h46]; rfl
          have hg : decide (0 < k) = true := decide_eq_true (by have := HN.out.pos; omega)
          have HR2 := Lib.hid (rf_dot HN.out HR.out hlt e)
          clear h46 e
          go_wp2_with fail
          go_round
          case rel => exact ⟨k + 1, m, nd, true, nd, rfl, rfl, rfl, rfl, rfl, by rw [hg, hg1], rfl, rfl, rfl, by omega, HR2⟩
          case measure => simp [intOf]; omega
        · have hd := HN.out.dig k hlt e
          obtain ⟨d1, d2⟩ := digit_range hd
          have h46I : ((s[k].toNat : Int) == 46) = false := by rw [beq_eq_false_iff_ne]; omega
          have h95 : ((s[k].toNat : Int) == 95) = false := by rw [beq_eq_false_iff_ne]; omega
          by_cases hz0 : s[k].toNat = 48 ∧ nd = 0
          · obtain ⟨h48, hnd⟩ := hz0
            subst hnd
            have h48I : ((s[k].toNat : Int) == 48) = true := by rw [h48]; rfl
            have HR2 := Lib.hid (rf_zero HN.out HR.out hlt e h48)
            have hw : IntKind.i64.wrap (dp - 1) = dp - 1 := by rw [IntKind.wrap_i64]; omega
            clear h48 hd e
            go_wp2_with fail
            go_round
            case rel => exact ⟨k + 1, m, 0, dot, dp - 1, rfl, rfl, rfl, rfl, rfl, by rw [hg1], rfl, rfl, rfl, by omega, HR2⟩
            case measure => simp [intOf]; omega
          · obtain ⟨hR2, hnd, hm⟩ := rf_digit HN.out HR.out hlt e
            have HR2 := Lib.hid hR2
            have hz1 : (((s[k].toNat : Int) == 48) = true ∧ ((nd : Int) == 0) = false) ∨ ((s[k].toNat : Int) == 48) = false := by
              by_cases h48 : s[k].toNat = 48
              · left; exact ⟨by rw [h48]; rfl, by rw [beq_eq_false_iff_ne]; omega⟩
              · right; rw [beq_eq_false_iff_ne]; omega
            have hn1 : IntKind.i64.wrap ((nd : Int) + 1) = ((nd + 1 : Nat) : Int) := by rw [IntKind.wrap_i64]; omega
            have h19 : (nd : Int) < 19 := by omega
            obtain ⟨c, hc⟩ : ∃ c, s[k].toNat - 48 = c := ⟨_, rfl⟩
            have hw1 : IntKind.u64.wrap ((m : Int) * 10) = (m : Int) * 10 := by rw [IntKind.wrap_u64]; omega
            have hw2 : IntKind.u8.wrap ((s[k].toNat : Int) - 48) = (c : Int) := by rw [IntKind.wrap_u8']; omega
            have hw3 : IntKind.u64.wrap (c : Int) = (c : Int) := by rw [IntKind.wrap_u64]; omega
            have hw4 : IntKind.u64.wrap ((m : Int) * 10 + (c : Int)) = ((10 * m + c : Nat) : Int) := by rw [IntKind.wrap_u64]; omega
            rw [hc] at HR2
            clear hR2 hz0 hd e hc
            rcases hz1 with ⟨h48, hn0⟩ | h48
            · go_wp2_with fail
              go_round
              case rel => exact ⟨k + 1, 10 * m + c, nd + 1, dot, dp, rfl, rfl, rfl, rfl, rfl, by rw [hg1], rfl, rfl, rfl, by omega, HR2⟩
              case measure => simp [intOf]; omega
            · go_wp2_with fail
              go_round
              case rel => exact ⟨k + 1, 10 * m + c, nd + 1, dot, dp, rfl, rfl, rfl, rfl, rfl, by rw [hg1], rfl, rfl, rfl, by omega, HR2⟩
              case measure => simp [intOf]; omega
      · have hks : k = s.size := by omega
        subst hks
        obtain ⟨q1, q2, q3, q4, q5⟩ := rf_end HN.out HR.out
        have hg : decide (0 < s.size) = true := decide_eq_true hs1
        have Q1 := Lib.hid q1
        clear HR q1 hlt hk
        by_cases hm : m = 0
        · have Q2 := Lib.hid (q4 hm)
          clear q2 q3 q4
          subst hm
          cases dot
          all_goals
            go_wp2_with fail
            refine bodyPost_ret (results_tmp7 rfl _ _ _) rfl ?_
            exact ⟨by rw [Q2.out, ← Q1.out]; rfl, rfl⟩
        · have hm1 : ((m : Int) != 0) = true := by rw [bne_iff_ne]; omega
          have hw0 : IntKind.i64.wrap (0 : Int) = 0 := rfl
          have hw : IntKind.i64.wrap (dp - (nd : Int)) = dp - nd := by rw [IntKind.wrap_i64]; omega
          cases dot
          · have Q2 := Lib.hid (q2 rfl hm)
            clear q2 q3 q4 hm
            go_wp2_with fail
            refine bodyPost_ret (results_tmp7 rfl _ _ _) rfl ?_
            exact ⟨by rw [Q2.out, ← Q1.out]; rfl, rfl⟩
          · have Q2 := Lib.hid (q3 rfl hm)
            clear q2 q3 q4 hm
            go_wp2_with fail
            refine bodyPost_ret (results_tmp7 rfl _ _ _) rfl ?_
            exact ⟨by rw [Q2.out, ← Q1.out]; rfl, rfl⟩
end Go.Proofs.YtbnpleihhbpnlaaDoor
