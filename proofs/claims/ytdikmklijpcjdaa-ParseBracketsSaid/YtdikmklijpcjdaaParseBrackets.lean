/- ParseBrackets: brackets around a query, as many as may nest, change nothing. -/
import Derived.Test.YtdikmklijpcjdaaParA
import Derived.Test.YtdikmklijpcjdaaPQuery
import Derived.Test.YtdikmklijpcjdaaLow
import Derived.Test.YtdikmklijpcjdaaNodE
namespace Go.Proofs.Ytdikmklijpcjdaa
open Go.RowKit

theorem tmod_66 {x : Int} (h : 0 ≤ x) : ∃ i : Nat, i < 66 ∧ x.tmod 66 = i := by
  refine ⟨(x % 66).toNat, by omega, ?_⟩
  rw [Int.tmod_eq_emod_of_nonneg h]
  omega
set_option maxRecDepth 100000 in
set_option maxHeartbeats 4000000 in
theorem parseBrackets_any (s : ByteArray) (q : Int) (w : World) (hs0 : s.size ≤ 140737488351232) : Calls Try.prog 5 #[.string s, .int .i64 q] w fun e w' => e = .returned (.bool true) ∧ Below w.heap.size w w' := by
  have hs : s.size ≤ maxLen := by unfold maxLen; omega
  obtain ⟨k, hk, hk2⟩ := tmod_66 (lowI_nn q).1
  have H1 := Lib.hid (parse_any s w hs (fun _ _ h => lexR_err h))
  have HL := fun (W : World) => Lib.hid (low_any q W)
  have hkI : (k : Int) < 66 := by omega
  go_enter Try.func5, Try.ntmps5
  go_wp2_with fail
  refine (H1.out).mono ?_
  rintro e w1 ⟨⟨A, c, rfl, hO⟩, hb1⟩
  go_wp2_with fail
  refine ((HL _).out).mono ?_
  rintro e w2 ⟨rfl, rfl⟩
  go_upto_region 3 with fail
  have HB := Lib.hid hb1
  have HO := Lib.hid hO
  have hcap := hO.choose_spec.1.cap
  have HP : Hid (parseR s = ((parseR s).1, (parseR s).2.1, (parseR s).2.2)) := rfl
  generalize (parseR s).1 = t at *
  generalize (parseR s).2.1 = at_ at *
  generalize (parseR s).2.2 = why at *
  have hn1 : t.length ≤ maxLen := by omega
  have hw1 : IntKind.i64.wrap (2 * (k : Int)) = 2 * (k : Int) := by rw [IntKind.wrap_i64] <;> omega
  have hw2 : IntKind.i64.wrap ((s.size : Int) + 2 * (k : Int)) = (s.size : Int) + 2 * (k : Int) := by rw [IntKind.wrap_i64] <;> omega
  have hw3 : IntKind.i64.wrap ((s.size : Int) + 2 * (k : Int) + 2) = (s.size : Int) + 2 * (k : Int) + 2 := by rw [IntKind.wrap_i64] <;> omega
  clear hb1 hO H1 HL hk2 hcap
  by_cases he : why = 0
  · subst he
    by_cases hz : s.size + 2 * k + 2 ≤ 4096
    · have hzI : ¬ (4096 : Int) < (s.size : Int) + 2 * (k : Int) + 2 := by omega
      have hzs : s.size ≤ 4094 := by omega
      have hy1 : ¬ 9223372036854775807 < 1 + s.size := by omega
      have hy2 : ¬ 9223372036854775807 < 1 + s.size + 1 := by omega
      have hB0 : Hid ((⟨#[32]⟩ : ByteArray) ++ s ++ ⟨#[32]⟩ = wrapB 0 s) := rfl
      have hB1 : ((⟨#[32]⟩ : ByteArray) ++ s ++ ⟨#[32]⟩).size = s.size + 2 := by have := wrap_size 0 s; rw [← hB0.out] at this; omega
      have hk0 : (0 : Int) ≤ (k : Int) := by omega
      go_wp2_with fail
      generalize (⟨#[32]⟩ : ByteArray) ++ s ++ ⟨#[32]⟩ = B0 at *
      clear hy1 hy2 hw1 hw2 hw3 hzI
      go_loop [9, 10] (fun v9 v10 => ∃ (j : Nat) (B : ByteArray), v10 = .int .i64 j ∧ v9 = .string B ∧ j ≤ k ∧ Hid (B = wrapB j s) ∧ B.size = s.size + 2 * j + 2) (fun _ v10 => k - (intOf v10).toNat)
      case atStart => exact ⟨0, B0, rfl, rfl, Nat.zero_le _, hB0, by omega⟩
      case round =>
        obtain ⟨j, B, rfl, rfl, hj, HBj, hBs⟩ := hrel
        by_cases hlt : j < k
        · have hltI : (j : Int) < k := by omega
          have hy1 : ¬ 9223372036854775807 < 1 + B.size := by omega
          have hy2 : ¬ 9223372036854775807 < 1 + B.size + 1 := by omega
          have HN : Hid ((⟨#[40]⟩ : ByteArray) ++ B ++ ⟨#[41]⟩ = wrapB (j + 1) s) := by show _ = _; rw [HBj.out]; rfl
          have hNs : ((⟨#[40]⟩ : ByteArray) ++ B ++ ⟨#[41]⟩).size = s.size + 2 * (j + 1) + 2 := by rw [HN.out, wrap_size]
          go_wp2_with fail
          go_round
          case rel => exact ⟨j + 1, _, by go_num, rfl, by omega, HN, hNs⟩
          case measure => simp [intOf]; omega
        · have hje : j = k := by omega
          subst hje
          have hltI : ¬ (j : Int) < j := by omega
          have HL := brackets_law HP.out j hz
          rw [← HBj.out] at HL
          have hBm : B.size ≤ maxLen := by unfold maxLen; omega
          have H2 := Lib.hid (parse_any B w1 hBm (fun _ _ h => lexR_err h))
          have hsz1 := HB.out.size
          rcases HL with ⟨hj64, a, hP2⟩ | ⟨hj1, a, hP2⟩
          · rw [hP2] at H2
            have hj64I : (j : Int) ≤ 64 := by omega
            clear hP2 HBj HP
            go_wp2_with fail
            refine (H2.out).mono ?_
            rintro e w2 ⟨⟨A2, c2, h2, hO2⟩, hb2⟩
            have h2 : e = .returned (.tuple #[.slice A2 t.length c2, .int .i64 a, .int .i64 0]) := h2
            subst h2
            have hr1 := (HO.out.rd).below hb2
            have hr2 := hO2.rd
            have HS := Lib.hid (sameNodes_any t t A2 A t.length t.length c2 c w2.heap.size w1.heap.size w2 hr2 hr1 (Nat.le_refl _) hb2.size rfl rfl hn1 hn1)
            have HB2 := Lib.hid (HB.out.trans (hb2.mono hsz1))
            rw [decide_eq_true rfl] at HS
            clear hO2 hb2 hr1 hr2 H2
            go_wp2_with fail
            refine (HS.out).mono ?_
            rintro e w3 ⟨rfl, hb3⟩
            have HB3 := Lib.hid (HB2.out.trans (hb3.mono HB2.out.size))
            clear hb3 HS
            go_wp2_with fail
            refine (pawake_any _).mono ?_
            rintro e w9 ⟨rfl, hb9⟩
            go_wp2_with fail
            go_ret
            exact ⟨rfl, HB3.out.trans (hb9.mono HB3.out.size)⟩
          · rw [hP2] at H2
            have hj1I : (0 : Int) < j := by omega
            clear hP2 HBj HP
            go_wp2_with fail
            refine (H2.out).mono ?_
            rintro e w2 ⟨⟨A2, c2, h2, hO2⟩, hb2⟩
            have h2 : e = .returned (.tuple #[.slice A2 0 c2, .int .i64 a, .int .i64 182]) := h2
            subst h2
            have HB2 := Lib.hid (HB.out.trans (hb2.mono hsz1))
            clear hO2 hb2 H2
            by_cases h64 : (j : Int) ≤ 64
            · go_wp2_with fail
              refine (pawake_any _).mono ?_
              rintro e w9 ⟨rfl, hb9⟩
              go_wp2_with fail
              go_ret
              exact ⟨rfl, HB2.out.trans (hb9.mono HB2.out.size)⟩
            · go_wp2_with fail
              refine (pawake_any _).mono ?_
              rintro e w9 ⟨rfl, hb9⟩
              go_wp2_with fail
              go_ret
              exact ⟨rfl, HB2.out.trans (hb9.mono HB2.out.size)⟩
    · have hzI : (4096 : Int) < (s.size : Int) + 2 * (k : Int) + 2 := by omega
      clear HP
      go_wp2_with fail
      refine (pawake_any _).mono ?_
      rintro e w9 ⟨rfl, hb9⟩
      go_wp2_with fail
      go_ret
      exact ⟨rfl, HB.out.trans (hb9.mono HB.out.size)⟩
  · have heb : (why != 0) = true := by rw [bne_iff_ne]; exact he
    clear HP
    go_wp2_with fail
    refine (pawake_any _).mono ?_
    rintro e w9 ⟨rfl, hb9⟩
    go_wp2_with fail
    go_ret
    exact ⟨rfl, HB.out.trans (hb9.mono HB.out.size)⟩
end Go.Proofs.Ytdikmklijpcjdaa
