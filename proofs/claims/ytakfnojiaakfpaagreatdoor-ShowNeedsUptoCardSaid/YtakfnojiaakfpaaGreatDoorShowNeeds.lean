/- ShowNeeds: no pair of brackets that is shown around an operand is needless. -/
import Derived.Test.YtakfnojiaakfpaaGreatDoorShowSources
import Derived.Test.YtakfnojiaakfpaaGreatDoorShowN
import Derived.Test.YtakfnojiaakfpaaGreatDoorTailD
import Derived.Deep.DeepCutAuto
import Derived.Deep.RegionHeld3
import Derived.Deep.RegionLaw
import Derived.Deep.DrawnRows
namespace Go.Proofs.YtakfnojiaakfpaaGreatDoor
open Go.RowKit

theorem bO_extract (s : ByteArray) (a b : Nat) : bO (s.extract a b) = c40 ((s.data.toList.drop a).take (b - a)) := by rw [bO, extract_toL]
theorem c40_one (c : UInt8) : c40 [c] = if (c.toNat == 40) = true then 1 else 0 := by rw [c40_cons]; simp [c40]
theorem blank_cost {s : ByteArray} {i k : Nat} (hik : i < k) (hk : k < s.size) (h40 : (s[i]'(by omega)).toNat = 40) :
    bO (s.extract 0 i ++ (⟨#[32]⟩ : ByteArray) ++ s.extract (i + 1) k ++ (⟨#[32]⟩ : ByteArray) ++ s.extract (k + 1) s.size) < bO s := by
  have hl : s.data.toList.length = s.size := (Lib.size_eq s).symm
  have e32 : bO (⟨#[32]⟩ : ByteArray) = 0 := by decide
  simp only [bO_app, e32, bO_extract, List.drop_zero, Nat.sub_zero]
  have h1 : s.data.toList = s.data.toList.take i ++ s.data.toList.drop i := (List.take_append_drop i _).symm
  have h2 : s.data.toList.drop i = (s[i]'(by omega)) :: s.data.toList.drop (i + 1) := List.drop_eq_getElem_cons (by omega)
  have h3 : s.data.toList.drop (i + 1) = (s.data.toList.drop (i + 1)).take (k - (i + 1)) ++ (s.data.toList.drop (i + 1)).drop (k - (i + 1)) := (List.take_append_drop _ _).symm
  have h4 : (s.data.toList.drop (i + 1)).drop (k - (i + 1)) = s.data.toList.drop k := by rw [List.drop_drop]; congr 1; omega
  have h5 : s.data.toList.drop k = s[k] :: s.data.toList.drop (k + 1) := List.drop_eq_getElem_cons (by omega)
  have h6 : (s.data.toList.drop (k + 1)).take (s.size - (k + 1)) = s.data.toList.drop (k + 1) := List.take_of_length_le (by rw [List.length_drop]; omega)
  have key : bO s = c40 (s.data.toList.take i) + (c40 ((s.data.toList.drop (i + 1)).take (k - (i + 1))) + (c40 (s.data.toList.drop (k + 1)) + (if ((s[k]).toNat == 40) = true then 1 else 0)) + 1) := by
    have e1 : bO s = c40 (s.data.toList.take i) + c40 (s.data.toList.drop i) := by rw [← c40_app, ← h1]; rfl
    have e2 : c40 (s.data.toList.drop i) = c40 (s.data.toList.drop (i + 1)) + 1 := by rw [h2, c40_cons, h40]; rfl
    have e3 : c40 (s.data.toList.drop (i + 1)) = c40 ((s.data.toList.drop (i + 1)).take (k - (i + 1))) + c40 (s.data.toList.drop k) := by rw [← h4, ← c40_app, ← h3]
    have e4 : c40 (s.data.toList.drop k) = c40 (s.data.toList.drop (k + 1)) + (if ((s[k]).toNat == 40) = true then 1 else 0) := by rw [h5, c40_cons]
    rw [e1, e2, e3, e4]
  rw [h6, key]
  omega
set_option maxRecDepth 100000 in
set_option maxHeartbeats 8000000 in
theorem showNeeds_any (t : List Nod) (A : Option Addr) (n c B : Nat) (w : World) (hr : RdNods w B A t) (hn : t.length = n) (hB : B ≤ w.heap.size) (hm : n * 120 ≤ 140737488355328) (hok : ∀ x ∈ t, okNod x) (hos : ∀ x ∈ t, okShow x) (htab : Tab10 w) :
    Calls Tryz.prog 7 #[.slice A n c] w fun e w' => e = .returned (.bool true) ∧ Below w.heap.size w w' := by
  have HT := Lib.hid htab
  have HN := Lib.hid hn
  have HOs := Lib.hid hos
  have HR := Lib.hid hr
  have HC1 := Lib.hid (copyNodes_any t A n c B w hr hn hB hm hok)
  clear htab hn hok hos hr
  go_enter Tryz.func7, Tryz.ntmps7
  go_wp2_with fail
  refine (HC1.out).mono ?_
  rintro e w2 ⟨A2, c2, rfl, hO2, hb2⟩
  have HB2 := Lib.hid hb2
  obtain ⟨s, g, hug⟩ : ∃ u g, showT t = (u, g) := ⟨_, _, rfl⟩
  have HS := Lib.hid (sshow_of hug A2 n c2 _ w2 hO2.rd HN.out (Nat.le_refl _) hm HOs.out (HT.out.below hb2))
  have HUG := Lib.hid hug
  clear hb2 hO2 HC1 hug
  go_wp2_with fail
  refine (HS.out).mono ?_
  rintro e w3 ⟨rfl, hb3⟩
  have HB3 := Lib.hid (HB2.out.trans (hb3.mono HB2.out.size))
  clear hb3 HS
  by_cases hg : g = 0
  · subst hg
    by_cases h300 : 300 < s.size
    · have h300I : (300 : Int) < s.size := by omega
      go_wp2_with fail
      refine (sawake_any _ (HT.out.below HB3.out)).mono ?_
      rintro e w9 ⟨rfl, hb9⟩
      go_wp2_with fail
      go_ret
      exact ⟨by first | rfl | (simp; done), HB3.out.trans (hb9.mono HB3.out.size)⟩
    · have h300I : ¬ (300 : Int) < s.size := by omega
      go_wp2_with fail
      go_loopw [6, 5] (fun vi vq wr => ∃ (i : Nat) (q : Bool), vi = .int .i64 i ∧ vq = .bool q ∧ i ≤ s.size ∧ Hid (Below w.heap.size w wr)) (fun vi _ _ => s.size - (intOf vi).toNat)
      case atStart => exact ⟨0, false, rfl, rfl, by omega, HB3.out⟩
      case round =>
        obtain ⟨i, q, rfl, rfl, hi, HBr⟩ := hrel
        have hi0 : (0 : Int) ≤ i := by omega
        by_cases hlt : i < s.size
        · have hltI : (i : Int) < s.size := by omega
          go_upto_region 8 with fail
          go_cut [46] (fun v wx => ∃ b : Bool, v = .bool b ∧ wx = wr)
          case first =>
            rcases Nat.eq_zero_or_pos i with h0 | h0
            · subst h0
              go_wp2_with fail
              all_goals
                go_meet
                exact ⟨_, rfl, rfl⟩
            · obtain ⟨j, rfl⟩ : ∃ j, i = j + 1 := ⟨i - 1, by omega⟩
              have hj : j < s.size := by omega
              have hjI : (j : Int) < s.size := by omega
              go_wp2_with fail
              all_goals
                go_meet
                exact ⟨_, rfl, rfl⟩
          case rest =>
            obtain ⟨b46, rfl, rfl⟩ := hcut
            go_upto_if 46 with fail
            go_cut [5] (fun v wx => ∃ q2 : Bool, v = .bool q2 ∧ wx = wc)
            case first =>
              cases b46 <;>
              · go_wp2_with fail
                go_meet
                exact ⟨_, rfl, rfl⟩
            case rest =>
              obtain ⟨q2, rfl, rfl⟩ := hcut
              go_upto_region 10 with fail
              go_cut [80] (fun v wx => ∃ b : Bool, v = .bool b ∧ wx = wc ∧ Hid (b = false → s[i].toNat = 40))
              case first =>
                cases q2 with
                | true =>
                  go_wp2_with fail
                  all_goals
                    go_meet
                    exact ⟨true, rfl, rfl, fun h => by cases h⟩
                | false =>
                  by_cases h40 : s[i].toNat = 40
                  · have h40I : (s[i].toNat : Int) = 40 := by omega
                    rcases Nat.eq_zero_or_pos i with h0 | h0
                    · subst h0
                      go_wp2_with fail
                      all_goals
                        go_meet
                        exact ⟨_, rfl, rfl, fun _ => h40⟩
                    · obtain ⟨j, rfl⟩ : ∃ j, i = j + 1 := ⟨i - 1, by omega⟩
                      have hj : j < s.size := by omega
                      have hjI : (j : Int) < s.size := by omega
                      go_wp2_with fail
                      all_goals
                        go_meet
                        exact ⟨_, rfl, rfl, fun _ => h40⟩
                  · have h40I : ¬ (s[i].toNat : Int) = 40 := by omega
                    rcases Nat.eq_zero_or_pos i with h0 | h0
                    · subst h0
                      go_wp2_with fail
                      all_goals
                        go_meet
                        exact ⟨true, rfl, rfl, fun h => by cases h⟩
                    · obtain ⟨j, rfl⟩ : ∃ j, i = j + 1 := ⟨i - 1, by omega⟩
                      have hj : j < s.size := by omega
                      have hjI : (j : Int) < s.size := by omega
                      go_wp2_with fail
                      all_goals
                        go_meet
                        exact ⟨true, rfl, rfl, fun h => by cases h⟩
              case rest =>
                obtain ⟨b80, rfl, rfl, H40⟩ := hcut
                cases b80 with
                | true =>
                  go_wp2_with fail
                  go_roundw
                  case rel => exact ⟨i + 1, q2, by go_num, rfl, by omega, HBr⟩
                  case measure => simp [intOf]; omega
                | false =>
                  have H4 : Hid (s[i].toNat = 40) := H40.out rfl
                  clear H40
                  go_wp2_with fail
                  go_loop [7, 8] (fun vk vd => ∃ kk dd : Nat, vk = .int .i64 kk ∧ vd = .int .i64 dd ∧ kk ≤ s.size ∧ Hid ((kk = i ∧ dd = 0) ∨ (i < kk ∧ 1 ≤ dd ∧ dd ≤ kk - i))) (fun vk _ => s.size - (intOf vk).toNat)
                  case atStart => exact ⟨i, 0, rfl, rfl, by omega, .inl ⟨rfl, rfl⟩⟩
                  case round =>
                    obtain ⟨kk, dd, rfl, rfl, hk, HD⟩ := hrel
                    have hk0 : (0 : Int) ≤ kk := by omega
                    have hd0 : (0 : Int) ≤ dd := by omega
                    have hd3 : (dd : Int) ≤ 300 := by have := HD.out; omega
                    by_cases hkl : kk < s.size
                    · have hkI : (kk : Int) < s.size := by omega
                      by_cases g40 : s[kk].toNat = 40
                      · have g40I : (s[kk].toNat : Int) = 40 := by omega
                        have hdn : ¬ (dd : Int) + 1 = 0 := by omega
                        go_wp2_with fail
                        go_round
                        case rel => exact ⟨kk + 1, dd + 1, by go_num, by go_num, by omega, by have := HD.out; show _ ∨ _; omega⟩
                        case measure => simp [intOf]; omega
                      · have g40I : ¬ (s[kk].toNat : Int) = 40 := by omega
                        have hne : ¬ kk = i := by rintro rfl; exact g40 H4.out
                        have HD2 : Hid (i < kk ∧ 1 ≤ dd ∧ dd ≤ kk - i) := by rcases HD.out with h | h; exact absurd h.1 hne; exact h
                        clear HD
                        by_cases g41 : s[kk].toNat = 41
                        · have g41I : (s[kk].toNat : Int) = 41 := by omega
                          by_cases hd1 : dd = 1
                          · subst hd1
                            have hik : i < kk := HD2.out.1
                            clear HD2 hd0 hd3 hne g40
                            have hcost := blank_cost hik hkl H4.out
                            have HNe := Lib.hid (fun a : Int => show_needs (a := a) HUG.out hcost)
                            have hsz : (s.extract 0 i ++ (⟨#[32]⟩ : ByteArray) ++ s.extract (i + 1) kk ++ (⟨#[32]⟩ : ByteArray) ++ s.extract (kk + 1) s.size).size ≤ 1000 := by
                              simp only [ByteArray.size_append, ByteArray.size_extract]
                              show _ + 1 + _ + 1 + _ ≤ _
                              omega
                            obtain ⟨ns', a', f', hpr⟩ : ∃ ns' a' f', parseR (s.extract 0 i ++ (⟨#[32]⟩ : ByteArray) ++ s.extract (i + 1) kk ++ (⟨#[32]⟩ : ByteArray) ++ s.extract (kk + 1) s.size) = (ns', a', f') := ⟨_, _, _, rfl⟩
                            rw [hpr] at HNe
                            have HL := parseR_4096 (s.extract 0 i ++ (⟨#[32]⟩ : ByteArray) ++ s.extract (i + 1) kk ++ (⟨#[32]⟩ : ByteArray) ++ s.extract (kk + 1) s.size)
                            rw [hpr] at HL
                            dsimp only at HL
                            have HP := fun W : World => Lib.hid (parse_to hpr W (by omega))
                            clear hcost hpr
                            go_upto_region 21 with fail
                            generalize wc = W0 at *
                            go_cut [9, 10, 11] (fun v9 v10 v11 wx => ∃ A' c' M, v9 = .slice A' ns'.length c' ∧ v10 = .int .i64 a' ∧ v11 = .int .i64 f' ∧ Hid (RdNods wx M A' ns' ∧ M ≤ wx.heap.size ∧ Below W0.heap.size W0 wx))
                            case first =>
                              refine wp_region_later_call 16 (by kernel_rfl) (by kernel_rfl) ?_
                              simp only [List.take_succ_cons, List.take_zero, List.drop_succ_cons, List.drop_zero]
                              repeat (go_big_quiet_step (fail))
                              refine wpQuiet_nil ?_
                              intro w' hw'
                              obtain ⟨z, rfl⟩ := hw'
                              have hz0 := later_below z
                              generalize later W0 z = W5 at *
                              unfold wpOp
                              refine Or.inl ?_
                              go_simp
                              refine ((HP _).out).mono ?_
                              rintro e5 w5 ⟨⟨A', c', rfl, hO⟩, hb5⟩
                              have hR5 := hO.rd
                              have hB5 := hz0.trans (hb5.mono hz0.size)
                              clear hO hb5 hz0
                              go_simp
                              repeat (go_big_quiet_step (fail))
                              refine wpQuiet_nil ?_
                              intro z
                              have hz1 := later_below z
                              generalize later w5 z = W6 at *
                              go_wp2_with fail
                              go_meet
                              exact ⟨A', c', w5.heap.size, rfl, rfl, rfl, hR5.below hz1, hz1.size, hB5.trans (hz1.mono hB5.size)⟩
                            case rest =>
                              obtain ⟨A', c', M, rfl, rfl, rfl, HX⟩ := hcut
                              have HBn : Hid (Below w.heap.size w wc) := HBr.out.trans (HX.out.2.2.mono HBr.out.size)
                              by_cases hf : f' = 0
                              · subst hf
                                have hne : decide (ns' = t) = false := by
                                  rw [decide_eq_false_iff_not]
                                  rintro rfl
                                  exact HNe.out _ rfl
                                have HSm := Lib.hid (sameNodes_any ns' t A' A ns'.length n c' c M B wc HX.out.1 (HR.out.below (HBn.out.mono hB)) HX.out.2.1 (Nat.le_trans hB HBn.out.size) rfl HN.out (by unfold maxLen; omega) (by unfold maxLen; omega))
                                rw [hne] at HSm
                                clear hne
                                have hzn := HBn.out.size
                                go_wp2_with fail
                                refine (HSm.out).mono ?_
                                rintro e w8 ⟨rfl, hb8⟩
                                have HB8 := Lib.hid (HBn.out.trans (hb8.mono hzn))
                                clear hb8 HSm
                                go_wp2_with fail
                                go_roundw
                                case rel => exact ⟨i + 1, q2, by go_num, rfl, by omega, HB8⟩
                                case measure => simp [intOf]; omega
                              · have hfb : (f' == 0) = false := by rw [beq_eq_false_iff_ne]; exact hf
                                clear hf
                                go_wp2_with fail
                                go_roundw
                                case rel => exact ⟨i + 1, q2, by go_num, rfl, by omega, HBn⟩
                                case measure => simp [intOf]; omega
                          · obtain ⟨d, rfl⟩ : ∃ d, dd = d + 2 := ⟨dd - 2, by have := HD2.out; omega⟩
                            have hdn : ¬ (d : Int) + 2 - 1 = 0 := by omega
                            go_wp2_with fail
                            go_round
                            case rel => exact ⟨kk + 1, d + 1, by go_num, by go_num, by omega, by have := HD2.out; show _ ∨ _; omega⟩
                            case measure => simp [intOf]; omega
                        · have g41I : ¬ (s[kk].toNat : Int) = 41 := by omega
                          have hdn : ¬ (dd : Int) = 0 := by have := HD2.out; omega
                          go_wp2_with fail
                          go_round
                          case rel => exact ⟨kk + 1, dd, by go_num, rfl, by omega, by have := HD2.out; show _ ∨ _; omega⟩
                          case measure => simp [intOf]; omega
                    · have hkI : ¬ (kk : Int) < s.size := by omega
                      have hkJ : (s.size : Int) ≤ kk := by omega
                      go_wp2_with fail
                      refine (sawake_any _ (HT.out.below HBr.out)).mono ?_
                      rintro e w9 ⟨rfl, hb9⟩
                      go_wp2_with fail
                      go_ret
                      exact ⟨by first | rfl | (simp; done), HBr.out.trans (hb9.mono HBr.out.size)⟩
        · have hltI : ¬ (i : Int) < s.size := by omega
          go_wp2_with fail
          refine (sawake_any _ (HT.out.below HBr.out)).mono ?_
          rintro e w9 ⟨rfl, hb9⟩
          go_wp2_with fail
          go_ret
          exact ⟨by first | rfl | (simp; done), HBr.out.trans (hb9.mono HBr.out.size)⟩
  · have hgb : (g != 0) = true := by rw [bne_iff_ne]; exact hg
    clear hg HUG
    go_wp2_with fail
    refine (sawake_any _ (HT.out.below HB3.out)).mono ?_
    rintro e w9 ⟨rfl, hb9⟩
    go_wp2_with fail
    go_ret
    exact ⟨by first | rfl | (simp; done), HB3.out.trans (hb9.mono HB3.out.size)⟩
end Go.Proofs.YtakfnojiaakfpaaGreatDoor
