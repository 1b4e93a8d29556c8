/- ShowSpans: a span of any length is shown in the greatest unit that it is whole in, and read back. -/
import Derived.Test.YtakfnojiaakfpaaGreatDoorShwO
import Derived.Test.YtakfnojiaakfpaaGreatDoorShowSources
import Derived.Test.YtakfnojiaakfpaaGreatDoorSpansP
import Derived.Test.YtakfnojiaakfpaaGreatDoorLow
namespace Go.Proofs.YtakfnojiaakfpaaGreatDoor
open Go.RowKit

theorem ok_span (a b : Int) : okShow (spanN1 a b) := ⟨⟨by simp [spanN1, selN], by simp [spanN1, selN], by simp [spanN1, selN, maxLen], by intro m hm; simp [spanN1, selN] at hm; subst hm; decide +kernel, by show ByteArray.empty.size ≤ _; decide +kernel⟩, by simp [spanN1, selN, joinT], by simp [spanN1, selN]⟩
theorem ok_spanN (a b : Int) : okNod (spanN1 a b) := ⟨by simp [spanN1, selN], by simp [spanN1, selN]⟩
theorem rd_span {w : World} {M : Nat} {e : TypeId} (a b : Int) (hm : Rd w w.heap.size 3 (some ⟨M, 0, none⟩) (matsC [mX])) : RdNods (w.alloc (.cells (nodC (spanN1 a b) (some ⟨M, 0, none⟩) 1 none 0).toArray e)) (w.heap.size + 1) (some ⟨w.heap.size, 0, none⟩) [spanN1 a b] := by
  refine ⟨[nodC (spanN1 a b) (some ⟨M, 0, none⟩) 1 none 0], Rd.new w (by simp [nodC]) _ (by simp), rfl, fun k n hn => ?_⟩
  match k, hn with
  | 0, hn =>
    simp at hn; subst hn
    exact ⟨_, rfl, _, _, _, _, rfl, (hm.below ((Below.refl _ _).alloc (Nat.le_refl _) _)).more (Nat.le_succ _), Rd.nil_, by simp [spanN1, selN], by simp [maxLen], by simp [spanN1, selN], by simp [maxLen]⟩
set_option maxRecDepth 100000 in
set_option maxHeartbeats 4000000 in
theorem showSpans_any (x y : Int) (w : World) (htab : Tab10 w) : Calls Tryz.prog 8 #[.int .i64 x, .int .i64 y] w fun e w' => e = .returned (.bool true) ∧ Below w.heap.size w w' := by
  have HT := Lib.hid htab
  have HLo := fun (z : Int) (W : World) => Lib.hid (low_any z W)
  have hx := lowI_nn x
  have hy := lowI_nn y
  have hw1 : 1 ≤ 1 + lowI x % 2147483647 := by omega
  have hw2 : 1 + lowI x % 2147483647 < 2147483648 := by omega
  have hk1 : 0 ≤ lowI y % 2147483648 := by omega
  have hk2 : lowI y % 2147483648 < 2147483648 := by omega
  clear htab
  go_enter Tryz.func8, Tryz.ntmps8
  go_upto_region 2 with (go_at_call 16; refine ((HLo _ _).out).mono ?_; rintro e w' ⟨rfl, rfl⟩)
  generalize 1 + lowI x % 2147483647 = wd at *
  generalize lowI y % 2147483648 = bk at *
  clear hx hy HLo
  have hm0 : Rd (w.alloc (.cells (matC mX).toArray 37)) (w.heap.size + 1) 3 (some ⟨w.heap.size, 0, none⟩) (matsC [mX]) := Rd.new w (by simp [matsC, matC]) _ (by simp [matsC])
  have hr := rd_span (e := 41) (M := w.heap.size) (w := w.alloc (.cells (matC mX).toArray 37)) wd bk (by rw [World.size_alloc]; exact hm0)
  simp only [World.size_alloc] at hr
  have hb1 : Below w.heap.size w ((w.alloc (.cells (matC mX).toArray 37)).alloc (.cells (nodC (spanN1 wd bk) (some ⟨w.heap.size, 0, none⟩) 1 none 0).toArray 41)) := ((Below.refl _ _).alloc (Nat.le_refl _) _).alloc (by simp) _
  have HB1 := Lib.hid hb1
  have HR1 := Lib.hid hr
  have HC1 := Lib.hid (copyNodes_any [spanN1 wd bk] (some ⟨w.heap.size + 1, 0, none⟩) 1 1 _ _ hr rfl (by simp) (by omega) (by intro x hx; rw [List.mem_singleton] at hx; subst hx; exact ok_spanN _ _))
  clear hm0 hr hb1
  go_upto_region 3 with fail
  generalize hW : World.alloc _ _ = W1
  have HB1 : Hid (Below w.heap.size w W1) := by show _; rw [← hW]; exact HB1.out
  have HR1 : Hid (RdNods W1 (w.heap.size + 1 + 1) (some ⟨w.heap.size + 1, 0, none⟩) [spanN1 wd bk]) := by show _; rw [← hW]; exact HR1.out
  have hz1 : w.heap.size + 1 + 1 ≤ W1.heap.size := by rw [← hW]; simp
  have HC1 := Lib.hid (copyNodes_any [spanN1 wd bk] (some ⟨w.heap.size + 1, 0, none⟩) 1 1 _ _ HR1.out rfl hz1 (by omega) (by intro x hx; rw [List.mem_singleton] at hx; subst hx; exact ok_spanN _ _))
  clear hW
  go_wp2_with fail
  refine (HC1.out).mono ?_
  rintro e w2 ⟨A2, c2, rfl, hO2, hb2⟩
  have HB2 := Lib.hid (HB1.out.trans (hb2.mono HB1.out.size))
  have HR2 := Lib.hid (HR1.out.below (hb2.mono hz1))
  have hz2 : w.heap.size + 1 + 1 ≤ w2.heap.size := Nat.le_trans hz1 hb2.size
  have hst := spans_show hw1 hw2 hk1 hk2
  have HS := Lib.hid (sshow_of hst A2 1 c2 _ w2 hO2.rd rfl (Nat.le_refl _) (by omega) (by intro x hx; rw [List.mem_singleton] at hx; subst hx; exact ok_span _ _) (HT.out.below HB2.out))
  have hpr := show_parse hst
  have hgo := (showT_goes (ns := [spanN1 wd bk]) (by rw [hst])).2.2
  rw [hst] at hgo
  dsimp only at hgo
  obtain ⟨p, hp⟩ := spans_at (w := wd) (b := bk) hk1
  have HPr := Lib.hid hpr
  generalize selT (spanN1 wd bk) = s at *
  obtain ⟨p1, p2, p3, p4, p5, p6⟩ := hp
  have HP3 := Lib.hid p3
  have HP4 := Lib.hid p4
  have HP5 := Lib.hid p5
  have HP6 := Lib.hid p6
  have hs5 : (5 : Int) ≤ s.size := by omega
  clear hb2 hO2 HC1 HB1 HR1 hst hpr p3 p4 p5 p6
  go_wp2_with fail
  refine (HS.out).mono ?_
  rintro e w3 ⟨rfl, hb3⟩
  have HB3 := Lib.hid (HB2.out.trans (hb3.mono HB2.out.size))
  have HR3 := Lib.hid (HR2.out.below (hb3.mono hz2))
  have hz3 : w.heap.size + 1 + 1 ≤ w3.heap.size := Nat.le_trans hz2 hb3.size
  have HP := Lib.hid (parse_to HPr.out w3 (by omega))
  clear hb3 HS HPr
  go_wp2_with fail
  refine (HP.out).mono ?_
  rintro e w4 ⟨⟨A4, c4, rfl, hO4⟩, hb4⟩
  have HB4 := Lib.hid (HB3.out.trans (hb4.mono HB3.out.size))
  have HR4 := Lib.hid (HR3.out.below (hb4.mono hz3))
  have hz4 : w.heap.size + 1 + 1 ≤ w4.heap.size := Nat.le_trans hz3 hb4.size
  have HSm := Lib.hid (sameNodes_any [spanN1 wd bk] [spanN1 wd bk] A4 (some ⟨w.heap.size + 1, 0, none⟩) 1 1 c4 1 w4.heap.size _ w4 hO4.rd HR4.out (Nat.le_refl _) hz4 rfl rfl (by unfold maxLen; omega) (by unfold maxLen; omega))
  have hdd : decide ([spanN1 wd bk] = [spanN1 wd bk]) = true := by simp
  rw [hdd] at HSm
  clear hb4 hO4 HP hdd
  have hl1 : ([spanN1 wd bk] : List Nod).length = 1 := rfl
  rw [hl1]
  clear hl1
  go_wp2_with fail
  refine (HSm.out).mono ?_
  rintro e w5 ⟨rfl, hb5⟩
  have HB5 := Lib.hid (HB4.out.trans (hb5.mono HB4.out.size))
  clear hb5 HSm HB2 HB3 HB4 HR2 HR3 HR4 hz1 hz2 hz3 hz4
  obtain ⟨q, rfl⟩ : ∃ q, p = q + 1 := ⟨p - 1, by omega⟩
  have HPu : Hid (∀ h : q < s.size, s[q] = unitT wd) := fun h => HP5.out h
  clear HP5
  go_upto_region 8 with fail
  by_cases d1 : wd % 86400 = 0
  · have b1 : (wd % 86400 == 0) = true := by rw [beq_iff_eq]; exact d1
    have HU : Hid (∀ h : q < s.size, s[q].toNat = 100) := fun h => by rw [HPu.out h, unitT, if_pos d1]; rfl
    clear HPu
    go_wp2_with fail
    go_loop [14] (fun i => ∃ k : Nat, i = .int .i64 k ∧ k ≤ q + 1) (fun i => q + 1 - (intOf i).toNat)
    case atStart => exact ⟨0, rfl, by omega⟩
    case round =>
      obtain ⟨k, rfl, hk⟩ := hrel
      have hk0 : (0 : Int) ≤ k := by omega
      by_cases hlt : k < q + 1
      · have hkl : k < s.size := by omega
        have hklI : (k : Int) < (s.size : Int) := by omega
        have h93 := HP3.out k hkl hlt
        have h93I : ¬ (s[k].toNat : Int) = 93 := by omega
        clear h93
        go_wp2_with fail
        go_round
        case rel => exact ⟨k + 1, by go_num, by omega⟩
        case measure => simp [intOf]; omega
      · obtain rfl : k = q + 1 := by omega
        have h93I : (s[q + 1].toNat : Int) = 93 := by have := HP4.out; omega
        have hq : q < s.size := by omega
        have hqI : ((q : Int) + 1) < (s.size : Int) := by omega
        have hqJ : (q : Int) < (s.size : Int) := by omega
        have huI : (s[q].toNat : Int) = 100 := by have := HU.out hq; omega
        by_cases hb0 : bk = 0
        · subst hb0
          have hse : ¬ ((q : Int) + 1 + 1) < (s.size : Int) := by have := HP6.out.2 rfl; omega
          clear HU
          go_wp2_with fail
          refine (sawake_any _ (HT.out.below HB5.out)).mono ?_
          rintro e w9 ⟨rfl, hb9⟩
          go_wp2_with fail
          go_ret
          exact ⟨by first | rfl | (simp; done), HB5.out.trans (hb9.mono HB5.out.size)⟩
        · have hse : ((q : Int) + 1 + 1) < (s.size : Int) := by have := HP6.out.1 hb0; omega
          have hbn : (bk != 0) = true := by rw [bne_iff_ne]; exact hb0
          clear HU
          go_wp2_with fail
          refine (sawake_any _ (HT.out.below HB5.out)).mono ?_
          rintro e w9 ⟨rfl, hb9⟩
          go_wp2_with fail
          go_ret
          exact ⟨by first | rfl | (simp; done), HB5.out.trans (hb9.mono HB5.out.size)⟩
  · have b1 : (wd % 86400 == 0) = false := by rw [beq_eq_false_iff_ne]; exact d1
    by_cases d2 : wd % 3600 = 0
    · have b2 : (wd % 3600 == 0) = true := by rw [beq_iff_eq]; exact d2
      have HU : Hid (∀ h : q < s.size, s[q].toNat = 104) := fun h => by rw [HPu.out h, unitT, if_neg d1, if_pos d2]; rfl
      clear HPu
      go_wp2_with fail
      go_loop [14] (fun i => ∃ k : Nat, i = .int .i64 k ∧ k ≤ q + 1) (fun i => q + 1 - (intOf i).toNat)
      case atStart => exact ⟨0, rfl, by omega⟩
      case round =>
        obtain ⟨k, rfl, hk⟩ := hrel
        have hk0 : (0 : Int) ≤ k := by omega
        by_cases hlt : k < q + 1
        · have hkl : k < s.size := by omega
          have hklI : (k : Int) < (s.size : Int) := by omega
          have h93 := HP3.out k hkl hlt
          have h93I : ¬ (s[k].toNat : Int) = 93 := by omega
          clear h93
          go_wp2_with fail
          go_round
          case rel => exact ⟨k + 1, by go_num, by omega⟩
          case measure => simp [intOf]; omega
        · obtain rfl : k = q + 1 := by omega
          have h93I : (s[q + 1].toNat : Int) = 93 := by have := HP4.out; omega
          have hq : q < s.size := by omega
          have hqI : ((q : Int) + 1) < (s.size : Int) := by omega
          have hqJ : (q : Int) < (s.size : Int) := by omega
          have huI : (s[q].toNat : Int) = 104 := by have := HU.out hq; omega
          by_cases hb0 : bk = 0
          · subst hb0
            have hse : ¬ ((q : Int) + 1 + 1) < (s.size : Int) := by have := HP6.out.2 rfl; omega
            clear HU
            go_wp2_with fail
            refine (sawake_any _ (HT.out.below HB5.out)).mono ?_
            rintro e w9 ⟨rfl, hb9⟩
            go_wp2_with fail
            go_ret
            exact ⟨by first | rfl | (simp; done), HB5.out.trans (hb9.mono HB5.out.size)⟩
          · have hse : ((q : Int) + 1 + 1) < (s.size : Int) := by have := HP6.out.1 hb0; omega
            have hbn : (bk != 0) = true := by rw [bne_iff_ne]; exact hb0
            clear HU
            go_wp2_with fail
            refine (sawake_any _ (HT.out.below HB5.out)).mono ?_
            rintro e w9 ⟨rfl, hb9⟩
            go_wp2_with fail
            go_ret
            exact ⟨by first | rfl | (simp; done), HB5.out.trans (hb9.mono HB5.out.size)⟩
    · have b2 : (wd % 3600 == 0) = false := by rw [beq_eq_false_iff_ne]; exact d2
      by_cases d3 : wd % 60 = 0
      · have b3 : (wd % 60 == 0) = true := by rw [beq_iff_eq]; exact d3
        have HU : Hid (∀ h : q < s.size, s[q].toNat = 109) := fun h => by rw [HPu.out h, unitT, if_neg d1, if_neg d2, if_pos d3]; rfl
        clear HPu
        go_wp2_with fail
        go_loop [14] (fun i => ∃ k : Nat, i = .int .i64 k ∧ k ≤ q + 1) (fun i => q + 1 - (intOf i).toNat)
        case atStart => exact ⟨0, rfl, by omega⟩
        case round =>
          obtain ⟨k, rfl, hk⟩ := hrel
          have hk0 : (0 : Int) ≤ k := by omega
          by_cases hlt : k < q + 1
          · have hkl : k < s.size := by omega
            have hklI : (k : Int) < (s.size : Int) := by omega
            have h93 := HP3.out k hkl hlt
            have h93I : ¬ (s[k].toNat : Int) = 93 := by omega
            clear h93
            go_wp2_with fail
            go_round
            case rel => exact ⟨k + 1, by go_num, by omega⟩
            case measure => simp [intOf]; omega
          · obtain rfl : k = q + 1 := by omega
            have h93I : (s[q + 1].toNat : Int) = 93 := by have := HP4.out; omega
            have hq : q < s.size := by omega
            have hqI : ((q : Int) + 1) < (s.size : Int) := by omega
            have hqJ : (q : Int) < (s.size : Int) := by omega
            have huI : (s[q].toNat : Int) = 109 := by have := HU.out hq; omega
            by_cases hb0 : bk = 0
            · subst hb0
              have hse : ¬ ((q : Int) + 1 + 1) < (s.size : Int) := by have := HP6.out.2 rfl; omega
              clear HU
              go_wp2_with fail
              refine (sawake_any _ (HT.out.below HB5.out)).mono ?_
              rintro e w9 ⟨rfl, hb9⟩
              go_wp2_with fail
              go_ret
              exact ⟨by first | rfl | (simp; done), HB5.out.trans (hb9.mono HB5.out.size)⟩
            · have hse : ((q : Int) + 1 + 1) < (s.size : Int) := by have := HP6.out.1 hb0; omega
              have hbn : (bk != 0) = true := by rw [bne_iff_ne]; exact hb0
              clear HU
              go_wp2_with fail
              refine (sawake_any _ (HT.out.below HB5.out)).mono ?_
              rintro e w9 ⟨rfl, hb9⟩
              go_wp2_with fail
              go_ret
              exact ⟨by first | rfl | (simp; done), HB5.out.trans (hb9.mono HB5.out.size)⟩
      · have b3 : (wd % 60 == 0) = false := by rw [beq_eq_false_iff_ne]; exact d3
        have HU : Hid (∀ h : q < s.size, s[q].toNat = 115) := fun h => by rw [HPu.out h, unitT, if_neg d1, if_neg d2, if_neg d3]; rfl
        clear HPu
        go_wp2_with fail
        go_loop [14] (fun i => ∃ k : Nat, i = .int .i64 k ∧ k ≤ q + 1) (fun i => q + 1 - (intOf i).toNat)
        case atStart => exact ⟨0, rfl, by omega⟩
        case round =>
          obtain ⟨k, rfl, hk⟩ := hrel
          have hk0 : (0 : Int) ≤ k := by omega
          by_cases hlt : k < q + 1
          · have hkl : k < s.size := by omega
            have hklI : (k : Int) < (s.size : Int) := by omega
            have h93 := HP3.out k hkl hlt
            have h93I : ¬ (s[k].toNat : Int) = 93 := by omega
            clear h93
            go_wp2_with fail
            go_round
            case rel => exact ⟨k + 1, by go_num, by omega⟩
            case measure => simp [intOf]; omega
          · obtain rfl : k = q + 1 := by omega
            have h93I : (s[q + 1].toNat : Int) = 93 := by have := HP4.out; omega
            have hq : q < s.size := by omega
            have hqI : ((q : Int) + 1) < (s.size : Int) := by omega
            have hqJ : (q : Int) < (s.size : Int) := by omega
            have huI : (s[q].toNat : Int) = 115 := by have := HU.out hq; omega
            by_cases hb0 : bk = 0
            · subst hb0
              have hse : ¬ ((q : Int) + 1 + 1) < (s.size : Int) := by have := HP6.out.2 rfl; omega
              clear HU
              go_wp2_with fail
              refine (sawake_any _ (HT.out.below HB5.out)).mono ?_
              rintro e w9 ⟨rfl, hb9⟩
              go_wp2_with fail
              go_ret
              exact ⟨by first | rfl | (simp; done), HB5.out.trans (hb9.mono HB5.out.size)⟩
            · have hse : ((q : Int) + 1 + 1) < (s.size : Int) := by have := HP6.out.1 hb0; omega
              have hbn : (bk != 0) = true := by rw [bne_iff_ne]; exact hb0
              clear HU
              go_wp2_with fail
              refine (sawake_any _ (HT.out.below HB5.out)).mono ?_
              rintro e w9 ⟨rfl, hb9⟩
              go_wp2_with fail
              go_ret
              exact ⟨by first | rfl | (simp; done), HB5.out.trans (hb9.mono HB5.out.size)⟩
end Go.Proofs.YtakfnojiaakfpaaGreatDoor
