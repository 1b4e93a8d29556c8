/- The document's writer: a select. -/
import Derived.Test.YtakfnojiaakfpaaGreatDoorRShwC
import Derived.Test.YtakfnojiaakfpaaGreatDoorRShwQ
import Derived.Deep.DeepCutAuto
namespace Go.Proofs.YtakfnojiaakfpaaGreatDoor
open Go.RowKit
theorem mats_at (k : Nat) (h : k < 5) : ([.string ⟨#[]⟩, .string ⟨#[61]⟩, .string ⟨#[33, 61]⟩, .string ⟨#[61, 126]⟩, .string ⟨#[33, 126]⟩] : List Value)[k]? = some (.string (matsL.getD k ByteArray.empty)) := by
  match k, h with
  | 0, _ => rfl
  | 1, _ => rfl
  | 2, _ => rfl
  | 3, _ => rfl
  | 4, _ => rfl
set_option maxRecDepth 100000 in
set_option maxHeartbeats 4000000 in
theorem rselector_any (n : Nod) (Am An : Option Addr) (cm cn : Nat) (w : World) (hr : Rd w w.heap.size 3 Am (matsC n.mat)) (hcm : n.mat.length ≤ cm) (hm : matCode n.mat = 0) (hv : ∀ m ∈ n.mat, m.name.size ≤ 1000 ∧ m.val.size ≤ 1000) (hw : n.kind = 3 → 1 ≤ n.width) (hw2 : n.width < 2147483648) (hb : 0 ≤ n.back) (hb2 : n.back < 2147483648) :
    Calls Tryz.prog 36 #[nodeV n Am An cm cn] w fun e w' => e = .returned (.string (selT n)) ∧ Below w.heap.size w w' := by
  have HR := Lib.hid hr
  have HM := Lib.hid (matCode_iff.1 hm)
  have HV := Lib.hid hv
  have HW := Lib.hid hw
  have hlen := (matCode_iff.1 hm).1
  clear hr hm hv hw
  have HS : Hid (selT n = (if 0 < n.back then (if n.kind = 3 then sel0 n.mat ++ sSq ++ spanT n.width ++ sUnsq else sel0 n.mat) ++ sOffsetB ++ spanT n.back else (if n.kind = 3 then sel0 n.mat ++ sSq ++ spanT n.width ++ sUnsq else sel0 n.mat))) := rfl
  unfold nodeV
  obtain ⟨kind, op, text, ms, width, back, grp, names, cmp, parts⟩ := n
  dsimp only at *
  generalize hnl0 : ms.length = nl at *
  have HNL := Lib.hid hnl0
  clear hnl0
  go_enter Tryz.func36, Tryz.ntmps36
  go_upto_region 1 with fail
  generalize hW : World.alloc _ _ = W0
  have hB1 : Below w.heap.size w W0 := by rw [← hW]; exact by repeat (first | exact Below.refl _ _ | refine Below.alloc ?_ (by first | exact Nat.le_refl _ | (simp; done) | (simp; omega)) _ | refine Below.setCell ?_ (by first | exact Nat.le_refl _ | (simp; done) | (simp; omega)) _ | refine Below.drew ?_)
  have hX1 : Blk W0 w.heap.size 41 [.int .i64 kind, .int .i64 op, .string text, .slice Am nl cm, .int .i64 width, .int .i64 back, .int .i64 grp, .slice An names.length cn, .bool cmp, .int .i64 parts] := by rw [← hW]; exact Blk.new w _ _
  clear hW
  have c3 := hX1.cell (j := 3) rfl
  go_upto_region 3 with fail
  clear c3
  go_cut [5] (fun v wx => v = .bool (namedT ms) ∧ Below w.heap.size w wx ∧ Blk wx w.heap.size 41 [.int .i64 kind, .int .i64 op, .string text, .slice Am nl cm, .int .i64 width, .int .i64 back, .int .i64 grp, .slice An names.length cn, .bool cmp, .int .i64 parts])
  case first =>
    cases ms with
    | nil =>
      obtain rfl : nl = 0 := by have := HNL.out; simp at this; omega
      go_wp2_with fail
      go_meet
      exact ⟨rfl, hB1, hX1⟩
    | cons m r =>
      obtain ⟨b, o, rfl, hbl, m0, m1, m2⟩ := (HR.out.below hB1).at_mat (k := 0) (l := m) rfl
      simp only [Nat.zero_mul, Nat.add_zero] at m0 m1 m2
      have hmv := (HV.out m List.mem_cons_self).2
      obtain ⟨mk, mn, mv⟩ := m
      dsimp only at *
      have hnl1 : 0 < nl := by have := HNL.out; simp at this; omega
      have hnl2 : (0 : Int) < nl := by omega
      have HBX : Hid (Below w.heap.size w W0 ∧ Blk W0 w.heap.size 41 _) := ⟨hB1, hX1⟩
      clear hB1 hX1
      by_cases k1 : mk = 1
      · subst k1
        by_cases k2 : mn = ⟨#[95, 95, 110, 97, 109, 101, 95, 95]⟩
        · subst k2
          have HWd := fun W => Lib.hid (rword_any mv W (by omega))
          have HN : Hid (namedT (⟨1, ⟨#[95, 95, 110, 97, 109, 101, 95, 95]⟩, mv⟩ :: r) = (wordT mv && !keptB mv)) := by
            have hd : decide ((⟨#[95, 95, 110, 97, 109, 101, 95, 95]⟩ : ByteArray) = sNameN) = true := by decide +kernel
            show _ = _
            rw [namedT]
            dsimp only
            rw [hd]
            simp
          generalize (wordT mv && !keptB mv) = nm at *
          go_wp2_with (go_at_call 75; refine ((HWd _).out).mono ?_; rintro e w' ⟨rfl, hb9⟩)
          go_meet
          exact ⟨by rw [HN.out], HBX.out.1.trans (hb9.mono HBX.out.1.size), HBX.out.2.below hb9 HBX.out.2.lt⟩
        · have HN : Hid (namedT (⟨1, mn, mv⟩ :: r) = false) := by
            show _ = _
            have : (decide (mn = sNameN)) = false := by simp only [decide_eq_false_iff_not]; exact k2
            simp [namedT, this]
          have hnl : ¬ mn.toList = [95, 95, 110, 97, 109, 101, 95, 95] := fun h => k2 (toList_inj.1 (h.trans (by decide +kernel)))
          go_wp2_with fail
          go_meet
          exact ⟨by rw [HN.out], HBX.out⟩
      · have HN : Hid (namedT (⟨mk, mn, mv⟩ :: r) = false) := by show _ = _; simp [namedT, k1]
        go_wp2_with fail
        go_meet
        exact ⟨by rw [HN.out], HBX.out⟩
  case rest =>
    clear hB1 hX1
    obtain ⟨rfl, hB2, hX2⟩ := hcut
    have HBX : Hid (Below w.heap.size w wc ∧ Blk wc w.heap.size 41 _) := ⟨hB2, hX2⟩
    clear hB2 hX2
    generalize hnm : namedT ms = nm
    have HNM := Lib.hid hnm
    clear hnm
    go_upto_if 33 with fail
    go_cut [3, 4] (fun v3 v4 wx => v3 = .string (headT ms) ∧ ∃ A2 c2, v4 = .slice A2 (restT ms).length c2 ∧ Hid (Rd wx w.heap.size 3 A2 (matsC (restT ms)) ∧ (restT ms).length ≤ c2 ∧ Below w.heap.size w wx ∧ Blk wx w.heap.size 41 [.int .i64 kind, .int .i64 op, .string text, .slice Am nl cm, .int .i64 width, .int .i64 back, .int .i64 grp, .slice An names.length cn, .bool cmp, .int .i64 parts]))
    case first =>
      cases nm with
      | true =>
        obtain ⟨m, r, rfl, e1, e2, e3, e4, e5, e6⟩ := named_word HNM.out
        have HH := Lib.hid e5
        have HT := Lib.hid e6
        clear e1 e2 e3 e4 e5 e6
        have hr2 := HR.out.below HBX.out.1
        obtain ⟨b, o, rfl, hbl, m0, m1, m2⟩ := hr2.at_mat (k := 0) (l := m) rfl
        simp only [Nat.zero_mul, Nat.add_zero] at m0 m1 m2
        have HRT := Lib.hid (Rd.tail1 (x := matC m) (xs := matsC r) hr2)
        clear hr2
        have hnl1 : 0 < nl := by have := HNL.out; simp at this; omega
        have hnl2 : (0 : Int) < nl := by omega
        by_cases hc1 : cm = 1
        · subst hc1
          have hr0 : Hid (r = [] ∧ nl = 1) := by
            have := HNL.out
            simp at this
            exact ⟨List.eq_nil_of_length_eq_zero (by omega), by omega⟩
          go_wp2_with fail
          go_meet
          exact ⟨by rw [HH.out], _, _, by rw [HT.out, hr0.out.1]; rfl, by rw [HT.out, hr0.out.1]; exact ⟨Rd.nil_, by simp, HBX.out⟩⟩
        · have hc2 : 1 < cm := by omega
          have hlr : Hid (nl - 1 = r.length) := by
            have := HNL.out
            simp at this
            show _ = _
            omega
          go_wp2_with fail
          go_meet
          exact ⟨by rw [HH.out], _, _, by rw [HT.out, ← hlr.out], by rw [HT.out]; exact ⟨HRT.out, by rw [← hlr.out]; omega, HBX.out⟩⟩
      | false =>
        have HH : Hid (headT ms = ByteArray.empty ∧ restT ms = ms) := by
          refine ⟨?_, ?_⟩
          · rw [headT, if_neg (by rw [HNM.out]; decide)]
          · rw [restT, if_neg (by rw [HNM.out]; decide)]
        go_wp2_with fail
        go_meet
        exact ⟨by rw [HH.out.1]; rfl, Am, cm, by rw [HH.out.2, HNL.out], by rw [HH.out.2]; exact ⟨HR.out.below HBX.out.1, by rw [HNL.out]; exact hcm, HBX.out.1, HBX.out.2⟩⟩
    case rest =>
      obtain ⟨rfl, A2, c2, rfl, hall⟩ := hcut
      obtain ⟨hrd, hcap, hB4, hX4⟩ := hall.out
      clear hall HBX
      have hsub : ∀ x ∈ restT ms, x ∈ ms := rest_sub
      have HE2 : Hid (nm = false → headT ms = ByteArray.empty) := by
        intro h
        rw [headT, if_neg (by rw [HNM.out, h]; decide)]
      have HS0 : Hid (sel0 ms = if nm = true ∧ restT ms = [] then headT ms else headT ms ++ bracesT (restT ms)) := by
        show _ = _
        rw [← HNM.out]
        rfl
      have hhd : (headT ms).size ≤ 1000 := by
        cases hn : nm with
        | true =>
          obtain ⟨m, r, rfl, e1, e2, e3, e4, e5, e6⟩ := named_word (HNM.out.trans hn)
          rw [e5]
          exact (HV.out m List.mem_cons_self).2
        | false => rw [HE2.out hn]; decide
      have HL : Hid (∀ x ∈ restT ms, kindB x.kind = true ∧ x.name.size ≤ 1000 ∧ x.val.size ≤ 1000) := by
        intro x hx
        have h1 := HV.out x (hsub x hx)
        have h2 := List.all_eq_true.1 HM.out.2 x (hsub x hx)
        simp only [matB, Bool.and_eq_true] at h2
        exact ⟨h2.1.1, h1⟩
      have hl8 : (restT ms).length ≤ 8 := by
        have := HNL.out
        unfold restT
        split
        · rw [List.length_tail]; omega
        · omega
      clear hsub HNM HV HM HR HE2
      generalize sel0 ms = S0 at *
      generalize headT ms = hd at *
      generalize restT ms = ls at *
      clear HNL
      generalize hnl2 : ls.length = n2 at *
      have HN2 := Lib.hid hnl2
      clear hnl2
      have HRX : Hid (Rd wc w.heap.size 3 A2 (matsC ls) ∧ Below w.heap.size w wc ∧ Blk wc w.heap.size 41 _) := ⟨hrd, hB4, hX4⟩
      clear hrd hB4 hX4
      go_upto_region 7 with fail
      go_cut [46] (fun v wx => ∃ b : Bool, v = .bool b ∧ wx = wc ∧ Hid ((b = false → S0 = hd) ∧ (b = true → S0 = hd ++ bracesT ls)))
      case first =>
        cases ls with
        | nil =>
          obtain rfl : n2 = 0 := by have := HN2.out; simp at this; omega
          cases nm with
          | true =>
            go_wp2_with fail
            go_meet
            exact ⟨false, rfl, rfl, ⟨fun _ => by rw [HS0.out, if_pos (by simp)], fun h => by cases h⟩⟩
          | false =>
            go_wp2_with fail
            go_meet
            exact ⟨true, rfl, rfl, ⟨fun h => (by cases h), fun _ => by rw [HS0.out, if_neg (by simp)]⟩⟩
        | cons x r =>
          have hn1 : 0 < n2 := by have := HN2.out; simp at this; omega
          have hn2 : (0 : Int) < n2 := by omega
          cases nm <;>
          · go_wp2_with fail
            go_meet
            exact ⟨true, rfl, rfl, ⟨fun h => (by cases h), fun _ => by rw [HS0.out, if_neg (by simp)]⟩⟩
      case rest =>
        obtain ⟨b54, rfl, rfl, HSX⟩ := hcut
        clear HS0
        have HJL : Hid (∀ k, (joinT ((ls.take k).map matcherT)).size ≤ 24096) := by
          intro k
          have h1 := joinT_le (l := (ls.take k).map matcherT) (b := 3010) (by
            intro z hz
            obtain ⟨x, hx, rfl⟩ := List.mem_map.1 hz
            have := HL.out x (List.mem_of_mem_take hx)
            exact matcherT_size this.2.1 this.2.2)
          rw [List.length_map, List.length_take, HN2.out] at h1
          have h2 : min k n2 ≤ 8 := by omega
          exact Nat.le_trans h1 (Nat.mul_le_mul_right _ h2)
        go_upto_if 46 with fail
        go_cut [3] (fun v wx => v = .string S0 ∧ Below w.heap.size w wx ∧ Blk wx w.heap.size 41 [.int .i64 kind, .int .i64 op, .string text, .slice Am nl cm, .int .i64 width, .int .i64 back, .int .i64 grp, .slice An names.length cn, .bool cmp, .int .i64 parts])
        case first =>
          cases b54 with
          | false =>
            go_wp2_with fail
            go_meet
            exact ⟨by rw [HSX.out.1 (by simp)], HRX.out.2⟩
          | true =>
            have HSB := Lib.hid (HSX.out.2 (by simp))
            clear HSX
            obtain ⟨hrd, hB4, hX4⟩ := HRX.out
            clear HRX
            have hz4 := hB4.size
            have HX4 := Lib.hid hX4
            have HB4 := Lib.hid hB4
            clear hX4 hB4
            go_upto_region 10 with fail
            go_loopw [6, 3] (fun i v wr => ∃ (k : Nat) (s : ByteArray), i = .int .i64 k ∧ v = .string s ∧ k ≤ n2 ∧ Hid (s = hd ++ (⟨#[123]⟩ : ByteArray) ++ joinT ((ls.take k).map matcherT)) ∧ Hid (Below wc.heap.size wc wr)) (fun i _ _ => n2 - (intOf i).toNat)
            case atStart => exact ⟨0, _, rfl, rfl, by omega, by show _ = _; rw [List.take_zero, List.map_nil, joinT, ByteArray.append_empty], Below.refl _ _⟩
            case round =>
              obtain ⟨k, s, rfl, rfl, hk, HSk, HBw⟩ := hrel
              have hk0 : (0 : Int) ≤ k := by omega
              have hsw := HBw.out.size
              have hss : s.size ≤ 26000 := by
                have := HJL.out k
                rw [HSk.out, ByteArray.size_append, ByteArray.size_append]
                show _ + 1 + _ ≤ _
                omega
              by_cases hlt : k < n2
              · have hltI : (k : Int) < n2 := by omega
                obtain ⟨x, hx⟩ := get_lt HN2 hlt
                obtain ⟨b3, o3, rfl, hb3, m0, m1, m2⟩ := (hrd.below (HBw.out.mono hz4)).at_mat hx
                obtain ⟨y1, y2, y3⟩ := HL.out x (List.mem_of_getElem? hx)
                have HTK := Lib.hid (take_snoc hx)
                have hb4 : b3 < wr.heap.size := by omega
                obtain ⟨xk, xn, xv⟩ := x
                dsimp only at *
                simp only [kindB, Bool.and_eq_true, decide_eq_true_eq] at y1
                obtain ⟨kk, rfl⟩ : ∃ kk : Nat, xk = (kk : Int) := ⟨xk.toNat, by omega⟩
                have hk5 : kk < 5 := by omega
                have hk5I : (kk : Int) < 5 := by omega
                have hkkI : (0 : Int) ≤ kk := by omega
                have HQ := fun W : World => Lib.hid (rquote_any xv W (by omega))
                have hq2 : (quoT xv).size ≤ 2002 := by have := quoT_size xv; omega
                have hms := matsT_size kk
                have hsg := mats_at kk
                have HMt : Hid (matcherT ⟨(kk : Int), xn, xv⟩ = xn ++ matsL.getD kk ByteArray.empty ++ quoT xv) := rfl
                generalize matsL.getD kk ByteArray.empty = sg at *
                clear hx
                by_cases h0 : 0 < k
                · have h0I : (0 : Int) < k := by omega
                  have HS3 : Hid (s ++ (⟨#[44, 32]⟩ : ByteArray) ++ xn ++ sg ++ quoT xv = hd ++ (⟨#[123]⟩ : ByteArray) ++ joinT ((ls.take (k + 1)).map matcherT)) := by
                    show _ = _
                    rw [HTK.out, List.map_append, List.map_cons, List.map_nil, joinT_snoc _ (by
                      intro h
                      have := congrArg List.length h
                      rw [List.length_map, List.length_take, HN2.out] at this
                      simp at this
                      omega), HMt.out, HSk.out]
                    simp only [ByteArray.append_assoc]
                    rfl
                  have hs2 : (s ++ (⟨#[44, 32]⟩ : ByteArray)).size ≤ 26002 := by rw [ByteArray.size_append]; show _ + 2 ≤ _; omega
                  clear HSk HTK HMt
                  go_upto_region 14 with fail
                  apply wp_region_later_allocP (.cells #[.string ⟨#[]⟩, .string ⟨#[61]⟩, .string ⟨#[33, 61]⟩, .string ⟨#[61, 126]⟩, .string ⟨#[33, 126]⟩] 9) [0, 1, 2, 3, 4, 5, 6, 8, 9, 10, 11, 12, 16, 17, 18, 19, 20, 21] 7 66 [13, 14, 15] [22, 23] (fun b => .slice (some ⟨b, 0, none⟩) 5 5) (by kernel_rfl) (by kernel_rfl) rfl rfl (by rfl) (fun _ h => by rw [h]; rfl)
                  case hAl =>
                    intro a w K hK
                    unfold wpOp
                    refine Or.inl ?_
                    go_simp
                    exact hK
                  case h =>
                    intro V hV
                    have hbV := hV.below
                    have hb5 : b3 < V.heap.size := Nat.lt_of_lt_of_le hb4 hbV.size
                    have x0 := later_at hb5 ((hbV.cell (p := ⟨b3, o3 + k * 3, none⟩) hb4).trans m0)
                    have x1 := later_at hb5 ((hbV.cell (p := ⟨b3, o3 + k * 3 + 1, none⟩) hb4).trans m1)
                    have x2 := later_at hb5 ((hbV.cell (p := ⟨b3, o3 + k * 3 + 2, none⟩) hb4).trans m2)
                    simp only [pickL, List.getElem?_cons_succ, List.getElem?_cons_zero]
                    unfold LatC
                    iterate 17 (go_big_quiet_step (fail))
                    go_big_quiet_step ((go_at_call 76; exact later_call (HQ _).out))
                    refine wpQuiet_nil ?_
                    rfl
                  case hM =>
                    intro b V hV hbk
                    have hK : Blk V b 9 [.string ⟨#[]⟩, .string ⟨#[61]⟩, .string ⟨#[33, 61]⟩, .string ⟨#[61, 126]⟩, .string ⟨#[33, 126]⟩] := hbk
                    have k0 := later_cell hK (j := kk) (hsg hk5)
                    clear hK hbk
                    simp only [pickL, List.getElem?_cons_succ, List.getElem?_cons_zero]
                    unfold LatC
                    go_simp
                    go_big_quiet_step (fail)
                    go_big_quiet_step (fail)
                    go_big_quiet_step (fail)
                    refine wpQuiet_nil ?_
                    rfl
                  case hT =>
                    intro w' b hb hbk hbs
                    have HB9 := Lib.hid (HBw.out.trans (hb.mono hsw))
                    simp only [pickL, List.getElem?_cons_succ, List.getElem?_cons_zero]
                    go_wp2_with fail
                    go_roundw
                    case rel => exact ⟨k + 1, _, by go_num, by rw [HS3.out], by omega, rfl, HB9⟩
                    case measure => simp [intOf]; omega
                · have h0I : ¬ (0 : Int) < k := by omega
                  have HS3 : Hid (s ++ xn ++ sg ++ quoT xv = hd ++ (⟨#[123]⟩ : ByteArray) ++ joinT ((ls.take (k + 1)).map matcherT)) := by
                    have hk00 : k = 0 := by omega
                    have e0 : s = hd ++ (⟨#[123]⟩ : ByteArray) := by rw [HSk.out, hk00, List.take_zero, List.map_nil, joinT, ByteArray.append_empty]
                    have e1 : (ls.take k).map matcherT = [] := by rw [hk00]; rfl
                    show _ = _
                    rw [HTK.out, List.map_append, e1, List.nil_append, List.map_cons, List.map_nil, joinT, HMt.out, e0]
                    simp only [ByteArray.append_assoc]
                  clear HSk HTK HMt
                  go_upto_region 14 with fail
                  apply wp_region_later_allocP (.cells #[.string ⟨#[]⟩, .string ⟨#[61]⟩, .string ⟨#[33, 61]⟩, .string ⟨#[61, 126]⟩, .string ⟨#[33, 126]⟩] 9) [0, 1, 2, 3, 4, 5, 6, 8, 9, 10, 11, 12, 16, 17, 18, 19, 20, 21] 7 66 [13, 14, 15] [22, 23] (fun b => .slice (some ⟨b, 0, none⟩) 5 5) (by kernel_rfl) (by kernel_rfl) rfl rfl (by rfl) (fun _ h => by rw [h]; rfl)
                  case hAl =>
                    intro a w K hK
                    unfold wpOp
                    refine Or.inl ?_
                    go_simp
                    exact hK
                  case h =>
                    intro V hV
                    have hbV := hV.below
                    have hb5 : b3 < V.heap.size := Nat.lt_of_lt_of_le hb4 hbV.size
                    have x0 := later_at hb5 ((hbV.cell (p := ⟨b3, o3 + k * 3, none⟩) hb4).trans m0)
                    have x1 := later_at hb5 ((hbV.cell (p := ⟨b3, o3 + k * 3 + 1, none⟩) hb4).trans m1)
                    have x2 := later_at hb5 ((hbV.cell (p := ⟨b3, o3 + k * 3 + 2, none⟩) hb4).trans m2)
                    simp only [pickL, List.getElem?_cons_succ, List.getElem?_cons_zero]
                    unfold LatC
                    iterate 17 (go_big_quiet_step (fail))
                    go_big_quiet_step ((go_at_call 76; exact later_call (HQ _).out))
                    refine wpQuiet_nil ?_
                    rfl
                  case hM =>
                    intro b V hV hbk
                    have hK : Blk V b 9 [.string ⟨#[]⟩, .string ⟨#[61]⟩, .string ⟨#[33, 61]⟩, .string ⟨#[61, 126]⟩, .string ⟨#[33, 126]⟩] := hbk
                    have k0 := later_cell hK (j := kk) (hsg hk5)
                    clear hK hbk
                    simp only [pickL, List.getElem?_cons_succ, List.getElem?_cons_zero]
                    unfold LatC
                    go_simp
                    go_big_quiet_step (fail)
                    go_big_quiet_step (fail)
                    go_big_quiet_step (fail)
                    refine wpQuiet_nil ?_
                    rfl
                  case hT =>
                    intro w' b hb hbk hbs
                    have HB9 := Lib.hid (HBw.out.trans (hb.mono hsw))
                    simp only [pickL, List.getElem?_cons_succ, List.getElem?_cons_zero]
                    go_wp2_with fail
                    go_roundw
                    case rel => exact ⟨k + 1, _, by go_num, by rw [HS3.out], by omega, rfl, HB9⟩
                    case measure => simp [intOf]; omega
              · have hltI : ¬ (k : Int) < n2 := by omega
                have HS3 : Hid (s ++ (⟨#[125]⟩ : ByteArray) = S0) := by
                  show _ = _
                  rw [HSk.out, List.take_of_length_le (by rw [HN2.out]; omega), HSB.out, bracesT]
                  simp only [ByteArray.append_assoc]
                  rfl
                clear HSk
                go_wp2_with fail
                go_meet
                exact ⟨by rw [HS3.out], HB4.out.trans (HBw.out.mono hz4), HX4.out.below HBw.out HX4.out.lt⟩
        case rest =>
          obtain ⟨rfl, hB6, hX6⟩ := hcut
          have hS0 : S0.size ≤ 30000 := by
            cases b54 with
            | false => rw [HSX.out.1 (by simp)]; omega
            | true =>
              rw [HSX.out.2 (by simp), bracesT, ByteArray.size_append, ByteArray.size_append, ByteArray.size_append]
              have h2 := HJL.out n2
              rw [List.take_of_length_le (by rw [HN2.out]; exact Nat.le_refl _)] at h2
              show hd.size + (1 + _ + 1) ≤ _
              omega
          clear HSX HRX HN2 HL HJL
          have HB6 := Lib.hid hB6
          have HX6 := Lib.hid hX6
          have c0 := hX6.cell (j := 0) rfl
          have c4 := hX6.cell (j := 4) rfl
          have hsb1 := spanT_size hb hb2
          clear hB6 hX6
          go_upto_if 86 with fail
          go_cut [3] (fun v wx => ∃ S1 : ByteArray, v = .string S1 ∧ Hid (S1 = if kind = 3 then S0 ++ sSq ++ spanT width ++ sUnsq else S0) ∧ S1.size ≤ 30100 ∧ Below w.heap.size w wx ∧ Blk wx w.heap.size 41 [.int .i64 kind, .int .i64 op, .string text, .slice Am nl cm, .int .i64 width, .int .i64 back, .int .i64 grp, .slice An names.length cn, .bool cmp, .int .i64 parts])
          case first =>
            by_cases k3 : kind = 3
            · have hkb : (kind == 3) = true := by rw [k3]; rfl
              have hw1 := HW.out k3
              have hsw1 := spanT_size (v := width) (by omega) hw2
              have HSp := Lib.hid (rspanT_any width wc hw1 hw2)
              have HK3 := Lib.hid k3
              clear k3
              go_wp2_with (go_at_call 77; refine (HSp.out).mono ?_; rintro e w8 ⟨rfl, hb8⟩)
              go_meet
              refine ⟨_, rfl, ?_, ?_, HB6.out.trans (hb8.mono HB6.out.size), HX6.out.below hb8 HX6.out.lt⟩
              · show _ = _
                rw [if_pos HK3.out]
                rfl
              · simp only [ByteArray.size_append]
                show S0.size + 1 + _ + 1 ≤ _
                omega
            · have hkb : (kind == 3) = false := by rw [beq_eq_false_iff_ne]; exact k3
              have HK3 := Lib.hid k3
              clear k3
              go_wp2_with fail
              go_meet
              exact ⟨S0, rfl, by show _ = _; rw [if_neg HK3.out], by omega, HB6.out, HX6.out⟩
          case rest =>
            obtain ⟨S1, rfl, HS1, hs1, hB7, hX7⟩ := hcut
            have HB7 := Lib.hid hB7
            have c5 := hX7.cell (j := 5) rfl
            clear hB7 hX7 HB6 HX6 c0 c4
            by_cases hbk : 0 < back
            · have HSb := Lib.hid (rspanT_any back wc (by omega) hb2)
              have hbn : (back != 0) = true := by rw [bne_iff_ne]; omega
              have HS2 : Hid (S1 ++ (⟨#[32, 111, 102, 102, 115, 101, 116, 32]⟩ : ByteArray) ++ spanT back = selT ⟨kind, op, text, ms, width, back, grp, names, cmp, parts⟩) := by
                show _ = _
                rw [HS.out, if_pos hbk, HS1.out]
                rfl
              clear HS HS1 hbk
              go_wp2_with (go_at_call 77; refine (HSb.out).mono ?_; rintro e w8 ⟨rfl, hb8⟩)
              go_ret
              exact ⟨ret_string HS2.out, HB7.out.trans (hb8.mono HB7.out.size)⟩
            · have HS2 : Hid (S1 = selT ⟨kind, op, text, ms, width, back, grp, names, cmp, parts⟩) := by
                show _ = _
                rw [HS.out, if_neg hbk, HS1.out]
              have hbn : (back != 0) = false := by rw [bne_eq_false_iff_eq]; omega
              clear HS HS1 hbk
              go_wp2_with fail
              go_ret
              exact ⟨ret_string HS2.out, HB7.out⟩
end Go.Proofs.YtakfnojiaakfpaaGreatDoor
