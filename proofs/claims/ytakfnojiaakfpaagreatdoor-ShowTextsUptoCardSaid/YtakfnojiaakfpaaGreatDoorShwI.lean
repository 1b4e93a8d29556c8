/- How a tree is written: a select. -/
import Derived.Test.YtakfnojiaakfpaaGreatDoorShwD
import Derived.Test.YtakfnojiaakfpaaGreatDoorParP
import Derived.Test.YtakfnojiaakfpaaGreatDoorShowD
import Derived.Deep.DeepCutAuto
namespace Go.Proofs.YtakfnojiaakfpaaGreatDoor
open Go.RowKit
theorem quoT_size (s : ByteArray) : (quoT s).size ≤ 2 * s.size + 2 := by
  have h1 := (escL_len s.data.toList).2
  have h2 : s.data.toList.length = s.size := (Lib.size_eq _).symm
  have h3 : (⟨(escL s.data.toList).toArray⟩ : ByteArray).size = (escL s.data.toList).length := by simp [ByteArray.size]
  rw [quoT_esc, ByteArray.size_append, ByteArray.size_append, h3]
  show 1 + _ + 1 ≤ _
  omega
theorem matsT_size (k : Nat) : (matsL.getD k ByteArray.empty).size ≤ 2 := by
  match k with
  | 0 => decide
  | 1 => decide
  | 2 => decide
  | 3 => decide
  | 4 => decide
  | k + 5 =>
    have : matsL.getD (k + 5) ByteArray.empty = ByteArray.empty := by
      rw [List.getD_eq_getElem?_getD, List.getElem?_eq_none (by show 5 ≤ k + 5; omega)]
      rfl
    rw [this]
    decide
theorem matcherT_size {m : Mat} (hn : m.name.size ≤ 1000) (hv : m.val.size ≤ 1000) : (matcherT m).size ≤ 3010 := by
  have h1 := quoT_size m.val
  have h2 := matsT_size m.kind.toNat
  rw [matcherT, ByteArray.size_append, ByteArray.size_append]
  omega
theorem joinT_le : ∀ {l : List ByteArray} {b : Nat}, (∀ x ∈ l, x.size ≤ b) → (joinT l).size ≤ l.length * (b + 2)
  | [], _, _ => by simp [joinT]
  | [x], b, h => by
    have := h x List.mem_cons_self
    simp [joinT]
    omega
  | x :: y :: r, b, h => by
    have h1 := h x List.mem_cons_self
    have ih := joinT_le (l := y :: r) (b := b) fun z hz => h z (List.mem_cons_of_mem x hz)
    show (x ++ sCommaB ++ joinT (y :: r)).size ≤ _
    rw [ByteArray.size_append, ByteArray.size_append]
    have e : (x :: y :: r).length * (b + 2) = (y :: r).length * (b + 2) + (b + 2) := by rw [List.length_cons, Nat.succ_mul]
    rw [e]
    show x.size + 2 + _ ≤ _
    omega
/-- The matchers' texts gathered so far. -/
def FilM (ms : List Mat) (w : World) (k : Nat) (v : Value) (wr : World) : Prop := ∃ A c, v = .slice A k c ∧ Own wr w.heap.size 9 1 A k c (textsC ((ms.take k).map matcherT)) ∧ Below w.heap.size w wr
theorem take_snoc {α : Type} {l : List α} {k : Nat} {x : α} (h : l[k]? = some x) : l.take (k + 1) = l.take k ++ [x] := by
  rw [List.take_add_one, h]
  rfl
theorem nocurl {s : ByteArray} (h : wordT s = true) : s.toList.isEmpty = false := by
  have h0 : 0 < s.size := by
    rcases Nat.eq_zero_or_pos s.size with h0 | h0
    · exfalso
      rw [wordT] at h
      have : s.data.toList = [] := List.length_eq_zero_iff.1 (by rw [← Lib.size_eq]; exact h0)
      rw [this] at h
      cases h
    · exact h0
  exact isEmpty_no h0
set_option maxRecDepth 100000 in
set_option maxHeartbeats 4000000 in
theorem schoice_any (n : Nod) (Am An : Option Addr) (cm cn : Nat) (w : World) (hr : Rd w w.heap.size 3 Am (matsC n.mat)) (hcm : n.mat.length ≤ cm) (hm : matCode n.mat = 0) (hv : ∀ m ∈ n.mat, m.name.size ≤ 1000 ∧ m.val.size ≤ 1000) (hw : 0 ≤ n.width) (hw2 : n.width < 2147483648) (hb : 0 ≤ n.back) (hb2 : n.back < 2147483648) (htab : Tab10 w) :
    Calls Tryz.prog 46 #[nodeV n Am An cm cn] w fun e w' => e = .returned (.string (selT n)) ∧ Below w.heap.size w w' := by
  have HR := Lib.hid hr
  have HM := Lib.hid (matCode_iff.1 hm)
  have HV := Lib.hid hv
  have HTab := Lib.hid htab
  have hlen := (matCode_iff.1 hm).1
  clear hr hm hv htab
  have HS : Hid (selT n = (if 0 < n.back then (if n.kind = 3 then sel0 n.mat ++ sSq ++ spanT n.width ++ sUnsq else sel0 n.mat) ++ sOffsetB ++ spanT n.back else (if n.kind = 3 then sel0 n.mat ++ sSq ++ spanT n.width ++ sUnsq else sel0 n.mat))) := rfl
  unfold nodeV
  obtain ⟨kind, op, text, ms, width, back, grp, names, cmp, parts⟩ := n
  dsimp only at *
  generalize hnl0 : ms.length = nl at *
  have HNL := Lib.hid hnl0
  clear hnl0
  go_enter Tryz.func46, Tryz.ntmps46
  go_upto_region 1 with fail
  generalize hW : World.alloc _ _ = W0
  have hB0 : Below w.heap.size w W0 := by rw [← hW]; exact by repeat (first | exact Below.refl _ _ | refine Below.alloc ?_ (by first | exact Nat.le_refl _ | (simp; done) | (simp; omega)) _ | refine Below.setCell ?_ (by first | exact Nat.le_refl _ | (simp; done) | (simp; omega)) _ | refine Below.drew ?_)
  have hX0 : Blk W0 w.heap.size 41 [.int .i64 kind, .int .i64 op, .string text, .slice Am nl cm, .int .i64 width, .int .i64 back, .int .i64 grp, .slice An names.length cn, .bool cmp, .int .i64 parts] := by rw [← hW]; exact Blk.new w _ _
  clear hW
  have c3 := hX0.cell (j := 3) rfl
  go_quiet (fail)
  have hB1 := below_drewN hB0 nq
  have hX1 : Blk (W0.drewN nq) w.heap.size 41 _ := hX0
  clear hB0 hX0 c3
  generalize W0.drewN nq = W1 at *
  go_upto_region 2 with fail
  go_cut [41] (fun v wx => v = .bool (namedT ms) ∧ Below w.heap.size w wx ∧ Blk wx w.heap.size 41 [.int .i64 kind, .int .i64 op, .string text, .slice Am nl cm, .int .i64 width, .int .i64 back, .int .i64 grp, .slice An names.length cn, .bool cmp, .int .i64 parts])
  case first =>
    cases ms with
    | nil =>
      obtain rfl : nl = 0 := by have := HNL.out; simp at this; omega
      go_wp2_with fail
      go_meet
      exact ⟨rfl, hB1, hX1⟩
    | cons m r =>
      obtain ⟨b, o, rfl, hbl, m0, m1, m2⟩ := (HR.out.below hB1).at_mat (k := 0) (l := m) rfl
      simp only [Nat.zero_mul, Nat.add_zero] at m0 m1 m2
      have hmv := (HV.out m List.mem_cons_self).2
      obtain ⟨mk, mn, mv⟩ := m
      dsimp only at *
      have hnl1 : 0 < nl := by have := HNL.out; simp at this; omega
      have hnl2 : (0 : Int) < nl := by omega
      have HBX : Hid (Below w.heap.size w W1 ∧ Blk W1 w.heap.size 41 _) := ⟨hB1, hX1⟩
      clear hB1 hX1
      by_cases k1 : mk = 1
      · subst k1
        by_cases k2 : mn = ⟨#[95, 95, 110, 97, 109, 101, 95, 95]⟩
        · subst k2
          have HWd := fun W => Lib.hid (lword_any mv W (by omega))
          have HK := fun W => Lib.hid (kept_any mv W)
          cases hwd : wordT mv with
          | true =>
            rw [hwd] at HWd
            cases hkp : keptB mv with
            | true =>
              rw [hkp] at HK
              have HN : Hid (namedT (⟨1, ⟨#[95, 95, 110, 97, 109, 101, 95, 95]⟩, mv⟩ :: r) = false) := by show _ = _; simp [namedT, hkp]
              clear hwd hkp
              go_wp2_with (first | (go_at_call 78; refine ((HWd _).out).mono ?_; rintro e w' ⟨rfl, rfl⟩) | (go_at_call 79; refine ((HK _).out).mono ?_; rintro e w' ⟨rfl, hb9⟩))
              go_meet
              exact ⟨by rw [HN.out], HBX.out.1.trans (hb9.mono HBX.out.1.size), HBX.out.2.below hb9 HBX.out.2.lt⟩
            | false =>
              rw [hkp] at HK
              have HN : Hid (namedT (⟨1, ⟨#[95, 95, 110, 97, 109, 101, 95, 95]⟩, mv⟩ :: r) = true) := by show _ = _; simp [namedT, hkp, hwd]; rfl
              clear hwd hkp
              go_wp2_with (first | (go_at_call 78; refine ((HWd _).out).mono ?_; rintro e w' ⟨rfl, rfl⟩) | (go_at_call 79; refine ((HK _).out).mono ?_; rintro e w' ⟨rfl, hb9⟩))
              go_meet
              exact ⟨by rw [HN.out], HBX.out.1.trans (hb9.mono HBX.out.1.size), HBX.out.2.below hb9 HBX.out.2.lt⟩
          | false =>
            rw [hwd] at HWd
            have HN : Hid (namedT (⟨1, ⟨#[95, 95, 110, 97, 109, 101, 95, 95]⟩, mv⟩ :: r) = false) := by show _ = _; simp [namedT, hwd]
            clear hwd
            go_wp2_with (go_at_call 78; refine ((HWd _).out).mono ?_; rintro e w' ⟨rfl, rfl⟩)
            go_meet
            exact ⟨by rw [HN.out], HBX.out⟩
        · have HN : Hid (namedT (⟨1, mn, mv⟩ :: r) = false) := by
            show _ = _
            have : (decide (mn = sNameN)) = false := by simp only [decide_eq_false_iff_not]; exact k2
            simp [namedT, this]
          have hnl : ¬ mn.toList = [95, 95, 110, 97, 109, 101, 95, 95] := fun h => k2 (toList_inj.1 (h.trans (by decide +kernel)))
          go_wp2_with fail
          go_meet
          exact ⟨by rw [HN.out], HBX.out⟩
      · have HN : Hid (namedT (⟨mk, mn, mv⟩ :: r) = false) := by show _ = _; simp [namedT, k1]
        go_wp2_with fail
        go_meet
        exact ⟨by rw [HN.out], HBX.out⟩
  case rest =>
    clear hB1 hX1
    obtain ⟨rfl, hB2, hX2⟩ := hcut
    have HBX : Hid (Below w.heap.size w wc ∧ Blk wc w.heap.size 41 _) := ⟨hB2, hX2⟩
    clear hB2 hX2
    generalize hnm : namedT ms = nm
    have HNM := Lib.hid hnm
    clear hnm
    go_upto_if 41 with fail
    go_cut [3, 4] (fun v3 v4 wx => v3 = .string (headT ms) ∧ ∃ A2 c2, v4 = .slice A2 (restT ms).length c2 ∧ Hid (Rd wx w.heap.size 3 A2 (matsC (restT ms)) ∧ (restT ms).length ≤ c2 ∧ Below w.heap.size w wx ∧ Blk wx w.heap.size 41 [.int .i64 kind, .int .i64 op, .string text, .slice Am nl cm, .int .i64 width, .int .i64 back, .int .i64 grp, .slice An names.length cn, .bool cmp, .int .i64 parts]))
    case first =>
      cases nm with
      | true =>
        obtain ⟨m, r, rfl, e1, e2, e3, e4, e5, e6⟩ := named_word HNM.out
        have HH := Lib.hid e5
        have HT := Lib.hid e6
        clear e1 e2 e3 e4 e5 e6
        have hr2 := HR.out.below HBX.out.1
        obtain ⟨b, o, rfl, hbl, m0, m1, m2⟩ := hr2.at_mat (k := 0) (l := m) rfl
        simp only [Nat.zero_mul, Nat.add_zero] at m0 m1 m2
        have HRT := Lib.hid (Rd.tail1 (x := matC m) (xs := matsC r) hr2)
        clear hr2
        have hnl1 : 0 < nl := by have := HNL.out; simp at this; omega
        have hnl2 : (0 : Int) < nl := by omega
        go_upto_region 3 with fail
        go_quiet (fail)
        have hB5 := below_drewN HBX.out.1 nq
        have hX5 : Blk (wc.drewN nq) w.heap.size 41 _ := HBX.out.2
        have hr5 : Rd (wc.drewN nq) w.heap.size 3 _ (matsC r) := HRT.out
        by_cases hc1 : cm = 1
        · subst hc1
          have hr0 : Hid (r = [] ∧ nl = 1) := by
            have := HNL.out
            simp at this
            exact ⟨List.eq_nil_of_length_eq_zero (by omega), by omega⟩
          go_wp2_with fail
          go_meet
          exact ⟨by rw [HH.out], _, _, by rw [HT.out, hr0.out.1, hr0.out.2]; rfl, by rw [HT.out, hr0.out.1]; exact ⟨Rd.nil_, by simp, hB5, hX5⟩⟩
        · have hc2 : 1 < cm := by omega
          have hlr : Hid (nl - 1 = r.length) := by
            have := HNL.out
            simp at this
            show _ = _
            omega
          go_wp2_with fail
          go_meet
          exact ⟨by rw [HH.out], _, _, by rw [HT.out, ← hlr.out], by rw [HT.out]; exact ⟨hr5, by rw [← hlr.out]; omega, hB5, hX5⟩⟩
      | false =>
        have HH : Hid (headT ms = ByteArray.empty ∧ restT ms = ms) := by
          refine ⟨?_, ?_⟩
          · rw [headT, if_neg (by rw [HNM.out]; decide)]
          · rw [restT, if_neg (by rw [HNM.out]; decide)]
        go_wp2_with fail
        go_meet
        exact ⟨by rw [HH.out.1]; rfl, Am, cm, by rw [HH.out.2, HNL.out], by rw [HH.out.2]; exact ⟨HR.out.below HBX.out.1, by rw [HNL.out]; exact hcm, HBX.out.1, HBX.out.2⟩⟩
    case rest =>
      obtain ⟨rfl, A2, c2, rfl, hall⟩ := hcut
      obtain ⟨hrd, hcap, hB4, hX4⟩ := hall.out
      clear hall HBX
      have hsub : ∀ x ∈ restT ms, x ∈ ms := rest_sub
      have HE : Hid (nm = true → (headT ms).toList.isEmpty = false) := by
        intro h
        obtain ⟨m, r, rfl, e1, e2, e3, e4, e5, e6⟩ := named_word (HNM.out.trans h)
        rw [e5]
        exact nocurl e3
      have HE2 : Hid (nm = false → headT ms = ByteArray.empty) := by
        intro h
        rw [headT, if_neg (by rw [HNM.out, h]; decide)]
      have HS0 : Hid (sel0 ms = if nm = true ∧ restT ms = [] then headT ms else headT ms ++ bracesT (restT ms)) := by
        show _ = _
        rw [← HNM.out]
        rfl
      have hhd : (headT ms).size ≤ 1000 := by
        cases hn : nm with
        | true =>
          obtain ⟨m, r, rfl, e1, e2, e3, e4, e5, e6⟩ := named_word (HNM.out.trans hn)
          rw [e5]
          exact (HV.out m List.mem_cons_self).2
        | false => rw [HE2.out hn]; decide
      have HL : Hid (∀ x ∈ restT ms, kindB x.kind = true ∧ x.name.size ≤ 1000 ∧ x.val.size ≤ 1000) := by
        intro x hx
        have h1 := HV.out x (hsub x hx)
        have h2 := List.all_eq_true.1 HM.out.2 x (hsub x hx)
        simp only [matB, Bool.and_eq_true] at h2
        exact ⟨h2.1.1, h1⟩
      have hl8 : (restT ms).length ≤ 8 := by
        have := HNL.out
        unfold restT
        split
        · rw [List.length_tail]; omega
        · omega
      clear hsub HNM HV HM HR
      generalize sel0 ms = S0 at *
      generalize headT ms = hd at *
      generalize restT ms = ls at *
      clear HNL
      generalize hnl2 : ls.length = n2 at *
      have HN2 := Lib.hid hnl2
      clear hnl2
      have HRX : Hid (Rd wc w.heap.size 3 A2 (matsC ls) ∧ Below w.heap.size w wc ∧ Blk wc w.heap.size 41 _) := ⟨hrd, hB4, hX4⟩
      clear hrd hB4 hX4
      go_upto_region 4 with fail
      go_cut [54] (fun v wx => ∃ b : Bool, v = .bool b ∧ wx = wc ∧ Hid ((b = false → S0 = hd) ∧ (b = true → S0 = hd ++ bracesT ls)))
      case first =>
        cases ls with
        | nil =>
          obtain rfl : n2 = 0 := by have := HN2.out; simp at this; omega
          cases nm with
          | true =>
            have he := HE.out rfl
            go_wp2_with fail
            go_meet
            exact ⟨false, rfl, rfl, ⟨fun _ => by rw [HS0.out, if_pos (by simp)], fun h => by cases h⟩⟩
          | false =>
            obtain rfl := HE2.out rfl
            go_wp2_with fail
            go_meet
            exact ⟨true, rfl, rfl, ⟨fun h => (by cases h), fun _ => by rw [HS0.out, if_neg (by simp)]⟩⟩
        | cons x r =>
          have hn1 : 0 < n2 := by have := HN2.out; simp at this; omega
          have hn2 : (0 : Int) < n2 := by omega
          go_wp2_with fail
          go_meet
          exact ⟨true, rfl, rfl, ⟨fun h => (by cases h), fun _ => by rw [HS0.out, if_neg (by simp)]⟩⟩
      case rest =>
        obtain ⟨b54, rfl, rfl, HSX⟩ := hcut
        clear HS0 HE HE2
        go_upto_if 54 with fail
        go_cut [3] (fun v wx => v = .string S0 ∧ Below w.heap.size w wx ∧ Blk wx w.heap.size 41 [.int .i64 kind, .int .i64 op, .string text, .slice Am nl cm, .int .i64 width, .int .i64 back, .int .i64 grp, .slice An names.length cn, .bool cmp, .int .i64 parts])
        case first =>
          cases b54 with
          | false =>
            go_wp2_with fail
            go_meet
            exact ⟨by rw [HSX.out.1 (by simp)], HRX.out.2⟩
          | true =>
            have HSB := Lib.hid (HSX.out.2 (by simp))
            clear HSX
            obtain ⟨hrd, hB4, hX4⟩ := HRX.out
            clear HRX
            have hz4 := hB4.size
            have HX4 := Lib.hid hX4
            have HB4 := Lib.hid hB4
            clear hX4 hB4
            go_wp2_with fail
            go_loopw [57, 5] (fun i v wr => ∃ k : Nat, i = .int .i64 k ∧ k ≤ n2 ∧ Hid (FilM ls wc k v wr)) (fun i _ _ => n2 - (intOf i).toNat)
            case atStart => exact ⟨0, rfl, by omega, none, 0, rfl, Own.nil_ (by omega), Below.refl _ _⟩
            case round =>
              obtain ⟨k, rfl, hk, HF⟩ := hrel
              have hk0 : (0 : Int) ≤ k := by omega
              obtain ⟨A5, c5, rfl, ho, hbw⟩ := HF.out
              have hsw := hbw.size
              have hcp := ho.cap
              by_cases hlt : k < n2
              · have hltI : (k : Int) < n2 := by omega
                obtain ⟨x, hx⟩ := get_lt HN2 hlt
                obtain ⟨b3, o3, rfl, hb3, m0, m1, m2⟩ := (hrd.below (hbw.mono hz4)).at_mat hx
                obtain ⟨y1, y2, y3⟩ := HL.out x (List.mem_of_getElem? hx)
                have HTK := Lib.hid (take_snoc hx)
                have hb4 : b3 < wr.heap.size := by omega
                clear hx
                go_wp2_with fail
                generalize hW : World.alloc _ _ = W5
                have hX5 : Blk W5 wr.heap.size 37 [.int .i64 x.kind, .string x.name, .string x.val] := by rw [← hW]; exact Blk.new _ _ _
                have ho5 : Own W5 wc.heap.size 9 1 A5 k c5 (textsC ((ls.take k).map matcherT)) := by rw [← hW]; exact ho.alloc _
                have hb5 : Below wc.heap.size wc W5 := by rw [← hW]; exact hbw.alloc hsw _
                clear hW m0 m1 m2 ho hbw HF hsw hcp
                have HM5 := Lib.hid (smatcher_any x W5 y1 y2 y3)
                have hts := matcherT_size y2 y3
                refine (HM5.out).mono ?_
                rintro e w6 ⟨rfl, hb6⟩
                have HO6 := Lib.hid (ho5.belowAll hb6)
                have HB6 := Lib.hid (hb5.trans (hb6.mono hb5.size))
                have hz6 := HB6.out.size
                clear ho5 hb5 hX5 hb6 HM5
                go_wp2_with (at_builtin; go_must (refine wpList_append_rd (ys := textsC [matcherT x]) _ rfl (.tmp 61) (.tmp 64) _ rfl eiTexts rfl (HO6.out.alloc _) rfl (Rd.new (xs := textsC [matcherT x]) w6 (textsC_sz _) _ rfl) rfl (textsC_one _) (by simp only [maxLen]; omega) (by omega) (by simp; omega) ?_; intro A7 c7 w7 ho7 hg7 hat7 hb7))
                have HF2 : Hid (FilM ls wc (k + 1) (.slice A7 (k + 1) c7) w7) := ⟨A7, c7, rfl, by rw [HTK.out, List.map_append]; simpa [textsC] using ho7, HB6.out.trans (((Below.refl _ _).alloc (by omega) _).trans hb7)⟩
                clear ho7 hg7 hat7 hb7
                go_wp2_with fail
                go_roundw
                case rel => exact ⟨k + 1, by go_num, by omega, HF2⟩
                case measure => simp [intOf]; omega
              · have hltI : ¬ (k : Int) < n2 := by omega
                have hkn : k = n2 := by omega
                subst hkn
                have htk : ls.take k = ls := by rw [List.take_of_length_le (by rw [HN2.out]; omega)]
                rw [htk] at ho
                have hjl : (joinT (ls.map matcherT)).size ≤ 8 * (3010 + 2) := by
                  have h1 := joinT_le (l := ls.map matcherT) (b := 3010) (by
                    intro z hz
                    obtain ⟨x, hx, rfl⟩ := List.mem_map.1 hz
                    have := HL.out x hx
                    exact matcherT_size this.2.1 this.2.2)
                  rw [List.length_map, HN2.out] at h1
                  exact Nat.le_trans h1 (Nat.mul_le_mul_right _ hl8)
                have HJ := Lib.hid (join_any (ls.map matcherT) A5 k c5 wr.heap.size wr ho.rd (by rw [List.length_map]; exact HN2.out) hcp.1 (by omega) (Nat.le_refl _) (by omega))
                have HSB2 : Hid (S0 = hd ++ ((⟨#[123]⟩ : ByteArray) ++ joinT (ls.map matcherT) ++ (⟨#[125]⟩ : ByteArray))) := HSB
                clear htk ho HF
                go_wp2_with (go_at_call 81; refine (HJ.out).mono ?_; rintro e w8 ⟨rfl, hb8⟩)
                go_meet
                exact ⟨by rw [HSB2.out], HB4.out.trans ((hbw.trans (hb8.mono hsw)).mono hz4), (HX4.out.below hbw HX4.out.lt).below hb8 (Nat.lt_of_lt_of_le HX4.out.lt hsw)⟩
        case rest =>
          obtain ⟨rfl, hB6, hX6⟩ := hcut
          have hS0 : S0.size ≤ 30000 := by
            cases b54 with
            | false => rw [HSX.out.1 (by simp)]; omega
            | true =>
              rw [HSX.out.2 (by simp), bracesT, ByteArray.size_append, ByteArray.size_append, ByteArray.size_append]
              have h1 := joinT_le (l := ls.map matcherT) (b := 3010) (by
                intro z hz
                obtain ⟨x, hx, rfl⟩ := List.mem_map.1 hz
                have := HL.out x hx
                exact matcherT_size this.2.1 this.2.2)
              rw [List.length_map, HN2.out] at h1
              have h2 := Nat.le_trans h1 (Nat.mul_le_mul_right _ hl8)
              show hd.size + (1 + _ + 1) ≤ _
              omega
          clear HSX HRX HN2 HL
          have HB6 := Lib.hid hB6
          have HX6 := Lib.hid hX6
          have c0 := hX6.cell (j := 0) rfl
          have c4 := hX6.cell (j := 4) rfl
          have hsw1 := spanT_size hw hw2
          have hsb1 := spanT_size hb hb2
          have HT0 := Lib.hid (HTab.out.below hB6)
          have HSp := Lib.hid (sspan_any width wc hw (by omega) HT0.out)
          clear hB6 hX6
          go_upto_if 75 with fail
          go_cut [3] (fun v wx => ∃ S1 : ByteArray, v = .string S1 ∧ Hid (S1 = if kind = 3 then S0 ++ sSq ++ spanT width ++ sUnsq else S0) ∧ S1.size ≤ 30100 ∧ Below w.heap.size w wx ∧ Blk wx w.heap.size 41 [.int .i64 kind, .int .i64 op, .string text, .slice Am nl cm, .int .i64 width, .int .i64 back, .int .i64 grp, .slice An names.length cn, .bool cmp, .int .i64 parts])
          case first =>
            by_cases k3 : kind = 3
            · have hkb : (kind == 3) = true := by rw [k3]; rfl
              have HK3 := Lib.hid k3
              clear k3
              go_wp2_with (go_at_call 82; refine (HSp.out).mono ?_; rintro e w8 ⟨rfl, hb8⟩)
              go_meet
              refine ⟨_, rfl, ?_, ?_, HB6.out.trans (hb8.mono HB6.out.size), HX6.out.below hb8 HX6.out.lt⟩
              · show _ = _
                rw [if_pos HK3.out, ← ByteArray.append_assoc, ← ByteArray.append_assoc]
                rfl
              · simp only [ByteArray.size_append]
                show S0.size + (1 + _ + 1) ≤ _
                omega
            · have hkb : (kind == 3) = false := by rw [beq_eq_false_iff_ne]; exact k3
              have HK3 := Lib.hid k3
              clear k3
              go_wp2_with fail
              go_meet
              exact ⟨S0, rfl, by show _ = _; rw [if_neg HK3.out], by omega, HB6.out, HX6.out⟩
          case rest =>
            obtain ⟨S1, rfl, HS1, hs1, hB7, hX7⟩ := hcut
            have HB7 := Lib.hid hB7
            have c5 := hX7.cell (j := 5) rfl
            have HT7 := Lib.hid (HTab.out.below hB7)
            have HSb := Lib.hid (sspan_any back wc hb (by omega) HT7.out)
            clear hB7 hX7 HB6 HX6 HSp HT0 c0 c4
            by_cases hbk : 0 < back
            · have HS2 : Hid (S1 ++ ((⟨#[32, 111, 102, 102, 115, 101, 116, 32]⟩ : ByteArray) ++ spanT back) = selT ⟨kind, op, text, ms, width, back, grp, names, cmp, parts⟩) := by
                show _ = _
                rw [HS.out, if_pos hbk, HS1.out, ← ByteArray.append_assoc]
                rfl
              clear HS HS1
              go_wp2_with (go_at_call 82; refine (HSb.out).mono ?_; rintro e w8 ⟨rfl, hb8⟩)
              go_ret
              exact ⟨ret_string HS2.out, HB7.out.trans (hb8.mono HB7.out.size)⟩
            · have HS2 : Hid (S1 = selT ⟨kind, op, text, ms, width, back, grp, names, cmp, parts⟩) := by
                show _ = _
                rw [HS.out, if_neg hbk, HS1.out]
              clear HS HS1
              go_wp2_with fail
              go_ret
              exact ⟨ret_string HS2.out, HB7.out⟩
end Go.Proofs.YtakfnojiaakfpaaGreatDoor
