/- The document's writer: any tree, or a refusal. -/
import Derived.Test.YtakfnojiaakfpaaGreatDoorRShwF
import Derived.Test.YtakfnojiaakfpaaGreatDoorRTypC
import Derived.Test.YtakfnojiaakfpaaGreatDoorShwM
namespace Go.Proofs.YtakfnojiaakfpaaGreatDoor
open Go.RowKit
/-- A node over its parts, of any kind. -/
theorem rover_any (x : Nod) (Am An : Option Addr) (cm cn : Nat) (p : List Sd) (A3 : Option Addr) (l c B : Nat) (w : World) (hx : formB x = true) (hmat : matCode x.mat = 0) (hl : p.length = l) (hp : l = x.parts.toNat) (hr : Rd w B 3 A3 (sdsC p)) (hB : B ≤ w.heap.size)
    (hM : Rd w w.heap.size 3 Am (matsC x.mat)) (hcm : x.mat.length ≤ cm) (hN : NamesAt x An cn w) (hin : ∀ s ∈ p, SdIn s) :
    Calls Tryz.prog 19 #[nodeV x Am An cm cn, .slice A3 l c] w fun e w' => e = .returned (sdV (sayT x p)) ∧ Below w.heap.size w w' := by
  subst hl
  have hw3 : x.kind = 3 → 1 ≤ x.width := by
    intro h3
    rcases form_node hx with ⟨e, _⟩ | ⟨_, _, h1, _⟩ | ⟨e, _⟩ | ⟨e, _⟩ | ⟨e, _⟩ | e
    · rw [e] at h3; cases h3
    · omega
    · rw [e] at h3; cases h3
    · rw [e] at h3; cases h3
    · rw [e] at h3; cases h3
    · rw [e] at h3; cases h3
  have hvs := (mats_short hmat).2
  rcases kind_is hx with ⟨hk, e⟩ | ⟨hk, e, w1, w2, w3, w4⟩ | ⟨hk, e, h1⟩ | ⟨hk, e, h1, h2⟩ | ⟨hk, e, h1, h2⟩ | ⟨hk, e⟩ <;> rw [e] at hp
  · rw [say_1 hk]
    exact rover1_any x Am An cm cn _ w hk
  · rw [say_23 hk]
    refine rover2_any x Am An cm cn _ w hk (fun W hb => rselector_any x Am An cm cn W ((hM.below hb).more hb.size) hcm hmat (fun m hm => ⟨?_, ?_⟩) hw3 w2 w3 w4)
    · have h := (hvs m hm).2.1
      simp only [nameB, Bool.and_eq_true, decide_eq_true_eq] at h
      omega
    · have := (hvs m hm).1
      omega
  · obtain ⟨s, rfl⟩ : ∃ s, p = [s] := List.length_eq_one_iff.1 (by rw [hp]; rfl)
    rw [say_4 hk]
    exact rover4_any x Am An cm cn s A3 c B w hk hr hB h1 (hin s List.mem_cons_self)
  · obtain ⟨s, rfl⟩ : ∃ s, p = [s] := List.length_eq_one_iff.1 (by rw [hp]; rfl)
    rw [say_5 hk]
    exact rover5_any x Am An cm cn s A3 c B w hk hr hB h1 h2 hN (hin s List.mem_cons_self)
  · obtain ⟨s, t, rfl⟩ : ∃ s t, p = [s, t] := by
      match p, hp with
      | [s, t], _ => exact ⟨s, t, rfl⟩
    rw [say_6 hk]
    exact rover6_any x Am An cm cn s t A3 c B w hk hr hB h1 h2 hN (hin s List.mem_cons_self) (hin t (List.mem_cons_of_mem _ List.mem_cons_self))
  · obtain ⟨s, rfl⟩ : ∃ s, p = [s] := List.length_eq_one_iff.1 (by rw [hp]; rfl)
    rw [say_7 hk]
    exact rover7_any x Am An cm cn s A3 c B w hk hr hB (hin s List.mem_cons_self)
theorem eiPart : EI Tryz.prog 43 45 3 32 := EI.mk' Tryz.underlying43 (z := .agg #[.string ByteArray.empty, .int .i64 0, .int .i64 0]) (by kernel_rfl) rfl (by omega)
/-- The loop's round. -/
def RndR (ns : List Nod) (wb : World) (k : Nat) (v : Value) (wr : World) : Prop :=
  ∃ ty st A m c, v = .slice A m c ∧ st.length = m ∧ ShowAt ns k ty st ∧ Own wr wb.heap.size 45 3 A m c (sdsC st) ∧ Below wb.heap.size wb wr ∧ mayB (ns.take k) = true
def matsClean (ms : List Mat) : Bool := ms.all fun m => cleanB m.val
theorem may_snoc {ns : List Nod} {k : Nat} {x : Nod} (h : mayB (ns.take k) = true) (hx : ns[k]? = some x) (hc : matsClean x.mat = true) : mayB (ns.take (k + 1)) = true := by
  rw [take_snoc hx, mayB, List.all_append, Bool.and_eq_true]
  refine ⟨h, ?_⟩
  rw [List.all_cons, List.all_nil, Bool.and_true]
  exact hc
theorem may_not {ns : List Nod} {k p : Nat} {x : Nod} {m : Mat} (hx : ns[k]? = some x) (hm : x.mat[p]? = some m) (hc : cleanB m.val = false) : mayB ns = false := by
  cases h : mayB ns with
  | false => rfl
  | true =>
    have h1 := List.all_eq_true.1 h x (List.mem_of_getElem? hx)
    have h2 := List.all_eq_true.1 h1 m (List.mem_of_getElem? hm)
    rw [hc] at h2
    cases h2
theorem clean_take {ms : List Mat} {p : Nat} {m : Mat} (h : matsClean (ms.take p) = true) (hm : ms[p]? = some m) (hc : cleanB m.val = true) : matsClean (ms.take (p + 1)) = true := by
  rw [take_snoc hm, matsClean, List.all_append, Bool.and_eq_true]
  exact ⟨h, by simp [hc]⟩
set_option maxRecDepth 100000 in
set_option maxHeartbeats 8000000 in
theorem rshow_any (ns : List Nod) (A1 : Option Addr) (n1 c1 B1 : Nat) (w : World) (h1 : RdNods w B1 A1 ns) (hn1 : ns.length = n1) (hB : B1 ≤ w.heap.size) (hm1 : n1 * 120 ≤ 140737488355328) (hok : ∀ x ∈ ns, okShow x) :
    Calls Tryz.prog 9 #[.slice A1 n1 c1] w (ShowRes ns w) := by
  have HN1 := Lib.hid hn1
  have HOK := Lib.hid hok
  have HR := Lib.hid h1
  have HC := Lib.hid (rcheck_any ns A1 n1 c1 B1 w h1 hn1 hB hm1 (fun x hx => (hok x hx).1))
  clear hn1 hok h1
  go_enter Tryz.func9, Tryz.ntmps9
  go_wp2_with fail
  refine (HC.out).mono ?_
  rintro e w1 ⟨rfl, hb1⟩
  have HB1 := Lib.hid hb1
  have hz1 := hb1.size
  clear hb1 HC
  by_cases he : (checkN ns).2.2 = 0
  · obtain ⟨t, hrun, hlen⟩ := check_run he
    have HSome := Lib.hid (fun (st : List Sd) (h1 : mayB ns = true) (h2 : showF ns [] = some st) => showT_some he h1 h2)
    have HRun := Lib.hid hrun
    have hn4 : n1 ≤ 4096 := by have := HN1.out; omega
    have hneb : ((checkN ns).2.2 != 0) = false := by rw [he]; rfl
    clear hrun hlen he
    generalize (checkN ns).2.2 = ce at *
    generalize (checkN ns).2.1 = ca at *
    generalize (checkN ns).1 = ck at *
    go_wp2_with fail
    go_loopw [8, 7] (fun i v wr => ∃ k : Nat, i = .int .i64 k ∧ k ≤ n1 ∧ Hid (RndR ns w1 k v wr)) (fun i _ _ => n1 - (intOf i).toNat)
    case atStart => exact ⟨0, rfl, by omega, [], [], none, 0, 0, rfl, rfl, ShowAt.start ns, Own.nil_ (by omega), Below.refl _ _, rfl⟩
    case round =>
      obtain ⟨k, rfl, hk, HRd⟩ := hrel
      have hk0 : (0 : Int) ≤ k := by omega
      obtain ⟨ty, st, A, m, c, rfl, hsm, hsa, hst, hbw, hmy⟩ := HRd.out
      have HSM := Lib.hid hsm
      have hzw := hbw.size
      have hcap := Own.cap hst
      by_cases hlt : k < n1
      · have hltI : (k : Int) < n1 := by omega
        obtain ⟨x, hx⟩ := get_lt HN1 hlt
        obtain ⟨b1, o1, Am, cm, An, cn, rfl, hb1, p0, p1, p2, p3, p4, p5, p6, p7, p8, p9, r1, r2, r3, r4, r5, r6⟩ := (HR.out.below ((HB1.out.trans (hbw.mono hz1)).mono hB)).at_ hx
        obtain ⟨f1, f2, f3, f4⟩ := hsa.parts HRun.out hx
        rw [hsm] at f4
        have hbl : b1 < wr.heap.size := by omega
        have hfew := hsa.few
        rw [hsm] at hfew
        clear hsm
        have HX := Lib.hid hx
        have HSA := Lib.hid hsa
        have HST := Lib.hid hst
        have HBW := Lib.hid hbw
        have HMY := Lib.hid hmy
        have HF := Lib.hid (⟨f1, f2⟩ : formB x = true ∧ matCode x.mat = 0)
        have HRr := Lib.hid (⟨r1, r2, r3, r4, r5, r6⟩ : _ ∧ _ ∧ _ ∧ _ ∧ _ ∧ _)
        have hml : x.mat.length ≤ 8 := (mats_short f2).1
        clear hx hsa hst hbw hmy f1 f2 r1 r2 r4 r5 r6 HRd
        obtain ⟨q, hq⟩ : ∃ q, cutT st x = q := ⟨_, rfl⟩
        have hq1 : m - x.parts.toNat = q := by rw [← HSM.out]; exact hq
        have hfrom : IntKind.i64.wrap ((m : Int) - x.parts) = (q : Int) := by rw [IntKind.wrap_i64]; omega
        have hqp : q + x.parts.toNat = m := by omega
        have HQ := Lib.hid hq
        have HQP := Lib.hid hqp
        clear hq hq1
        obtain ⟨ml, hml2⟩ : ∃ ml, x.mat.length = ml := ⟨_, rfl⟩
        have HML := Lib.hid hml2
        rw [hml2] at p3 hml r3
        clear hml2
        go_wp2_with fail
        go_loop [9] (fun i => ∃ p : Nat, i = .int .i64 p ∧ p ≤ ml ∧ Hid (matsClean (x.mat.take p) = true)) (fun i => ml - (intOf i).toNat)
        case atStart => exact ⟨0, rfl, by omega, rfl⟩
        case round =>
          obtain ⟨p, rfl, hp, HCl⟩ := hrel
          have hp0 : (0 : Int) ≤ p := by omega
          by_cases hpl : p < ml
          · have hplI : (p : Int) < ml := by omega
            obtain ⟨mt, hmt⟩ := get_lt HML hpl
            obtain ⟨b3, o3, rfl, hb3, m0, m1, m2⟩ := HRr.out.1.at_mat hmt
            have hvz : mt.val.size ≤ 1000000 := by have := ((mats_short HF.out.2).2 mt (List.mem_of_getElem? hmt)).1; omega
            have HK := Lib.hid (rclean_any mt.val wr hvz)
            cases hcl : cleanB mt.val with
            | true =>
              have HN2 := Lib.hid (clean_take HCl.out hmt hcl)
              rw [hcl] at HK
              clear hcl hmt
              go_wp2_with (go_at_call 18; refine (HK.out).mono ?_; rintro e w5 ⟨rfl, rfl⟩)
              go_round
              case rel => exact ⟨p + 1, by go_num, by omega, HN2⟩
              case measure => simp [intOf]; omega
            | false =>
              have HT := Lib.hid (showT_may (may_not HX.out hmt hcl))
              rw [hcl] at HK
              clear hcl hmt
              go_wp2_with (go_at_call 18; refine (HK.out).mono ?_; rintro e w5 ⟨rfl, rfl⟩)
              go_ret2
              exact ⟨ret_show HT.out, HB1.out.trans (HBW.out.mono hz1)⟩
          · have hplI : ¬ (p : Int) < ml := by omega
            have HMa : Hid (matsClean x.mat = true) := by
              have := HCl.out
              rw [List.take_of_length_le (by rw [HML.out]; omega)] at this
              exact this
            have HMY2 := Lib.hid (may_snoc HMY.out HX.out HMa.out)
            have e := HML.out
            subst e
            obtain ⟨r1, r2, _, r4, r5, r6⟩ := HRr.out
            have hB1r : B1 ≤ wr.heap.size := by omega
            have hOk := HOK.out x (List.mem_of_getElem? HX.out)
            have HC := fun (W : World) (hb : Below wr.heap.size wr W) (A3 : Option Addr) (c3 : Nat) (hrd : Rd W W.heap.size 3 A3 (sdsC (st.drop q))) => Lib.hid (rover_any x Am An cm cn (st.drop q) A3 (m - q) c3 W.heap.size W HF.out.1 HF.out.2 (by rw [List.length_drop, HSM.out]) (by have := HQP.out; omega) hrd (Nat.le_refl _)
              ((r1.below (hb.mono hB1r)).more (by have := hb.size; omega)) r3 ⟨(r2.below (hb.mono hB1r)).more (by have := hb.size; omega), r5, by have := hOk.2.2; omega, hOk.2.1⟩ (fun s hs => HSA.out.sdIn (List.mem_of_mem_drop hs)))
            unfold nodeV sdV at HC
            clear HCl HMa hp HML hOk r1 r2 r4 r5 r6 HMY
            have hqm : q ≤ m := by have := HQP.out; omega
            have hpp : 0 ≤ x.parts := f3
            go_upto_region 14 with fail
            go_cut [11] (fun v wx => ∃ b, v = .pointer (some ⟨b, 0, none⟩) ∧ Hid (Blk wx b 45 (sdC (sayT x (st.drop q))) ∧ wr.heap.size ≤ b ∧ Below wr.heap.size wr wx))
            case first =>
              clear HRr HX
              generalize sayT x (st.drop q) = sy at *
              rcases Own.form HST.out with ⟨rfl, h0, rfl⟩ | ⟨g, rfl, _, hg⟩
              · subst h0
                obtain rfl : q = 0 := by omega
                have hpz : x.parts = 0 := by have := HQP.out; omega
                have hf1 : IntKind.i64.wrap (0 - x.parts) = 0 := by rw [hpz]; rfl
                have hf2 : IntKind.i64.wrap (-x.parts) = 0 := by rw [hpz]; rfl
                have hnl : st.drop 0 = [] := List.eq_nil_of_length_eq_zero HSM.out
                replace HC := fun (W : World) (hb : Below wr.heap.size wr W) => HC W hb none 0 (by rw [hnl]; exact Rd.nil_)
                clear hpz hnl
                apply wp_region_later_alloc (obj := .cells #[.string ⟨#[]⟩, .int .i64 0, .int .i64 0] 45) 11 11 (by kernel_rfl) (by kernel_rfl) rfl rfl (by rfl)
                case hAl =>
                  intro a w K hK
                  unfold wpOp
                  refine Or.inl ?_
                  go_simp
                  exact hK
                case h =>
                  intro V hV
                  have hbV := hV.below
                  have hbn : b1 < V.heap.size := Nat.lt_of_lt_of_le hbl hbV.size
                  have y0 := later_at hbn ((hbV.cell (p := ⟨b1, o1 + k * 10, none⟩) hbl).trans p0)
                  have y1 := later_at hbn ((hbV.cell (p := ⟨b1, o1 + k * 10 + 1, none⟩) hbl).trans p1)
                  have y2 := later_at hbn ((hbV.cell (p := ⟨b1, o1 + k * 10 + 2, none⟩) hbl).trans p2)
                  have y3 := later_at hbn ((hbV.cell (p := ⟨b1, o1 + k * 10 + 3, none⟩) hbl).trans p3)
                  have y4 := later_at hbn ((hbV.cell (p := ⟨b1, o1 + k * 10 + 4, none⟩) hbl).trans p4)
                  have y5 := later_at hbn ((hbV.cell (p := ⟨b1, o1 + k * 10 + 5, none⟩) hbl).trans p5)
                  have y6 := later_at hbn ((hbV.cell (p := ⟨b1, o1 + k * 10 + 6, none⟩) hbl).trans p6)
                  have y7 := later_at hbn ((hbV.cell (p := ⟨b1, o1 + k * 10 + 7, none⟩) hbl).trans p7)
                  have y8 := later_at hbn ((hbV.cell (p := ⟨b1, o1 + k * 10 + 8, none⟩) hbl).trans p8)
                  have y9 := later_at hbn ((hbV.cell (p := ⟨b1, o1 + k * 10 + 9, none⟩) hbl).trans p9)
                  have HCV := fun z : Later V => HC (later V z) (hbV.trans ((later_below z).mono hbV.size))
                  simp only [List.take_succ_cons, List.take_zero]
                  unfold LatC
                  iterate 10 (go_big_quiet_step (fail))
                  go_big_quiet_step ((go_at_call 19; exact later_call (HCV _).out))
                  refine wpQuiet_nil ?_
                  rfl
                case hT =>
                  intro w' b hb hbk hbs
                  have hK : Blk w' b 45 [.string ⟨#[]⟩, .int .i64 0, .int .i64 0] := hbk
                  clear hbk HC p0 p1 p2 p3 p4 p5 p6 p7 p8 p9 hfrom
                  have k0 := hK.cell (j := 0) rfl
                  have k1 := hK.cell (j := 1) rfl
                  have k2 := hK.cell (j := 2) rfl
                  have kf := hK.frozen
                  simp only [List.drop_succ_cons, List.drop_zero]
                  unfold ptrB
                  go_wp2_with fail
                  go_meet
                  exact ⟨b, rfl, ((hK.set 0 _).set 1 _).set 2 _, hbs, ((hb.setCell hbs _).setCell hbs _).setCell hbs _⟩
              · by_cases hcq : c = q
                · have hmq : q = m := by have := hcap.1; omega
                  have hnl : st.drop q = [] := List.eq_nil_of_length_eq_zero (by rw [List.length_drop, HSM.out]; omega)
                  replace HC := fun (W : World) (hb : Below wr.heap.size wr W) => HC W hb (some ⟨g, 0, none⟩) 0 (by rw [hnl]; exact Rd.nil_)
                  clear hnl
                  subst hmq
                  subst hcq
                  simp only [Nat.sub_self] at HC
                  apply wp_region_later_alloc (obj := .cells #[.string ⟨#[]⟩, .int .i64 0, .int .i64 0] 45) 11 11 (by kernel_rfl) (by kernel_rfl) rfl rfl (by rfl)
                  case hAl =>
                    intro a w K hK
                    unfold wpOp
                    refine Or.inl ?_
                    go_simp
                    exact hK
                  case h =>
                    intro V hV
                    have hbV := hV.below
                    have hbn : b1 < V.heap.size := Nat.lt_of_lt_of_le hbl hbV.size
                    have y0 := later_at hbn ((hbV.cell (p := ⟨b1, o1 + k * 10, none⟩) hbl).trans p0)
                    have y1 := later_at hbn ((hbV.cell (p := ⟨b1, o1 + k * 10 + 1, none⟩) hbl).trans p1)
                    have y2 := later_at hbn ((hbV.cell (p := ⟨b1, o1 + k * 10 + 2, none⟩) hbl).trans p2)
                    have y3 := later_at hbn ((hbV.cell (p := ⟨b1, o1 + k * 10 + 3, none⟩) hbl).trans p3)
                    have y4 := later_at hbn ((hbV.cell (p := ⟨b1, o1 + k * 10 + 4, none⟩) hbl).trans p4)
                    have y5 := later_at hbn ((hbV.cell (p := ⟨b1, o1 + k * 10 + 5, none⟩) hbl).trans p5)
                    have y6 := later_at hbn ((hbV.cell (p := ⟨b1, o1 + k * 10 + 6, none⟩) hbl).trans p6)
                    have y7 := later_at hbn ((hbV.cell (p := ⟨b1, o1 + k * 10 + 7, none⟩) hbl).trans p7)
                    have y8 := later_at hbn ((hbV.cell (p := ⟨b1, o1 + k * 10 + 8, none⟩) hbl).trans p8)
                    have y9 := later_at hbn ((hbV.cell (p := ⟨b1, o1 + k * 10 + 9, none⟩) hbl).trans p9)
                    have HCV := fun z : Later V => HC (later V z) (hbV.trans ((later_below z).mono hbV.size))
                    simp only [List.take_succ_cons, List.take_zero]
                    unfold LatC
                    iterate 10 (go_big_quiet_step (fail))
                    go_big_quiet_step ((go_at_call 19; exact later_call (HCV _).out))
                    refine wpQuiet_nil ?_
                    rfl
                  case hT =>
                    intro w' b hb hbk hbs
                    have hK : Blk w' b 45 [.string ⟨#[]⟩, .int .i64 0, .int .i64 0] := hbk
                    clear hbk HC p0 p1 p2 p3 p4 p5 p6 p7 p8 p9 hfrom
                    have k0 := hK.cell (j := 0) rfl
                    have k1 := hK.cell (j := 1) rfl
                    have k2 := hK.cell (j := 2) rfl
                    have kf := hK.frozen
                    simp only [List.drop_succ_cons, List.drop_zero]
                    unfold ptrB
                    go_wp2_with fail
                    go_meet
                    exact ⟨b, rfl, ((hK.set 0 _).set 1 _).set 2 _, hbs, ((hb.setCell hbs _).setCell hbs _).setCell hbs _⟩
                · have hqc : q < c := by have := hcap.1; omega
                  replace HC := fun (W : World) (hb : Below wr.heap.size wr W) => HC W hb (some ⟨g, q * 3, none⟩) (c - q) (by
                    have := Rd.dropS (Own.rd (HST.out.belowAll hb)) q
                    rw [← sdsC_drop, Nat.zero_add] at this
                    exact this)
                  apply wp_region_later_alloc (obj := .cells #[.string ⟨#[]⟩, .int .i64 0, .int .i64 0] 45) 11 11 (by kernel_rfl) (by kernel_rfl) rfl rfl (by rfl)
                  case hAl =>
                    intro a w K hK
                    unfold wpOp
                    refine Or.inl ?_
                    go_simp
                    exact hK
                  case h =>
                    intro V hV
                    have hbV := hV.below
                    have hbn : b1 < V.heap.size := Nat.lt_of_lt_of_le hbl hbV.size
                    have y0 := later_at hbn ((hbV.cell (p := ⟨b1, o1 + k * 10, none⟩) hbl).trans p0)
                    have y1 := later_at hbn ((hbV.cell (p := ⟨b1, o1 + k * 10 + 1, none⟩) hbl).trans p1)
                    have y2 := later_at hbn ((hbV.cell (p := ⟨b1, o1 + k * 10 + 2, none⟩) hbl).trans p2)
                    have y3 := later_at hbn ((hbV.cell (p := ⟨b1, o1 + k * 10 + 3, none⟩) hbl).trans p3)
                    have y4 := later_at hbn ((hbV.cell (p := ⟨b1, o1 + k * 10 + 4, none⟩) hbl).trans p4)
                    have y5 := later_at hbn ((hbV.cell (p := ⟨b1, o1 + k * 10 + 5, none⟩) hbl).trans p5)
                    have y6 := later_at hbn ((hbV.cell (p := ⟨b1, o1 + k * 10 + 6, none⟩) hbl).trans p6)
                    have y7 := later_at hbn ((hbV.cell (p := ⟨b1, o1 + k * 10 + 7, none⟩) hbl).trans p7)
                    have y8 := later_at hbn ((hbV.cell (p := ⟨b1, o1 + k * 10 + 8, none⟩) hbl).trans p8)
                    have y9 := later_at hbn ((hbV.cell (p := ⟨b1, o1 + k * 10 + 9, none⟩) hbl).trans p9)
                    have HCV := fun z : Later V => HC (later V z) (hbV.trans ((later_below z).mono hbV.size))
                    simp only [List.take_succ_cons, List.take_zero]
                    unfold LatC
                    iterate 10 (go_big_quiet_step (fail))
                    go_big_quiet_step ((go_at_call 19; exact later_call (HCV _).out))
                    refine wpQuiet_nil ?_
                    rfl
                  case hT =>
                    intro w' b hb hbk hbs
                    have hK : Blk w' b 45 [.string ⟨#[]⟩, .int .i64 0, .int .i64 0] := hbk
                    clear hbk HC p0 p1 p2 p3 p4 p5 p6 p7 p8 p9 hfrom
                    have k0 := hK.cell (j := 0) rfl
                    have k1 := hK.cell (j := 1) rfl
                    have k2 := hK.cell (j := 2) rfl
                    have kf := hK.frozen
                    simp only [List.drop_succ_cons, List.drop_zero]
                    unfold ptrB
                    go_wp2_with fail
                    go_meet
                    exact ⟨b, rfl, ((hK.set 0 _).set 1 _).set 2 _, hbs, ((hb.setCell hbs _).setCell hbs _).setCell hbs _⟩
            case rest =>
              obtain ⟨bs, rfl, hall⟩ := hcut
              obtain ⟨hbk, hbs, hbw2⟩ := hall.out
              have HOv : Hid ((sayT x (st.drop q)).over = true → showF ns [] = none) := fun h => HSA.out.over HX.out (by rw [HQ.out]; exact h)
              have HNx : Hid ((sayT x (st.drop q)).over = false → ShowAt ns (k + 1) (stepN ty x).2 (st.take q ++ [sayT x (st.drop q)])) := fun h => by
                have := HSA.out.next HRun.out HX.out (by rw [HQ.out]; exact h)
                rw [HQ.out] at this
                exact this
              have hOc := HST.out.belowAll hbw2
              have hWc := HBW.out.trans (hbw2.mono hzw)
              have hzc := hWc.size
              generalize sayT x (st.drop q) = sy at *
              have HO3 := Lib.hid (Own.cut hOc hqm)
              have HWc := Lib.hid hWc
              have HBK := Lib.hid hbk
              have s0 := hbk.cell (j := 0) rfl
              have s1 := hbk.cell (j := 1) rfl
              have s2 := hbk.cell (j := 2) rfl
              have HXs : Hid (Rd (wc.drew.alloc (.cells #[.string sy.text, .int .i64 sy.row, .int .i64 sy.deep] 45)) (wc.heap.size + 1) 3 (some ⟨wc.heap.size, 0, none⟩) [sdC sy]) := Rd.new wc.drew (by simp [sdC]) _ rfl
              clear hall hbw2 hWc hbk HSA HF HX HRr HC
              rcases Own.form HST.out with ⟨rfl, h0, rfl⟩ | ⟨g, rfl, _, hg⟩
              · subst h0
                obtain rfl : q = 0 := by omega
                have hpz : x.parts = 0 := by have := HQP.out; omega
                have hf1 : IntKind.i64.wrap (0 - x.parts) = 0 := by rw [hpz]; rfl
                have hf2 : IntKind.i64.wrap (-x.parts) = 0 := by rw [hpz]; rfl
                clear hpz HST
                go_upto_region 15 with fail
                go_region_law ((refine step_append_rd _ (by rfl) _ _ _ (by rfl) eiPart (by rfl) (HO3.out.drew.alloc _) (m := 1) (by rfl) HXs.out rfl (one_said sy) (by simp only [maxLen]; omega) (by omega) (by simp; omega) ?_; intro A' c' w3 ho3 hg3 hat3 hb3))
                all_goals
                  have hbk3 : Blk w3 bs 45 (sdC sy) := Blk.grown (Blk.alloc (w := wc.drew) HBK.out _) hg3 (by simp)
                  have s0 := hbk3.cell (j := 0) rfl
                  have s1 := hbk3.cell (j := 1) rfl
                  have s2 := hbk3.cell (j := 2) rfl
                  clear hbk3 hg3 hat3
                  by_cases h1 : 4096 < sy.text.size
                  · have h1I : (4096 : Int) < sy.text.size := by omega
                    have HT := Lib.hid (showT_none (HOv.out (by simp [Sd.over, h1])))
                    clear h1 HOv HNx
                    go_wp2_with fail
                    go_ret2
                    exact ⟨ret_show HT.out, HB1.out.trans ((HWc.out.trans (((Below.refl _ _).drew.alloc (by simpa using hzc) _).trans hb3)).mono hz1)⟩
                  · have h1I : ¬ (4096 : Int) < sy.text.size := by omega
                    by_cases h2 : 64 < sy.deep
                    ·
                      have HT := Lib.hid (showT_none (HOv.out (by simp [Sd.over, h2])))
                      clear h1 HOv HNx
                      go_wp2_with fail
                      go_ret2
                      exact ⟨ret_show HT.out, HB1.out.trans ((HWc.out.trans (((Below.refl _ _).drew.alloc (by simpa using hzc) _).trans hb3)).mono hz1)⟩
                    · have HNn := Lib.hid (HNx.out (by simp [Sd.over, h1, h2]))
                      have HF2 : Hid (RndR ns w1 (k + 1) (.slice A' (0 + 1) c') w3) := ⟨_, _, A', 0 + 1, c', rfl, by rw [List.length_append, List.length_take, List.length_singleton, HSM.out]; omega, HNn.out, by
                        have e : sdsC (st.take 0 ++ [sy]) = (sdsC st).take 0 ++ [sdC sy] := by simp [sdsC]
                        show Own _ _ _ _ _ _ _ _
                        rw [e]
                        exact ho3, HWc.out.trans (((Below.refl _ _).drew.alloc (by simpa using hzc) _).trans hb3), HMY2.out⟩
                      clear ho3 hb3 HOv HNx h1
                      go_wp2_with fail
                      go_roundw
                      case rel => exact ⟨k + 1, by go_num, by omega, HF2⟩
                      case measure => simp [intOf]; omega
              · clear HST
                have hqc : q ≤ c := by have := hcap.1; omega
                have hne : some bs ≠ some g := by intro h; injection h with h; omega
                go_upto_region 15 with fail
                go_region_law ((refine step_append_rd _ (by rfl) _ _ _ (by rfl) eiPart (by rfl) (HO3.out.drew.alloc _) (m := 1) (by rfl) HXs.out rfl (one_said sy) (by simp only [maxLen]; omega) (by omega) (by simp; omega) ?_; intro A' c' w3 ho3 hg3 hat3 hb3))
                all_goals
                  have hbk3 : Blk w3 bs 45 (sdC sy) := Blk.grown (Blk.alloc (w := wc.drew) HBK.out _) hg3 hne
                  have s0 := hbk3.cell (j := 0) rfl
                  have s1 := hbk3.cell (j := 1) rfl
                  have s2 := hbk3.cell (j := 2) rfl
                  clear hbk3 hg3 hat3
                  by_cases h1 : 4096 < sy.text.size
                  · have h1I : (4096 : Int) < sy.text.size := by omega
                    have HT := Lib.hid (showT_none (HOv.out (by simp [Sd.over, h1])))
                    clear h1 HOv HNx
                    go_wp2_with fail
                    go_ret2
                    exact ⟨ret_show HT.out, HB1.out.trans ((HWc.out.trans (((Below.refl _ _).drew.alloc (by simpa using hzc) _).trans hb3)).mono hz1)⟩
                  · have h1I : ¬ (4096 : Int) < sy.text.size := by omega
                    by_cases h2 : 64 < sy.deep
                    ·
                      have HT := Lib.hid (showT_none (HOv.out (by simp [Sd.over, h2])))
                      clear h1 HOv HNx
                      go_wp2_with fail
                      go_ret2
                      exact ⟨ret_show HT.out, HB1.out.trans ((HWc.out.trans (((Below.refl _ _).drew.alloc (by simpa using hzc) _).trans hb3)).mono hz1)⟩
                    · have HNn := Lib.hid (HNx.out (by simp [Sd.over, h1, h2]))
                      have HF2 : Hid (RndR ns w1 (k + 1) (.slice A' (q + 1) c') w3) := ⟨_, _, A', q + 1, c', rfl, by rw [List.length_append, List.length_take, List.length_singleton, HSM.out]; omega, HNn.out, by
                        have e : sdsC (st.take q ++ [sy]) = (sdsC st).take q ++ [sdC sy] := by simp [sdsC]
                        show Own _ _ _ _ _ _ _ _
                        rw [e]
                        exact ho3, HWc.out.trans (((Below.refl _ _).drew.alloc (by simpa using hzc) _).trans hb3), HMY2.out⟩
                      clear ho3 hb3 HOv HNx h1
                      go_wp2_with fail
                      go_roundw
                      case rel => exact ⟨k + 1, by go_num, by omega, HF2⟩
                      case measure => simp [intOf]; omega
      · have hltI : ¬ (k : Int) < n1 := by omega
        obtain ⟨d1, d2⟩ := hsa.done (by rw [HN1.out]; omega)
        have HMB : Hid (mayB ns = true) := by
          have := hmy
          rw [List.take_of_length_le (by rw [HN1.out]; omega)] at this
          exact this
        have hty : ty.length = 1 := by
          have := d2.symm.trans HRun.out
          injection this with this
          rw [this]
          rfl
        obtain ⟨a, rfl⟩ : ∃ a, st = [a] := List.length_eq_one_iff.1 (by rw [← hsa.len]; exact hty)
        obtain rfl : m = 1 := hsm.symm
        have HT := Lib.hid (HSome.out _ HMB.out d1)
        rcases Own.form hst with ⟨_, h0, _⟩ | ⟨g, rfl, _, hg⟩
        · cases h0
        obtain ⟨b0, o0, e, _, e0, e1, e2⟩ := (Own.rd hst).at3 (sdsC_at (k := 0) rfl)
        injection e with e
        injection e with ea eb
        subst ea eb
        simp only [Nat.zero_mul, Nat.add_zero] at e0 e1 e2
        have HBW := Lib.hid hbw
        clear d1 d2 hty hsa hst hbw hsm HSM HRd hmy
        go_wp2_with fail
        go_ret2
        exact ⟨ret_show HT.out, HB1.out.trans (HBW.out.mono hz1)⟩
  · have HT := Lib.hid (showT_bad he)
    have hneb : ((checkN ns).2.2 != 0) = true := by rw [bne_iff_ne]; exact he
    clear he
    generalize (checkN ns).2.2 = ce at *
    generalize (checkN ns).2.1 = ca at *
    generalize (checkN ns).1 = ck at *
    go_wp2_with fail
    go_ret2
    exact ⟨ret_show HT.out, HB1.out⟩
end Go.Proofs.YtakfnojiaakfpaaGreatDoor
