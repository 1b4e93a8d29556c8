/- How a query is read: a select. -/
import Derived.Test.YtdikmklijpcjdaaParR
import Derived.Deep.DeepCutAuto
namespace Go.Proofs.Ytdikmklijpcjdaa
open Go.RowKit
attribute [local go_sem ↓] Go.wp_at_zero Go.wp_at_succ tok_f0 tok_f2 tok_f3

/-- A select that is being read: the reader, and the node in its box. -/
def SelAt (P M N : Nat) (R : Option Addr × Nat) (w0 : World) (s0 s : PS) (x : Nod) (w : World) : Prop :=
  StQ P R w0 s w ∧ MatN w w0.heap.size N x ∧ PGood M s ∧ s.out = s0.out
theorem sNameN_sz : sNameN.size = 8 := rfl
theorem sel1_in {s s1 : PS} {ms : List Mat} (h : s.sel1 = .ok (s1, ms)) : ms.length ≤ 8 ∧ ∀ y ∈ ms, y.name.size ≤ maxLen := by
  unfold PS.sel1 at h
  split at h
  · split at h
    · cases h
    · rename_i ms' ha
      injection h with h
      injection h with h1 h2
      subst h2
      refine ⟨addM_len ha, ?_⟩
      rw [(addM_ok ha).1]
      intro y hy
      simp at hy
      subst hy
      simp [maxLen, sNameN_sz]
  · injection h with h
    injection h with h1 h2
    subst h2
    exact ⟨by simp, by simp⟩
theorem choose_e2 {s s1 : PS} {m1 : List Mat} {x : Int × Int} (h1 : s.sel1 = .ok (s1, m1)) (h2 : s1.sel2 s.wordB m1 = .error x) : chooseP s = .error x := by
  rw [chooseP, h1]; dsimp only; rw [h2]
theorem choose_e3 {s s1 s2 : PS} {m1 m2 : List Mat} {x : Int × Int} (h1 : s.sel1 = .ok (s1, m1)) (h2 : s1.sel2 s.wordB m1 = .ok (s2, m2)) (h3 : s2.sel3 = .error x) : chooseP s = .error x := by
  rw [chooseP, h1]; dsimp only; rw [h2]; dsimp only; rw [h3]
theorem choose_e4 {s s1 s2 s3 : PS} {m1 m2 : List Mat} {k b : Int} {x : Int × Int} (h1 : s.sel1 = .ok (s1, m1)) (h2 : s1.sel2 s.wordB m1 = .ok (s2, m2)) (h3 : s2.sel3 = .ok (s3, k, b)) (h4 : s3.sel4 = .error x) : chooseP s = .error x := by
  rw [chooseP, h1]; dsimp only; rw [h2]; dsimp only; rw [h3]; dsimp only; rw [h4]
theorem choose_ok {s s1 s2 s3 s4 : PS} {m1 m2 : List Mat} {k b c : Int} (h1 : s.sel1 = .ok (s1, m1)) (h2 : s1.sel2 s.wordB m1 = .ok (s2, m2)) (h3 : s2.sel3 = .ok (s3, k, b)) (h4 : s3.sel4 = .ok (s4, c)) : chooseP s = .ok (s4.lay (selN k m2 b c)) := by
  rw [chooseP, h1]; dsimp only; rw [h2]; dsimp only; rw [h3]; dsimp only; rw [h4]
theorem MatN.setF {w : World} {base N : Nat} {x y : Nod} {j : Nat} {u : Value} (h : MatN w base N x) (hm : y.mat = x.mat) (hj : ∀ Am cm, (nodC x Am cm none 0).set j u = nodC y Am cm none 0) : MatN (w.setCell ⟨N, j, none⟩ u) base N y := by
  obtain ⟨Am, cm, h1, h2⟩ := h
  refine ⟨Am, cm, ?_, ?_⟩
  · rw [← hj]; exact h1.set j u
  · rw [hm]; exact h2.setOther (own_ne_blk h2 h1 (by decide)) j u
set_option maxRecDepth 100000 in
set_option maxHeartbeats 8000000 in
theorem choose_any {P M : Nat} {R : Option Addr × Nat} {w : World} {s : PS} (hM : M ≤ 1000000) (hg : PGood M s) (h : PAt w P R s) :
    Calls Try.prog 99 #[.pointer (some ⟨P, 0, none⟩)] w (ResS P R w (chooseP s)) := by
  have H0 := Lib.hid h
  have HG := Lib.hid hg
  have hP0 := h.lt
  have bN0 : Blk (w.alloc (.cells #[.int .i64 2, .int .i64 0, .string ⟨#[]⟩, .slice none 0 0, .int .i64 0, .int .i64 0, .int .i64 0, .slice none 0 0, .bool false, .int .i64 0] 37)) w.heap.size 37 (nodC (selN 2 [] 0 0) none 0 none 0) := Blk.new w _ _
  have K0 := Lib.hid ((StQ.start h).below ((Below.refl _ _).alloc (Nat.le_refl _) (.cells #[.int .i64 2, .int .i64 0, .string ⟨#[]⟩, .slice none 0 0, .int .i64 0, .int .i64 0, .int .i64 0, .slice none 0 0, .bool false, .int .i64 0] 37)))
  clear h
  go_enter Try.func99, Try.ntmps99
  go_upto_region 2 with fail
  refine (now_any P R s M _ HG.out K0.out.1).mono ?_
  rintro e w1 ⟨rfl, hb1⟩
  have K1 := Lib.hid (K0.out.below hb1)
  have bN1 := Lib.hid (bN0.below hb1 bN0.lt)
  have hN1 : w.heap.size < w1.heap.size := (bN0.below hb1 bN0.lt).lt
  clear hb1 bN0 K0
  go_upto_region 2 with fail
  have bT1 : Blk (w1.alloc (.cells #[.int .i64 s.hd.kind, .int .i64 s.hd.at_, .string s.hd.text, .int .i64 s.hd.span] 52)) w1.heap.size 52 (tokC s.hd) := Blk.new w1 _ _
  have hbT : Below w1.heap.size w1 (w1.alloc (.cells #[.int .i64 s.hd.kind, .int .i64 s.hd.at_, .string s.hd.text, .int .i64 s.hd.span] 52)) := (Below.refl _ _).alloc (Nat.le_refl _) _
  have K2 := Lib.hid (K1.out.below hbT)
  have bN2 := Lib.hid (bN1.out.below hbT hN1)
  clear hbT K1 bN1
  go_cut [4] (fun v wx => v = .bool s.wordB ∧ StQ P R w s wx ∧ Blk wx w.heap.size 37 (nodC (selN 2 [] 0 0) none 0 none 0) ∧ Blk wx w1.heap.size 52 (tokC s.hd))
  case first =>
    have t0 := bT1.cell (j := 0) rfl
    have t2 := bT1.cell (j := 2) rfl
    by_cases hk : s.hd.kind = 3
    · have hkb : (s.hd.kind == 3) = true := by rw [hk]; rfl
      have HW : Hid (s.wordB = !keptB s.hd.text) := by show _ = _; simp [PS.wordB, hk]
      have BT := Lib.hid bT1
      clear hk bT1
      go_wp2_with fail
      refine (kept_any s.hd.text _).mono ?_
      rintro e w2 ⟨rfl, hb2⟩
      have K3 := K2.out.below hb2
      have bN3 := bN2.out.below hb2 bN2.out.lt
      have bT3 := BT.out.below hb2 BT.out.lt
      clear hb2
      go_wp2_with fail
      go_meet
      exact ⟨by rw [HW.out], K3, bN3, bT3⟩
    · have hkb : (s.hd.kind == 3) = false := by rw [beq_eq_false_iff_ne]; exact hk
      have HW : Hid (s.wordB = false) := by show _ = _; simp [PS.wordB, hk]
      have BT := Lib.hid bT1
      clear hk bT1
      go_wp2_with fail
      go_meet
      exact ⟨by rw [HW.out], K2.out, bN2.out, BT.out⟩
  case rest =>
    clear bT1 K2 bN2
    obtain ⟨rfl, k3, n3, t3⟩ := hcut
    have K3 := Lib.hid k3
    have N3 := Lib.hid n3
    have T3 := Lib.hid t3
    have hPT : w1.heap.size ≠ P := by omega
    have hPN : w.heap.size ≠ P := by omega
    clear k3 n3 t3
    generalize hwd : s.wordB = wd at *
    have HW := Lib.hid hwd
    clear hwd
    go_upto_if 17 with fail
    go_cut [18] (fun _ wx => Hid (∃ s1 m1, s.sel1 = .ok (s1, m1) ∧ SelAt P M w.heap.size R w s s1 (selN 2 m1 0 0) wx))
    case first =>
      cases wd with
      | true =>
        have hw := HW.out
        have hk : s.hd.kind ≠ 0 := by
          simp only [PS.wordB, Bool.and_eq_true, decide_eq_true_eq] at hw
          rw [hw.1]; decide
        have HOn := Lib.hid (on_st HG.out (StQ.start K3.out.1) hk)
        have hg1 := HG.out.on hk
        clear hk hw
        go_wp2_with fail
        refine (HOn.out).mono ?_
        rintro e w4 ⟨rfl, k4⟩
        have HT4 := T3.out.fr k4.2 hPT
        have HN4 := N3.out.fr k4.2 hPN
        have K4 := K3.out.next k4
        have HA := Lib.hid (padd_any K4 H0.out rfl (Nat.le_refl _) (selN 2 [] 0 0) (by simp [selN]) rfl ⟨none, 0, HN4, Own.nil_ (by decide)⟩ ⟨1, sNameN, s.hd.text⟩ (by
          intro y hy
          simp [selN] at hy
          subst hy
          simp [maxLen, sNameN_sz]) s.hd)
        have t0 := HT4.cell (j := 0) rfl
        have t1 := HT4.cell (j := 1) rfl
        have t2 := HT4.cell (j := 2) rfl
        have t3 := HT4.cell (j := 3) rfl
        have htl := HT4.lt
        clear HN4 HT4 k4 K4
        go_wp2_with fail
        refine (HA.out).mono ?_
        intro e w5 hres
        cases ha : addM [] ⟨1, sNameN, s.hd.text⟩ s.hd.at_ with
        | error z =>
          have HT : Hid (chooseP s = .error z) := by show _ = _; rw [chooseP, PS.sel1, if_pos HW.out, ha]
          rw [show (selN 2 [] 0 0).mat = [] from rfl, ha] at hres
          obtain ⟨rfl, hf⟩ := hres
          clear ha
          go_wp2_with fail
          refine ⟨rfl, ?_⟩
          rw [HT.out]
          exact ⟨rfl, hf.weak⟩
        | ok ms =>
          have HT : Hid (s.sel1 = .ok (s.on, ms)) := by show _ = _; rw [PS.sel1, if_pos HW.out, ha]
          rw [show (selN 2 [] 0 0).mat = [] from rfl, ha] at hres
          obtain ⟨rfl, k5, hm5⟩ := hres
          clear ha
          go_wp2_with fail
          go_meet
          exact ⟨_, _, HT.out, k5, hm5, hg1, rfl⟩
      | false =>
        have HS : Hid (s.sel1 = .ok (s, [])) := by show _ = _; rw [PS.sel1, if_neg (by rw [HW.out]; decide)]
        go_wp2_with fail
        go_meet
        exact ⟨s, [], HS.out, K3.out, ⟨none, 0, N3.out, Own.nil_ (by decide)⟩, HG.out, rfl⟩
    case rest =>
      clear K3 N3 T3
      obtain ⟨s1, m1, hs1, k4, mn4, hg1, ho1⟩ := hcut.out
      obtain ⟨hm1, hz1⟩ := sel1_in hs1
      have HS1 := Lib.hid hs1
      have HZ1 := Lib.hid hz1
      have HO1 := Lib.hid ho1
      have HIs := Lib.hid (is_st hg1 (StQ.start k4.1) 5 sCurl)
      have K4 := Lib.hid k4
      have M4 := Lib.hid mn4
      clear hcut hs1 hz1 ho1 k4 mn4
      go_upto_if 27 with fail
      refine (HIs.out).mono ?_
      rintro e w5 ⟨rfl, k5⟩
      have M5 := Lib.hid (M4.out.fr K4.out.1 k5.2 (by omega))
      have K5 := Lib.hid (K4.out.next k5)
      clear k5 HIs K4 M4
      generalize hib : s1.is 5 sCurl = ib at *
      have HI := Lib.hid hib
      clear hib
      go_upto_if 27 with fail
      go_cut [28] (fun _ wx => Hid (∃ s2 m2, s1.sel2 s.wordB m1 = .ok (s2, m2) ∧ SelAt P M w.heap.size R w s s2 (selN 2 m2 0 0) wx))
      case first =>
        cases ib with
        | true =>
          have hk : s1.hd.kind ≠ 0 := by rw [is_kind HI.out]; decide
          have HOn := Lib.hid (on_st hg1 (StQ.start K5.out.1) hk)
          have hg2 := hg1.on hk
          clear hk
          go_wp2_with fail
          refine (HOn.out).mono ?_
          rintro e w6 ⟨rfl, k6⟩
          have HA := Lib.hid (pmatchers_any hM hg2 (K5.out.next k6) H0.out HO1.out (Nat.le_refl _) (selN 2 m1 0 0) hm1 rfl HZ1.out (M5.out.fr K5.out.1 k6.2 (by omega)))
          clear k6 HOn
          go_wp2_with fail
          refine (HA.out).mono ?_
          intro e w7 hres
          cases hms : s1.on.matchers m1 with
          | error z =>
            have HT : Hid (chooseP s = .error z) := choose_e2 HS1.out (by rw [PS.sel2, if_pos HI.out, hms])
            rw [show (selN 2 m1 0 0).mat = m1 from rfl, hms] at hres
            obtain ⟨rfl, hf⟩ := hres
            clear hms
            go_wp2_with fail
            refine ⟨rfl, ?_⟩
            rw [HT.out]
            exact ⟨rfl, hf.weak⟩
          | ok q =>
            obtain ⟨s2, m2⟩ := q
            have HT : Hid (s1.sel2 s.wordB m1 = .ok (s2, m2)) := by show _ = _; rw [PS.sel2, if_pos HI.out, hms]
            have hst := matchersF_step _ _ _ _ _ _ hms
            have hg3 := (hst.good M hg2).more (M' := M) (by omega)
            have ho3 := hst.out.trans HO1.out
            rw [show (selN 2 m1 0 0).mat = m1 from rfl, hms] at hres
            obtain ⟨rfl, k7, hm7⟩ := hres
            clear hms hst
            have HO3 := Lib.hid ho3
            clear ho3
            go_wp2_with fail
            go_meet
            exact ⟨_, _, HT.out, k7, hm7, hg3, HO3.out⟩
        | false =>
          have HSt := Lib.hid (stuck_st hg1 K5.out)
          cases wd with
          | true =>
            have HT : Hid (s1.sel2 s.wordB m1 = .ok (s1, m1)) := by show _ = _; rw [PS.sel2, if_neg (by rw [HI.out]; decide), if_pos HW.out]
            go_wp2_with fail
            go_meet
            exact ⟨_, _, HT.out, K5.out, M5.out, hg1, HO1.out⟩
          | false =>
            have HT : Hid (chooseP s = .error s1.stuck) := choose_e2 HS1.out (by rw [PS.sel2, if_neg (by rw [HI.out]; decide), if_neg (by rw [HW.out]; decide)])
            go_wp2_with fail
            refine (HSt.out).mono ?_
            rintro e w11 ⟨rfl, hf⟩
            go_wp2_with fail
            refine ⟨rfl, ?_⟩
            rw [HT.out]
            exact ⟨rfl, hf.weak⟩
      case rest =>
        clear K5 M5 HI HO1 HZ1 hg1
        obtain ⟨s2, m2, hs2, k6, mn6, hg2, ho2⟩ := hcut.out
        have HS2 := Lib.hid hs2
        have HO2 := Lib.hid ho2
        have HIs := Lib.hid (is_st hg2 (StQ.start k6.1) 5 sSq)
        have K6 := Lib.hid k6
        have M6 := Lib.hid mn6
        clear hcut hs2 ho2 k6 mn6
        go_upto_if 37 with fail
        refine (HIs.out).mono ?_
        rintro e w7 ⟨rfl, k7⟩
        have M7 := Lib.hid (M6.out.fr K6.out.1 k7.2 (by omega))
        have K7 := Lib.hid (K6.out.next k7)
        clear k7 HIs K6 M6
        generalize hib : s2.is 5 sSq = ib2 at *
        have HI := Lib.hid hib
        clear hib
        go_upto_if 37 with fail
        go_cut [38] (fun _ wx => Hid (∃ s3 k3 b3, s2.sel3 = .ok (s3, k3, b3) ∧ SelAt P M w.heap.size R w s s3 (selN k3 m2 b3 0) wx))
        case first =>
          cases ib2 with
          | true =>
            have hk : s2.hd.kind ≠ 0 := by rw [is_kind HI.out]; decide
            have HOn := Lib.hid (on_st hg2 (StQ.start K7.out.1) hk)
            have hg3 := hg2.on hk
            clear hk
            go_wp2_with fail
            refine (HOn.out).mono ?_
            rintro e w8 ⟨rfl, k8⟩
            have M8 := Lib.hid (M7.out.fr K7.out.1 k8.2 (by omega))
            have K8 := Lib.hid (K7.out.next k8)
            have HSp := Lib.hid (pspan_any hg3 (StQ.start k8.1))
            clear k8 HOn M7 K7
            go_wp2_with fail
            refine (HSp.out).mono ?_
            intro e w9 hres
            cases hsp : s2.on.span with
            | error z =>
              have HT : Hid (chooseP s = .error z) := choose_e3 HS1.out HS2.out (by rw [PS.sel3, if_pos HI.out, hsp])
              rw [hsp] at hres
              obtain ⟨rfl, hf⟩ := hres
              have hf2 := K8.out.2.transN hf
              clear hsp
              go_wp2_with fail
              refine ⟨rfl, ?_⟩
              rw [HT.out]
              exact ⟨rfl, hf2.weak⟩
            | ok q =>
              obtain ⟨s4, b3⟩ := q
              rw [hsp] at hres
              obtain ⟨rfl, k9⟩ := hres
              have hst := span_step hsp
              have HSP := Lib.hid hsp
              have hg4 := (hst.good M hg3).more (M' := M) (by omega)
              have HO4 := Lib.hid (hst.out.trans HO2.out)
              have M9 := Lib.hid (M8.out.fr K8.out.1 k9.2 (by omega))
              have K9 := Lib.hid (K8.out.next k9)
              clear k9 M8 K8 hst hsp HSp
              obtain ⟨Am, cm, b9, _⟩ := M9.out
              have c0 := b9.cell (j := 0) rfl
              have c4 := b9.cell (j := 4) rfl
              have cf := b9.frozen
              have cl := b9.lt
              have K10 := Lib.hid ((K9.out.setN (N := w.heap.size) H0.out HO4.out (Nat.le_refl _) 0 (.int .i64 3)).setN (N := w.heap.size) H0.out HO4.out (Nat.le_refl _) 4 (.int .i64 b3))
              have M10 := Lib.hid ((M9.out.setF (y := selN 3 m2 0 0) (j := 0) (u := .int .i64 3) rfl (fun _ _ => rfl)).setF (y := selN 3 m2 b3 0) (j := 4) (u := .int .i64 b3) rfl (fun _ _ => rfl))
              have HSg := Lib.hid (psign_st hg4 (StQ.start K10.out.1) sUnsq)
              clear b9 M9 K9
              go_wp2_with fail
              refine (HSg.out).mono ?_
              intro e w11 hres
              cases hsg : s4.sign sUnsq with
              | error z =>
                have HT : Hid (chooseP s = .error z) := choose_e3 HS1.out HS2.out (by rw [PS.sel3, if_pos HI.out, HSP.out]; dsimp only; rw [hsg])
                rw [hsg] at hres
                obtain ⟨rfl, hf⟩ := hres
                have hf2 := K10.out.2.transN hf
                clear hsg
                go_wp2_with fail
                refine ⟨rfl, ?_⟩
                rw [HT.out]
                exact ⟨rfl, hf2.weak⟩
              | ok s5 =>
                have HT : Hid (s2.sel3 = .ok (s5, 3, b3)) := by show _ = _; rw [PS.sel3, if_pos HI.out, HSP.out]; dsimp only; rw [hsg]
                rw [hsg] at hres
                obtain ⟨rfl, k11⟩ := hres
                have hst := (sign_step hsg).2.2
                have hg5 := (hst.good M hg4).more (M' := M) (by omega)
                have HO5 := Lib.hid (hst.out.trans HO4.out)
                have M11 := Lib.hid (M10.out.fr K10.out.1 k11.2 (by omega))
                have K11 := Lib.hid (K10.out.next k11)
                clear k11 hst hsg
                go_wp2_with fail
                go_meet
                exact ⟨_, _, _, HT.out, K11.out, M11.out, hg5, HO5.out⟩
          | false =>
            have HT : Hid (s2.sel3 = .ok (s2, 2, 0)) := by show _ = _; rw [PS.sel3, if_neg (by rw [HI.out]; decide)]
            go_wp2_with fail
            go_meet
            exact ⟨_, _, _, HT.out, K7.out, M7.out, hg2, HO2.out⟩
        case rest =>
          clear M7 K7 HI HO2 hg2
          obtain ⟨s3, k3, b3, hs3, k8, mn8, hg3, ho3⟩ := hcut.out
          have HS3 := Lib.hid hs3
          have HO3 := Lib.hid ho3
          have HIs := Lib.hid (is_st hg3 (StQ.start k8.1) 3 sOffset)
          have K8 := Lib.hid k8
          have M8 := Lib.hid mn8
          clear hcut hs3 ho3 k8 mn8
          go_upto_if 47 with fail
          refine (HIs.out).mono ?_
          rintro e w9 ⟨rfl, k9⟩
          have M9 := Lib.hid (M8.out.fr K8.out.1 k9.2 (by omega))
          have K9 := Lib.hid (K8.out.next k9)
          clear k9 HIs K8 M8
          generalize hib : s3.is 3 sOffset = ib3 at *
          have HI := Lib.hid hib
          clear hib
          go_upto_if 47 with fail
          go_cut [48] (fun _ wx => Hid (∃ s4 c, s3.sel4 = .ok (s4, c) ∧ SelAt P M w.heap.size R w s s4 (selN k3 m2 b3 c) wx))
          case first =>
            cases ib3 with
            | true =>
              have hk : s3.hd.kind ≠ 0 := by rw [is_kind HI.out]; decide
              have HOn := Lib.hid (on_st hg3 (StQ.start K9.out.1) hk)
              have hg4 := hg3.on hk
              clear hk
              go_wp2_with fail
              refine (HOn.out).mono ?_
              rintro e w10 ⟨rfl, k10⟩
              have M10 := Lib.hid (M9.out.fr K9.out.1 k10.2 (by omega))
              have K10 := Lib.hid (K9.out.next k10)
              have HSp := Lib.hid (pspan_any hg4 (StQ.start k10.1))
              clear k10 HOn M9 K9
              go_wp2_with fail
              refine (HSp.out).mono ?_
              intro e w11 hres
              cases hsp : s3.on.span with
              | error z =>
                have HT : Hid (chooseP s = .error z) := choose_e4 HS1.out HS2.out HS3.out (by rw [PS.sel4, if_pos HI.out, hsp])
                rw [hsp] at hres
                obtain ⟨rfl, hf⟩ := hres
                have hf2 := K10.out.2.transN hf
                clear hsp
                go_wp2_with fail
                refine ⟨rfl, ?_⟩
                rw [HT.out]
                exact ⟨rfl, hf2.weak⟩
              | ok q =>
                obtain ⟨s4, c⟩ := q
                have HT : Hid (s3.sel4 = .ok (s4, c)) := by show _ = _; rw [PS.sel4, if_pos HI.out, hsp]
                rw [hsp] at hres
                obtain ⟨rfl, k11⟩ := hres
                have hst := span_step hsp
                have hg5 := (hst.good M hg4).more (M' := M) (by omega)
                have HO4 := Lib.hid (hst.out.trans HO3.out)
                have M11 := Lib.hid (M10.out.fr K10.out.1 k11.2 (by omega))
                have K11 := Lib.hid (K10.out.next k11)
                clear k11 M10 K10 hst hsp HSp
                obtain ⟨Am, cm, b11, _⟩ := M11.out
                have c5 := b11.cell (j := 5) rfl
                have cf := b11.frozen
                have cl := b11.lt
                have K12 := Lib.hid (K11.out.setN (N := w.heap.size) H0.out HO4.out (Nat.le_refl _) 5 (.int .i64 c))
                have M12 := Lib.hid (M11.out.setF (y := selN k3 m2 b3 c) (j := 5) (u := .int .i64 c) rfl (fun _ _ => rfl))
                clear b11 M11 K11
                go_wp2_with fail
                go_meet
                exact ⟨_, _, HT.out, K12.out, M12.out, hg5, HO4.out⟩
            | false =>
              have HT : Hid (s3.sel4 = .ok (s3, 0)) := by show _ = _; rw [PS.sel4, if_neg (by rw [HI.out]; decide)]
              go_wp2_with fail
              go_meet
              exact ⟨_, _, HT.out, K9.out, M9.out, hg3, HO3.out⟩
          case rest =>
            clear M9 K9 HI HO3 hg3
            obtain ⟨s4, c, hs4, k12, mn12, hg4, ho4⟩ := hcut.out
            have HT : Hid (chooseP s = .ok (s4.lay (selN k3 m2 b3 c))) := choose_ok HS1.out HS2.out HS3.out hs4
            obtain ⟨Am, cm, b12, o12⟩ := mn12
            have HN := Lib.hid (pnode_any P R s4 wc k12.1 (selN k3 m2 b3 c) Am none cm 0 (o12.lower (by omega)) (Own.nil_ (by decide)) (by have := hg4.room; omega))
            have K12 := Lib.hid k12
            have c0 := b12.cell (j := 0) rfl
            have c1 := b12.cell (j := 1) rfl
            have c2 := b12.cell (j := 2) rfl
            have c3 := b12.cell (j := 3) rfl
            have c4 := b12.cell (j := 4) rfl
            have c5 := b12.cell (j := 5) rfl
            have c6 := b12.cell (j := 6) rfl
            have c7 := b12.cell (j := 7) rfl
            have c8 := b12.cell (j := 8) rfl
            have c9 := b12.cell (j := 9) rfl
            have cl := b12.lt
            clear hcut hs4 k12 o12 b12 ho4 HS1 HS2 HS3
            go_wp2_with fail
            refine (HN.out).mono ?_
            rintro e w13 ⟨rfl, R', hS⟩
            go_wp2_with fail
            first | go_end0 | refine bodyPost_ret (results_none rfl _ _ _) rfl ?_
            rw [HT.out]
            exact ⟨rfl, R', K12.out.st.next hS⟩
end Go.Proofs.Ytdikmklijpcjdaa
