/- Types of trees: a tree is checked by the document. -/
import Derived.Test.YtakfnojiaakfpaaGreatDoorTypC
import Derived.Test.YtakfnojiaakfpaaGreatDoorRTypF
import Derived.Test.YtakfnojiaakfpaaGreatDoorRTypM
namespace Go.Proofs.YtakfnojiaakfpaaGreatDoor
open Go.RowKit
theorem Rd.dropk {w : World} {B b o : Nat} {xs : List (List Value)} (h : Rd w B 1 (some ⟨b, o, none⟩) xs) (q : Nat) : Rd w B 1 (some ⟨b, o + q, none⟩) (xs.drop q) := by
  refine ⟨fun x hx => h.1 x (List.mem_of_mem_drop hx), fun hn => ?_⟩
  obtain ⟨b', o', e, hb, hc⟩ := h.2 (by rintro rfl; simp at hn)
  injection e with e
  injection e with e1 e2
  subst e1 e2
  refine ⟨b, o + q, rfl, hb, fun k x j v hx hv => ?_⟩
  have := hc (q + k) x j v (by rw [List.getElem?_drop] at hx; exact hx) hv
  rw [show o + q + k * 1 + j = o + (q + k) * 1 + j from by omega]
  exact this
theorem eiInt : EI Tryz.prog 76 3 1 8 := EI.mk' Tryz.underlying76 (z := .int .i64 0) (by kernel_rfl) rfl (by omega)
theorem formB_kind {x : Nod} (h : ¬ (1 ≤ x.kind ∧ x.kind ≤ 7)) : formB x = false := Bool.eq_false_iff.2 fun hh => h ⟨(formB_parts hh).2.2.1, (formB_parts hh).2.2.2⟩
theorem stepN_wide {st : List Int} {x : Nod} (h : (st.length : Int) < partsN x.kind) : stepN st x = (190, st) := by
  by_cases hf : formB x = true
  · exact stepN_few (by rw [← (formB_parts hf).1]; exact h)
  · exact stepN_bad (by simpa using hf)
set_option maxRecDepth 100000 in
set_option maxHeartbeats 8000000 in
theorem rcheck_any (ns : List Nod) (A1 : Option Addr) (n1 c1 B1 : Nat) (w : World) (h1 : RdNods w B1 A1 ns) (hn1 : ns.length = n1) (hB : B1 ≤ w.heap.size) (hm1 : n1 * 120 ≤ 140737488355328) (hok : ∀ x ∈ ns, okNodT x) :
    Calls Tryz.prog 17 #[.slice A1 n1 c1] w (CheckRes ns w) := by
  have Hn1 := Lib.hid hn1
  have HOK := Lib.hid hok
  clear hn1 hok
  go_enter Tryz.func17, Tryz.ntmps17
  go_wp2
  go_loopw [5, 6] (fun s i wr => ∃ (k c : Nat) (A : Option Addr) (st : List Int), k ≤ n1 ∧ i = .int .i64 k ∧ st.length ≤ k ∧ s = .slice A st.length c ∧ Own wr w.heap.size 3 1 A st.length c (intsC st) ∧ Hid (∀ v ∈ st, TyOk v) ∧ Hid (runN' (ns.drop k) k st = runN' ns 0 []) ∧ Below w.heap.size w wr) (fun _ i _ => n1 - (intOf i).toNat)
  case atStart => exact ⟨0, 0, none, [], by omega, rfl, by simp, rfl, Own.nil_ (by omega), by intro v hv; simp at hv, rfl, Below.refl _ _⟩
  case round =>
    obtain ⟨k, c, A, st, hk, rfl, hst, rfl, hO, HTy, HR, hb⟩ := hrel
    have hk0 : (0 : Int) ≤ (k : Int) := Int.natCast_nonneg _
    have hsz := hb.size
    by_cases hlt : k < n1
    · have hk1 : (k : Int) < (n1 : Int) := by omega
      obtain ⟨x, e1⟩ := get_lt Hn1 hlt
      obtain ⟨b1, o1, Am, cm, An, cn, hA1, hb1, p0, p1, p2, p3, p4, p5, p6, p7, p8, p9, r1, r2, _, _, _, _⟩ := (h1.below (hb.mono hB)).at_ e1
      subst hA1
      have E1 := Lib.hid e1
      have hbl : b1 < wr.heap.size := by omega
      have ok := HOK.out x (List.mem_of_getElem? e1)
      have HX := Lib.hid ok
      obtain ⟨ok1, ok2, ok3, ok4, ok5⟩ := ok
      clear e1 ok1 ok2 ok5
      have HP := fun W => Lib.hid (rparts_any x.kind W)
      have fin : ∀ code : Int, code ≠ 0 → (stepN st x).1 = code → Hid (checkN ns = (0, k, code)) := fun code h0 e => by
        have := checkN_err ((HR.out.symm).trans (runN_stop E1.out (by rw [e]; exact h0)))
        rw [e] at this
        exact this
      by_cases hkd : 1 ≤ x.kind ∧ x.kind ≤ 7
      · have hpp : 0 ≤ partsN x.kind ∧ partsN x.kind ≤ 2 := by
          unfold partsN
          split
          · omega
          · split
            · omega
            · rw [if_pos (by omega)]; omega
        obtain ⟨hp0, hp2⟩ := hpp
        by_cases hw : (st.length : Int) < partsN x.kind
        · have HC := fin 190 (by omega) (by rw [stepN_wide hw])
          clear fin hkd
          go_wp2_with (go_at_call 32; refine ((HP _).out).mono ?_; rintro e w' ⟨rfl, rfl⟩)
          go_ret3
          exact ⟨by rw [HC.out]; exact ret_three rfl rfl rfl, hb⟩
        · have HF := Lib.hid (rform_any x Am An cm cn B1 wr r2 (by omega) HX.out hkd.1 hkd.2)
          cases hf : formB x with
          | false =>
            rw [hf] at HF
            have HC := fin 190 (by omega) (by rw [stepN_bad hf])
            clear fin hkd hf
            go_wp2_with (first | (go_at_call 32; refine ((HP _).out).mono ?_; rintro e w' ⟨rfl, rfl⟩) | (go_at_call 33; refine (HF.out).mono ?_; rintro e w2 ⟨rfl, hb2⟩))
            go_ret3
            exact ⟨by rw [HC.out]; exact ret_three rfl rfl rfl, hb.trans (hb2.mono hsz)⟩
          | true =>
            rw [hf] at HF
            have hpe := (formB_parts hf).1
            have hfew : ¬ (st.length : Int) < x.parts := by rw [← hpe]; exact hw
            have HM := fun W (hW : Below wr.heap.size wr W) => Lib.hid (rmatCheck_any x.mat Am x.mat.length cm B1 W (r1.below (hW.mono (by omega))) rfl ok3 ok4)
            have hwI : ¬ (st.length : Int) < partsN x.kind := hw
            by_cases hm : matCode x.mat = 0
            · have HG := Lib.hid (stepN_go hf hfew hm)
              simp only [hm] at HM
              obtain ⟨q, hq⟩ : ∃ q, st.length - x.parts.toNat = q := ⟨_, rfl⟩
              rw [hq] at HG
              have hfrom : IntKind.i64.wrap ((st.length : Int) - partsN x.kind) = (q : Int) := by rw [IntKind.wrap_i64]; omega
              have hql : q ≤ st.length := by omega
              have hq0 : (0 : Int) ≤ q := by omega
              have hqI : (q : Int) ≤ st.length := by omega
              have hpq : ((st.length - q : Nat) : Int) = partsN x.kind := by omega
              have hcap := hO.cap
              have HPQ := Lib.hid hpq
              have HKD := Lib.hid hkd
              unfold maxLen at hcap
              clear hf hfew hm hpe hq hpq hkd hw ok3 ok4
              go_wp2_with (first | (go_at_call 32; refine ((HP _).out).mono ?_; rintro e w' ⟨rfl, rfl⟩) | (go_at_call 33; refine (HF.out).mono ?_; rintro e w2 ⟨rfl, hb2⟩; have q0 := (hb2.cell (p := ⟨b1, o1 + k * 10, none⟩) hbl).trans p0; have q1 := (hb2.cell (p := ⟨b1, o1 + k * 10 + 1, none⟩) hbl).trans p1; have q2 := (hb2.cell (p := ⟨b1, o1 + k * 10 + 2, none⟩) hbl).trans p2; have q3 := (hb2.cell (p := ⟨b1, o1 + k * 10 + 3, none⟩) hbl).trans p3; have q4 := (hb2.cell (p := ⟨b1, o1 + k * 10 + 4, none⟩) hbl).trans p4; have q5 := (hb2.cell (p := ⟨b1, o1 + k * 10 + 5, none⟩) hbl).trans p5; have q6 := (hb2.cell (p := ⟨b1, o1 + k * 10 + 6, none⟩) hbl).trans p6; have q7 := (hb2.cell (p := ⟨b1, o1 + k * 10 + 7, none⟩) hbl).trans p7; have q8 := (hb2.cell (p := ⟨b1, o1 + k * 10 + 8, none⟩) hbl).trans p8; have q9 := (hb2.cell (p := ⟨b1, o1 + k * 10 + 9, none⟩) hbl).trans p9) | (go_at_call 34; refine ((HM w2 hb2).out).mono ?_; rintro e w' ⟨rfl, rfl⟩))
              have hO2 := hO.belowAll hb2
              have hbw := hb.trans (hb2.mono hsz)
              have hs2 := hbw.size
              have hbl2 : b1 < w2.heap.size := Nat.lt_of_lt_of_le hbl hb2.size
              have c0 := later_at hbl2 q0
              have c1 := later_at hbl2 q1
              have c2 := later_at hbl2 q2
              have c3 := later_at hbl2 q3
              have c4 := later_at hbl2 q4
              have c5 := later_at hbl2 q5
              have c6 := later_at hbl2 q6
              have c7 := later_at hbl2 q7
              have c8 := later_at hbl2 q8
              have c9 := later_at hbl2 q9
              rcases hO2.form with ⟨rfl, h0n, rfl⟩ | ⟨g, rfl, _, hg⟩
              · obtain rfl : st = [] := List.eq_nil_of_length_eq_zero h0n
                obtain rfl : q = 0 := by simpa using hql
                clear h0n
                simp only [List.drop_nil] at HG
                refine wp_region_later (by kernel_rfl) (by kernel_rfl) ?_
                repeat (go_big_quiet_step ((go_at_call 35; exact later_call (rof_any x Am An cm cn _ _ _ w2.heap.size [] _ Rd.nil_ (later_size _) rfl HPQ.out HKD.out.1 HKD.out.2 (by omega) (by unfold maxLen; omega) (by intro v hv; simp at hv)))))
                refine wpQuiet_nil ?_
                intro _ hw'
                obtain ⟨z, rfl⟩ := hw'
                have hO4 := hO2.belowAll (later_below z)
                have hW4 := hbw.trans ((later_below z).mono hs2)
                have hs4 := hW4.size
                clear c0 c1 c2 c3 c4 c5 c6 c7 c8 c9
                generalize later w2 z = W4 at *
                by_cases h0 : (stepN [] x).1 = 0
                · have HR2 := Lib.hid ((runN_step E1.out h0).trans HR.out)
                  have HT2 := Lib.hid (stepN_ok HTy.out h0)
                  have hE := HG.out
                  have hz : (ofN x []).2 = 0 := by rw [hE] at h0; exact h0
                  have hl2 := stepN_len [] x
                  have HE := Lib.hid hE
                  have HZ := Lib.hid hz
                  clear hE h0 fin
                  rw [hz]
                  clear hz
                  go_wp2_with (at_builtin; refine wpList_append_rd (ys := [[.int .i64 (ofN x []).1]]) _ rfl (.tmp 70) (.tmp 72) _ rfl eiInt rfl ((hO4.cut hql).alloc _) rfl (Rd.new W4 (xs := [[.int .i64 (ofN x []).1]]) (by simp) _ rfl) rfl (by intro y hy u hu; simp at hy; subst hy; simp at hu; subst hu; rfl) (by simp only [maxLen]; omega) (by omega) (by simp; omega) ?_; intro A' c' w5 ho hg5 hat hb5)
                  go_roundw
                  case rel =>
                    refine ⟨k + 1, c', A', (stepN [] x).2, by omega, by go_num, by omega, ?_, ?_, HT2, HR2, (hW4.alloc (by omega) _).trans hb5⟩
                    · rw [HE.out]; simp; try omega
                    · rw [HE.out]
                      have hl : ((List.take 0 ([] : List Int)) ++ [(ofN x []).1]).length = 0 + 1 := by simp; try omega
                      have hi : intsC ((List.take 0 ([] : List Int)) ++ [(ofN x []).1]) = (intsC []).take 0 ++ [[.int .i64 (ofN x []).1]] := by first | (simp [intsC]; done) | (simp [intsC]; rw [List.take_of_length_le (by simp)])
                      show Own _ _ _ 1 A' ((List.take 0 ([] : List Int)) ++ [(ofN x []).1]).length c' (intsC ((List.take 0 ([] : List Int)) ++ [(ofN x []).1]))
                      rw [hl, hi]; exact ho
                  case measure => simp [intOf]; omega
                · have hE := HG.out
                  have HC := fin (ofN x []).2 (by rw [hE] at h0; exact h0) (by rw [hE])
                  have hne : ((ofN x []).2 != 0) = true := by rw [bne_iff_ne]; rw [hE] at h0; exact h0
                  have hne2 : ((ofN x []).2 == 0) = false := by rw [beq_eq_false_iff_ne]; rw [hE] at h0; exact h0
                  clear hE h0 fin
                  go_wp2
                  go_ret3
                  exact ⟨by rw [HC.out]; exact ret_three rfl rfl rfl, hW4⟩
              · by_cases hcq : c = q
                · obtain rfl : q = st.length := by omega
                  subst hcq
                  have hdn : st.drop st.length = [] := List.drop_length
                  rw [hdn] at HG
                  have hz0 : (0 : Int) = partsN x.kind := by have := HPQ.out; omega
                  have HZ0 := Lib.hid hz0
                  clear hz0 hdn
                  refine wp_region_later (by kernel_rfl) (by kernel_rfl) ?_
                  repeat (go_big_quiet_step ((go_at_call 35; exact later_call (rof_any x Am An cm cn _ _ _ w2.heap.size [] _ Rd.nil_ (later_size _) (by simp) (by have := HZ0.out; simp; omega) HKD.out.1 HKD.out.2 (by omega) (by unfold maxLen; omega) (by intro v hv; simp at hv)))))
                  refine wpQuiet_nil ?_
                  intro _ hw'
                  obtain ⟨z, rfl⟩ := hw'
                  have hO4 := hO2.belowAll (later_below z)
                  have hW4 := hbw.trans ((later_below z).mono hs2)
                  have hs4 := hW4.size
                  clear c0 c1 c2 c3 c4 c5 c6 c7 c8 c9
                  generalize later w2 z = W4 at *
                  by_cases h0 : (stepN st x).1 = 0
                  · have HR2 := Lib.hid ((runN_step E1.out h0).trans HR.out)
                    have HT2 := Lib.hid (stepN_ok HTy.out h0)
                    have hE := HG.out
                    have hz : (ofN x []).2 = 0 := by rw [hE] at h0; exact h0
                    have hl2 := stepN_len st x
                    have HE := Lib.hid hE
                    have HZ := Lib.hid hz
                    clear hE h0 fin
                    rw [hz]
                    clear hz
                    go_wp2_with (at_builtin; refine wpList_append_rd (ys := [[.int .i64 (ofN x []).1]]) _ rfl (.tmp 70) (.tmp 72) _ rfl eiInt rfl ((hO4.cut hql).alloc _) rfl (Rd.new W4 (xs := [[.int .i64 (ofN x []).1]]) (by simp) _ rfl) rfl (by intro y hy u hu; simp at hy; subst hy; simp at hu; subst hu; rfl) (by simp only [maxLen]; omega) (by omega) (by simp; omega) ?_; intro A' c' w5 ho hg5 hat hb5)
                    go_roundw
                    case rel =>
                      refine ⟨k + 1, c', A', (stepN st x).2, by omega, by go_num, by omega, ?_, ?_, HT2, HR2, (hW4.alloc (by omega) _).trans hb5⟩
                      · rw [HE.out]; simp; try omega
                      · rw [HE.out]
                        have hl : (st.take st.length ++ [(ofN x []).1]).length = st.length + 1 := by simp; try omega
                        have hi : intsC (st.take st.length ++ [(ofN x []).1]) = (intsC st).take st.length ++ [[.int .i64 (ofN x []).1]] := by first | (simp [intsC]; done) | (simp [intsC]; rw [List.take_of_length_le (by simp)])
                        show Own _ _ _ 1 A' (st.take st.length ++ [(ofN x []).1]).length c' (intsC (st.take st.length ++ [(ofN x []).1]))
                        rw [hl, hi]; exact ho
                    case measure => simp [intOf]; omega
                  · have hE := HG.out
                    have HC := fin (ofN x []).2 (by rw [hE] at h0; exact h0) (by rw [hE])
                    have hne : ((ofN x []).2 != 0) = true := by rw [bne_iff_ne]; rw [hE] at h0; exact h0
                    have hne2 : ((ofN x []).2 == 0) = false := by rw [beq_eq_false_iff_ne]; rw [hE] at h0; exact h0
                    clear hE h0 fin
                    go_wp2
                    go_ret3
                    exact ⟨by rw [HC.out]; exact ret_three rfl rfl rfl, hW4⟩
                · have hrd := (hO2.rd.dropk q)
                  rw [show (intsC st).drop q = intsC (st.drop q) from by simp [intsC, List.map_drop]] at hrd
                  refine wp_region_later (by kernel_rfl) (by kernel_rfl) ?_
                  repeat (go_big_quiet_step ((go_at_call 35; exact later_call (rof_any x Am An cm cn _ _ _ w2.heap.size (st.drop q) _ (by first | exact later_rd hrd (Nat.le_refl _) _ | simpa using later_rd hrd (Nat.le_refl _) _) (later_size _) (by simp) HPQ.out HKD.out.1 HKD.out.2 (by omega) (by unfold maxLen; omega) (fun v hv => HTy.out v (List.mem_of_mem_drop hv))))))
                  refine wpQuiet_nil ?_
                  intro _ hw'
                  obtain ⟨z, rfl⟩ := hw'
                  have hO4 := hO2.belowAll (later_below z)
                  have hW4 := hbw.trans ((later_below z).mono hs2)
                  have hs4 := hW4.size
                  clear c0 c1 c2 c3 c4 c5 c6 c7 c8 c9
                  generalize later w2 z = W4 at *
                  by_cases h0 : (stepN st x).1 = 0
                  · have HR2 := Lib.hid ((runN_step E1.out h0).trans HR.out)
                    have HT2 := Lib.hid (stepN_ok HTy.out h0)
                    have hE := HG.out
                    have hz : (ofN x (st.drop q)).2 = 0 := by rw [hE] at h0; exact h0
                    have hl2 := stepN_len st x
                    have HE := Lib.hid hE
                    have HZ := Lib.hid hz
                    clear hE h0 fin
                    rw [hz]
                    clear hz
                    go_wp2_with (at_builtin; refine wpList_append_rd (ys := [[.int .i64 (ofN x (st.drop q)).1]]) _ rfl (.tmp 70) (.tmp 72) _ rfl eiInt rfl ((hO4.cut hql).alloc _) rfl (Rd.new W4 (xs := [[.int .i64 (ofN x (st.drop q)).1]]) (by simp) _ rfl) rfl (by intro y hy u hu; simp at hy; subst hy; simp at hu; subst hu; rfl) (by simp only [maxLen]; omega) (by omega) (by simp; omega) ?_; intro A' c' w5 ho hg5 hat hb5)
                    go_roundw
                    case rel =>
                      refine ⟨k + 1, c', A', (stepN st x).2, by omega, by go_num, by omega, ?_, ?_, HT2, HR2, (hW4.alloc (by omega) _).trans hb5⟩
                      · rw [HE.out]; simp; try omega
                      · rw [HE.out]
                        have hl : (st.take q ++ [(ofN x (st.drop q)).1]).length = q + 1 := by simp; try omega
                        have hi : intsC (st.take q ++ [(ofN x (st.drop q)).1]) = (intsC st).take q ++ [[.int .i64 (ofN x (st.drop q)).1]] := by first | (simp [intsC, List.map_take]; done) | (simp [intsC, List.map_take]; rw [List.take_of_length_le (by simp)])
                        show Own _ _ _ 1 A' (st.take q ++ [(ofN x (st.drop q)).1]).length c' (intsC (st.take q ++ [(ofN x (st.drop q)).1]))
                        rw [hl, hi]; exact ho
                    case measure => simp [intOf]; omega
                  · have hE := HG.out
                    have HC := fin (ofN x (st.drop q)).2 (by rw [hE] at h0; exact h0) (by rw [hE])
                    have hne : ((ofN x (st.drop q)).2 != 0) = true := by rw [bne_iff_ne]; rw [hE] at h0; exact h0
                    have hne2 : ((ofN x (st.drop q)).2 == 0) = false := by rw [beq_eq_false_iff_ne]; rw [hE] at h0; exact h0
                    clear hE h0 fin
                    go_wp2
                    go_ret3
                    exact ⟨by rw [HC.out]; exact ret_three rfl rfl rfl, hW4⟩
            · have HC := fin 193 (by omega) (by rw [stepN_mat hf hfew hm])
              have hmI : (matCode x.mat != 0) = true := by rw [bne_iff_ne]; exact hm
              have hmI2 : (matCode x.mat == 0) = false := by rw [beq_eq_false_iff_ne]; exact hm
              clear fin hkd hf hm hfew hpe hw
              go_wp2_with (first | (go_at_call 32; refine ((HP _).out).mono ?_; rintro e w' ⟨rfl, rfl⟩) | (go_at_call 33; refine (HF.out).mono ?_; rintro e w2 ⟨rfl, hb2⟩; have q0 := (hb2.cell (p := ⟨b1, o1 + k * 10, none⟩) hbl).trans p0; have q1 := (hb2.cell (p := ⟨b1, o1 + k * 10 + 1, none⟩) hbl).trans p1; have q2 := (hb2.cell (p := ⟨b1, o1 + k * 10 + 2, none⟩) hbl).trans p2; have q3 := (hb2.cell (p := ⟨b1, o1 + k * 10 + 3, none⟩) hbl).trans p3; have q4 := (hb2.cell (p := ⟨b1, o1 + k * 10 + 4, none⟩) hbl).trans p4; have q5 := (hb2.cell (p := ⟨b1, o1 + k * 10 + 5, none⟩) hbl).trans p5; have q6 := (hb2.cell (p := ⟨b1, o1 + k * 10 + 6, none⟩) hbl).trans p6; have q7 := (hb2.cell (p := ⟨b1, o1 + k * 10 + 7, none⟩) hbl).trans p7; have q8 := (hb2.cell (p := ⟨b1, o1 + k * 10 + 8, none⟩) hbl).trans p8; have q9 := (hb2.cell (p := ⟨b1, o1 + k * 10 + 9, none⟩) hbl).trans p9) | (go_at_call 34; refine ((HM w2 hb2).out).mono ?_; rintro e w' ⟨rfl, rfl⟩))
              go_ret3
              exact ⟨by rw [HC.out]; exact ret_three rfl rfl rfl, hb.trans (hb2.mono hsz)⟩
      · have hpm : partsN x.kind = -1 := by
          unfold partsN
          rw [if_neg (by omega), if_neg (by omega), if_neg (by omega)]
        simp only [hpm] at HP
        have HC := fin 190 (by omega) (by rw [stepN_bad (formB_kind hkd)])
        clear fin hkd hpm
        go_wp2_with (go_at_call 32; refine ((HP _).out).mono ?_; rintro e w' ⟨rfl, rfl⟩)
        go_ret3
        exact ⟨by rw [HC.out]; exact ret_three rfl rfl rfl, hb⟩
    · have hkn : k = n1 := by omega
      have hkI : ¬ (k : Int) < n1 := by omega
      have HR2 : Hid (runN' ns 0 [] = .ok st) := by
        have := HR.out
        rw [List.drop_of_length_le (by have := Hn1.out; omega)] at this
        exact this.symm
      clear hkn
      by_cases h1 : st.length = 1 ∧ ¬ 4096 < n1
      · obtain ⟨h1, h2⟩ := h1
        match st, h1 with
        | [v], _ =>
          have HC := Lib.hid (checkN_good HR2.out rfl (by rw [Hn1.out]; exact h2))
          rcases hO.form with ⟨_, h0, _⟩ | ⟨g, rfl, _, hg⟩
          · simp at h0
          obtain ⟨b, o, e, _, hc⟩ := hO.rd.at1 (k := 0) (v0 := .int .i64 v) rfl
          injection e with e
          injection e with e1 e2
          subst e1 e2
          rw [Nat.add_zero] at hc
          have h2I : ¬ (4096 : Int) < n1 := by omega
          clear h2
          go_wp2
          go_ret3
          exact ⟨by rw [HC.out]; exact ret_three rfl rfl rfl, hb⟩
      · have HC := Lib.hid (checkN_bad HR2.out (by rw [Hn1.out]; omega))
        by_cases h2 : st.length = 1
        · have h3 : (4096 : Int) < n1 := by omega
          have h4 : ((st.length : Int) != 1) = false := by rw [bne_eq_false_iff_eq]; omega
          have h5 : ((st.length : Int) == 1) = true := by rw [beq_iff_eq]; omega
          clear h1 h2
          go_wp2
          go_ret3
          exact ⟨by rw [HC.out]; exact ret_three rfl (by show (n1 : Int) = (ns.length : Int); rw [Hn1.out]) rfl, hb⟩
        · have h4 : ((st.length : Int) != 1) = true := by rw [bne_iff_ne]; omega
          have h5 : ((st.length : Int) == 1) = false := by rw [beq_eq_false_iff_ne]; omega
          clear h1 h2
          go_wp2
          go_ret3
          exact ⟨by rw [HC.out]; exact ret_three rfl (by show (n1 : Int) = (ns.length : Int); rw [Hn1.out]) rfl, hb⟩
end Go.Proofs.YtakfnojiaakfpaaGreatDoor
