/- How a query is read: one part. -/
import Derived.Test.YtdikmklijpcjdaaParZ
namespace Go.Proofs.Ytdikmklijpcjdaa
open Go.RowKit
attribute [local go_sem ↓] Go.wp_at_zero Go.wp_at_succ tok_f0 tok_f2 tok_f3

set_option maxRecDepth 100000 in
set_option maxHeartbeats 8000000 in
theorem one_any {P M n : Nat} {e : PS → Rp PS} (hMM : M ≤ 1000000) (hor : PartC P M 26 #[.pointer (some ⟨P, 0, none⟩)] e (fun s => s.toks.length ≤ n)) (hok : PartOk e) :
    PartC P M 94 #[.pointer (some ⟨P, 0, none⟩)] (oneP e) (fun s => s.toks.length ≤ n + 1) := by
  intro M' R s w hM hg hl h
  have HB := Lib.hid (bracket_any hor hok)
  have HBK := Lib.hid (bracketP_ok hok)
  have HN := Lib.hid (now_st hg (StQ.start h))
  have HG := Lib.hid hg
  have H0 := Lib.hid h
  have hP0 := h.lt
  have hbf := numW_bd funcsL s.hd.text
  have hba := numW_bd aggsL s.hd.text
  clear hor hok h
  generalize hf : numW funcsL s.hd.text = f at hbf
  generalize ha : numW aggsL s.hd.text = a at hba
  have HF := Lib.hid hf
  have HA := Lib.hid ha
  clear hf ha
  go_enter Try.func94, Try.ntmps94
  go_upto_region 1 with fail
  refine (HN.out).mono ?_
  rintro e1 w1 ⟨rfl, k1⟩
  have K1 := Lib.hid k1
  have hz1 := k1.2.size
  clear k1 HN
  go_upto_region 1 with fail
  have bT : Blk (w1.alloc (.cells #[.int .i64 s.hd.kind, .int .i64 s.hd.at_, .string s.hd.text, .int .i64 s.hd.span] 52)) w1.heap.size 52 (tokC s.hd) := Blk.new w1 _ _
  have K2 := Lib.hid (K1.out.below ((Below.refl _ _).alloc (Nat.le_refl _) (.cells #[.int .i64 s.hd.kind, .int .i64 s.hd.at_, .string s.hd.text, .int .i64 s.hd.span] 52)))
  clear K1
  go_cut [3, 4] (fun v3 v4 wx => v3 = .int .i64 f ∧ v4 = .int .i64 a ∧ StQ P R w s wx ∧ Blk wx w1.heap.size 52 (tokC s.hd))
  case first =>
    generalize World.alloc _ _ = W at *
    have t2 := bT.cell (j := 2) rfl
    have hlt := bT.lt
    go_region_held3 (fun w' => w'.cell? ⟨w1.heap.size, 2, none⟩ = some (.string s.hd.text))
      (first | exact t2 | exact t3 | exact t4 | go_keep)
      (first
        | (go_at_call 96; refine (pfuncs_any _).mono ?_; rintro e3 w3 ⟨rfl, hr3, hb3⟩; have hz3 := rd_size (l := funcsL) rfl hr3; have hs3 := hb3.size; have t3 := (hb3.cell (p := ⟨w1.heap.size, 2, none⟩) hlt).trans t2)
        | (go_at_call 97; refine (paggs_any _).mono ?_; rintro e4 w4 ⟨rfl, hr4, hb4⟩; have hz4 := rd_size (l := aggsL) rfl hr4; have hs4 := hb4.size; have t4 := (hb4.cell (p := ⟨w1.heap.size, 2, none⟩) (Nat.lt_of_lt_of_le hlt hs3)).trans t3)
        | (go_at_call 68; go_must (refine (number_any_p _ _ _ _ _ _ _ (by first | exact hr3 | exact hr4) (by rfl) (by simp [maxLen])).mono ?_; rintro e5 w5 ⟨rfl, rfl⟩)))
    all_goals
      have hW3 : Below W.heap.size W w3 := ((Below.refl _ W).drew).trans hb3
      have hW4 := hW3.trans (hb4.mono hW3.size)
      have k4 := K2.out.below hW4
      have b4 := bT.below hW4 hlt
      clear hb3 hb4 hW3 hW4 hr3 hr4 t2 t3 t4
      go_wp2_with fail
      go_meet
      exact ⟨by rw [HF.out], by rw [HA.out], k4, b4⟩
  case rest =>
    clear bT K2
    obtain ⟨rfl, rfl, k4, b4⟩ := hcut
    have K4 := Lib.hid k4
    have c0 := b4.cell (j := 0) rfl
    have c2 := b4.cell (j := 2) rfl
    have cl := b4.lt
    have BT := Lib.hid b4
    have hTP : w1.heap.size ≠ P := by omega
    clear k4 b4
    by_cases hk1 : s.hd.kind = 1
    · have hk1b : (s.hd.kind == 1) = true := by rw [beq_iff_eq]; exact hk1
      have HT : Hid (oneP e s = .ok (s.on.lay (numN s.hd.text))) := by show _ = _; rw [oneP, if_pos hk1]
      have hk : s.hd.kind ≠ 0 := by rw [hk1]; decide
      have HOn := Lib.hid (on_st HG.out (StQ.start K4.out.1) hk)
      have hg1 := HG.out.on hk
      clear hk1 hk
      go_wp2_with fail
      refine (HOn.out).mono ?_
      rintro e1 w5 ⟨rfl, k5⟩
      have b5 := BT.out.fr k5.2 hTP
      have HNd := Lib.hid (pnode_any P R s.on w5 k5.1 (numN s.hd.text) none none 0 0 (Own.nil_ (by decide)) (Own.nil_ (by decide)) (by have := hg1.room; omega))
      have K5 := Lib.hid (K4.out.next k5)
      clear c0 c2 cl
      have c2 := b5.cell (j := 2) rfl
      have cl := b5.lt
      clear k5 b5 HOn
      go_wp2_with fail
      refine (HNd.out).mono ?_
      rintro e1 w6 ⟨rfl, R6, hS6⟩
      have S6 := Lib.hid (K5.out.st.next hS6)
      clear hS6
      go_wp2_with fail
      first | go_end0 | refine bodyPost_ret (results_none rfl _ _ _) rfl ?_
      rw [HT.out]
      exact ⟨rfl, R6, S6.out⟩
    · have hk1b : (s.hd.kind == 1) = false := by rw [beq_eq_false_iff_ne]; exact hk1
      have HK1 := Lib.hid hk1
      have HIs := Lib.hid (is_st HG.out (StQ.start K4.out.1) 5 sO)
      clear hk1
      go_wp2_with fail
      refine (HIs.out).mono ?_
      rintro e1 w5 ⟨rfl, k5⟩
      have b5 := BT.out.fr k5.2 hTP
      have K5 := Lib.hid (K4.out.next k5)
      clear c0 c2 cl
      have c0 := b5.cell (j := 0) rfl
      have c2 := b5.cell (j := 2) rfl
      have cl := b5.lt
      have BT5 := Lib.hid b5
      clear k5 b5 HIs K4 BT
      cases hi : s.is 5 sO with
      | true =>
        have HT : Hid (oneP e s = bracketP e s) := by show _ = _; rw [oneP, if_neg HK1.out, if_pos hi]
        have HBr := Lib.hid (HB.out M' R s w5 hM HG.out hl K5.out.1)
        clear hi
        go_wp2_with fail
        refine (HBr.out).mono ?_
        intro e2 w6 hres
        have hres2 := ResS.st K5.out.st hres
        rw [← HT.out] at hres2
        cases hb : oneP e s with
        | error z =>
          rw [hb] at hres2
          obtain ⟨rfl, hf⟩ := hres2
          clear hb hres
          go_wp2_with fail
          exact ⟨rfl, rfl, hf⟩
        | ok s2 =>
          rw [hb] at hres2
          obtain ⟨rfl, R', hS⟩ := hres2
          have HO := Lib.hid hb
          clear hb hres
          go_wp2_with fail
          first | go_end0 | refine bodyPost_ret (results_none rfl _ _ _) rfl ?_
          rw [HO.out]
          exact ⟨rfl, R', hS⟩
      | false =>
        have HI := Lib.hid hi
        clear hi
        by_cases hk3 : s.hd.kind = 3
        · have hk3b : (s.hd.kind == 3) = true := by rw [beq_iff_eq]; exact hk3
          have hk : s.hd.kind ≠ 0 := by rw [hk3]; decide
          have HK3 := Lib.hid hk3
          have HOn := Lib.hid (on_st HG.out (StQ.start K5.out.1) hk)
          have hg1 := HG.out.on hk
          have hl1 := HG.out.on_len
          clear hk3 hk
          by_cases hf : 0 < f
          · have HT : Hid (oneP e s = match bracketP e s.on with | .error x => .error x | .ok s1 => .ok (s1.lay (callN f))) := by show _ = _; rw [oneP, if_neg HK1.out, if_neg (by rw [HI.out]; decide), if_pos ⟨HK3.out, by rw [HF.out]; exact hf⟩, HF.out]; rfl
            go_wp2_with fail
            refine (HOn.out).mono ?_
            rintro e2 w6 ⟨rfl, k6⟩
            have K6 := Lib.hid (K5.out.next k6)
            have HBr := Lib.hid (HB.out M' R s.on w6 hM hg1 (by omega) k6.1)
            clear k6 HOn
            go_wp2_with fail
            refine (HBr.out).mono ?_
            intro e3 w7 hres
            cases hb : bracketP e s.on with
            | error z =>
              have HT2 : Hid (oneP e s = .error z) := by show _ = _; rw [HT.out, hb]
              rw [hb] at hres
              obtain ⟨rfl, hf⟩ := hres
              have hf2 := K6.out.st.fail hf
              clear hb
              go_wp2_with fail
              refine ⟨rfl, ?_⟩
              rw [HT2.out]
              exact ⟨rfl, hf2⟩
            | ok s1 =>
              have HT2 : Hid (oneP e s = .ok (s1.lay (callN f))) := by show _ = _; rw [HT.out, hb]
              have hg2 := ((HBK.out _ _ hb).2 _ hg1).1
              rw [hb] at hres
              obtain ⟨rfl, R7, hS⟩ := hres
              have HNd := Lib.hid (pnode_any P R7 s1 w7 hS.1 (callN f) none none 0 0 (Own.nil_ (by decide)) (Own.nil_ (by decide)) (by have := hg2.room; omega))
              have S7 := Lib.hid (K6.out.st.next hS)
              clear hb hS HBr
              go_wp2_with fail
              refine (HNd.out).mono ?_
              rintro e4 w8 ⟨rfl, R8, hS8⟩
              have S8 := Lib.hid (S7.out.next hS8)
              clear hS8
              go_wp2_with fail
              first | go_end0 | refine bodyPost_ret (results_none rfl _ _ _) rfl ?_
              rw [HT2.out]
              exact ⟨rfl, R8, S8.out⟩
          · by_cases ha : 0 < a
            · have HT : Hid (oneP e s = match s.on.group sBy sWithout 1 2 with
                | .error x => .error x
                | .ok (s1, g, l) => match bracketP e s1 with
                  | .error x => .error x
                  | .ok s2 => .ok (s2.lay (aggN a g l))) := by show _ = _; rw [oneP, if_neg HK1.out, if_neg (by rw [HI.out]; decide), if_neg (fun h => hf (by rw [← HF.out]; exact h.2)), if_pos ⟨HK3.out, by rw [HA.out]; exact ha⟩, HA.out]; rfl
              go_wp2_with fail
              refine (HOn.out).mono ?_
              rintro e2 w6 ⟨rfl, k6⟩
              have K6 := Lib.hid (K5.out.next k6)
              have hz6 := K6.out.2.size
              clear k6 HOn
              have hgr := fun (W : World) (k : StQ P R w s.on W) (b : Blk W w6.heap.size 37 (nodC (aggN a 0 []) none 0 none 0)) => Lib.hid (pgroup_any (M := M') (by omega) hg1 k H0.out rfl hz6 (aggN a 0 []) ⟨rfl, rfl, rfl⟩ b sBy sWithout 1 2)
              have HGr := hgr _ (K6.out.below ((Below.refl _ _).alloc (Nat.le_refl _) (.cells #[.int .i64 5, .int .i64 a, .string ⟨#[]⟩, .slice none 0 0, .int .i64 0, .int .i64 0, .int .i64 0, .slice none 0 0, .bool false, .int .i64 1] 37))) (Blk.new w6 _ _)
              clear hgr
              go_wp2_with fail
              refine (HGr.out).mono ?_
              intro e3 w7 hres
              cases hgp : s.on.group sBy sWithout 1 2 with
              | error z =>
                have HT2 : Hid (oneP e s = .error z) := by show _ = _; rw [HT.out, hgp]
                rw [hgp] at hres
                obtain ⟨rfl, hf⟩ := hres
                clear hgp
                go_wp2_with fail
                refine ⟨rfl, ?_⟩
                rw [HT2.out]
                exact ⟨rfl, hf.weak⟩
              | ok q =>
                obtain ⟨s1, g, l⟩ := q
                have HT2 : Hid (oneP e s = match bracketP e s1 with
                  | .error x => .error x
                  | .ok s2 => .ok (s2.lay (aggN a g l))) := by show _ = _; rw [HT.out, hgp]
                have hst := (group_step hgp).1
                have hgS := (hst.good _ hg1).more (M' := M') (by omega)
                have hlS := hst.len _ hg1
                rw [hgp] at hres
                obtain ⟨rfl, k7, An, cn, b7, o7⟩ := hres
                have HBr := Lib.hid (HB.out M' R s1 w7 hM hgS (by omega) k7.1)
                have hRn : some w6.heap.size ≠ R.1.map Addr.block := fun e => by have := (H0.out.above e.symm).2; omega
                have K7 := Lib.hid k7
                have B7 := Lib.hid b7
                have O7 := Lib.hid o7
                clear hgp hst k7 b7 o7 HGr
                go_wp2_with fail
                refine (HBr.out).mono ?_
                intro e4 w8 hres
                cases hb : bracketP e s1 with
                | error z =>
                  have HT3 : Hid (oneP e s = .error z) := by show _ = _; rw [HT2.out, hb]
                  rw [hb] at hres
                  obtain ⟨rfl, hf⟩ := hres
                  have hf2 := K7.out.st.fail hf
                  clear hb
                  go_wp2_with fail
                  refine ⟨rfl, ?_⟩
                  rw [HT3.out]
                  exact ⟨rfl, hf2⟩
                | ok s2 =>
                  have HT3 : Hid (oneP e s = .ok (s2.lay (aggN a g l))) := by show _ = _; rw [HT2.out, hb]
                  have hg2 := ((HBK.out _ _ hb).2 _ hgS).1
                  rw [hb] at hres
                  obtain ⟨rfl, R8, hS⟩ := hres
                  have b8 := B7.out.frA hS.2.1 (by omega) hRn
                  have o8 : Own w8 w.heap.size 9 1 An l.length cn (textsC l) := O7.out.same fun b hb => by
                    have h1 := O7.out.block hb
                    refine hS.2.1.block b h1.2 (by omega) fun e => ?_
                    have := (H0.out.above e).2
                    omega
                  have HNd := Lib.hid (pnode_any P R8 s2 w8 hS.1 (aggN a g l) none An 0 cn (Own.nil_ (by decide)) (o8.lower (by omega)) (by have := hg2.room; omega))
                  have S8 := Lib.hid (K7.out.st.next hS)
                  have n0 := b8.cell (j := 0) rfl
                  have n1 := b8.cell (j := 1) rfl
                  have n2 := b8.cell (j := 2) rfl
                  have n3 := b8.cell (j := 3) rfl
                  have n4 := b8.cell (j := 4) rfl
                  have n5 := b8.cell (j := 5) rfl
                  have n6 := b8.cell (j := 6) rfl
                  have n7 := b8.cell (j := 7) rfl
                  have n8 := b8.cell (j := 8) rfl
                  have n9 := b8.cell (j := 9) rfl
                  have nl := b8.lt
                  clear hb hS HBr b8 o8 B7 O7
                  go_wp2_with fail
                  refine (HNd.out).mono ?_
                  rintro e5 w9 ⟨rfl, R9, hS9⟩
                  have S9 := Lib.hid (S8.out.next hS9)
                  clear hS9
                  go_wp2_with fail
                  first | go_end0 | refine bodyPost_ret (results_none rfl _ _ _) rfl ?_
                  rw [HT3.out]
                  exact ⟨rfl, R9, S9.out⟩
            · have HT : Hid (oneP e s = chooseP s) := by show _ = _; rw [oneP, if_neg HK1.out, if_neg (by rw [HI.out]; decide), if_neg (fun h => hf (by rw [← HF.out]; exact h.2)), if_neg (fun h => ha (by rw [← HA.out]; exact h.2))]
              have HCh := Lib.hid (choose_any (M := M') (by omega) HG.out K5.out.1)
              go_wp2_with fail
              refine (HCh.out).mono ?_
              intro e2 w6 hres
              have hres2 := ResS.st K5.out.st hres
              rw [← HT.out] at hres2
              cases hb : oneP e s with
              | error z =>
                rw [hb] at hres2
                obtain ⟨rfl, hf⟩ := hres2
                clear hb hres
                go_wp2_with fail
                exact ⟨rfl, rfl, hf⟩
              | ok s2 =>
                rw [hb] at hres2
                obtain ⟨rfl, R', hS⟩ := hres2
                have HO := Lib.hid hb
                clear hb hres
                go_wp2_with fail
                first | go_end0 | refine bodyPost_ret (results_none rfl _ _ _) rfl ?_
                rw [HO.out]
                exact ⟨rfl, R', hS⟩
        · have hk3b : (s.hd.kind == 3) = false := by rw [beq_eq_false_iff_ne]; exact hk3
          have HT : Hid (oneP e s = chooseP s) := by show _ = _; rw [oneP, if_neg HK1.out, if_neg (by rw [HI.out]; decide), if_neg (fun h => hk3 h.1), if_neg (fun h => hk3 h.1)]
          clear hk3
          have HCh := Lib.hid (choose_any (M := M') (by omega) HG.out K5.out.1)
          go_wp2_with fail
          refine (HCh.out).mono ?_
          intro e2 w6 hres
          have hres2 := ResS.st K5.out.st hres
          rw [← HT.out] at hres2
          cases hb : oneP e s with
          | error z =>
            rw [hb] at hres2
            obtain ⟨rfl, hf⟩ := hres2
            clear hb hres
            go_wp2_with fail
            exact ⟨rfl, rfl, hf⟩
          | ok s2 =>
            rw [hb] at hres2
            obtain ⟨rfl, R', hS⟩ := hres2
            have HO := Lib.hid hb
            clear hb hres
            go_wp2_with fail
            first | go_end0 | refine bodyPost_ret (results_none rfl _ _ _) rfl ?_
            rw [HO.out]
            exact ⟨rfl, R', hS⟩
end Go.Proofs.Ytdikmklijpcjdaa
