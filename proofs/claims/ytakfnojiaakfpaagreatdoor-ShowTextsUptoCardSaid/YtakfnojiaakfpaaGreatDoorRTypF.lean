/- Types of trees: a node's form, the document's answer. -/
import Derived.Test.YtakfnojiaakfpaaGreatDoorRTypA
import Derived.Test.YtakfnojiaakfpaaGreatDoorTypSrc
namespace Go.Proofs.YtakfnojiaakfpaaGreatDoor
open Go.RowKit
theorem formB_facts {x : Nod} (h : formB x = true) : x.parts = partsN x.kind ∧ x.names.all nameB = true ∧ (x.grp = 0 → x.names = []) ∧ (x.kind ≠ 2 → x.kind ≠ 3 → x.mat = [] ∧ x.back = 0) ∧ (x.kind ≠ 3 → x.width = 0) ∧ (x.kind ≠ 1 → x.text = ByteArray.empty) ∧ (x.kind ≠ 6 → x.cmp = false) ∧ (x.kind ≠ 5 → x.kind ≠ 6 → x.grp = 0) ∧ (x.kind = 1 ∨ x.kind = 2 ∨ x.kind = 3 ∨ x.kind = 7 → x.op = 0) := by
  obtain ⟨p1, p2, p3, p4⟩ := formB_parts h
  simp only [formB, Bool.and_eq_true] at h
  obtain ⟨⟨⟨h1, h2⟩, h3⟩, h4⟩ := h
  simp only [nodeNames, Bool.and_eq_true] at h2
  refine ⟨p1.symm, h2.1, ?_, ?_, ?_⟩
  · intro g
    have := h2.2
    simpa [g] using this
  · intro k2 k3
    refine ⟨by simpa [k2, k3] using h3, ?_⟩
    simp only [plainB, Bool.and_eq_true, decide_eq_true_eq] at h1
    have := h1.1.1.1.2
    rw [this]
    unfold bareN
    by_cases k1 : x.kind = 1 <;> by_cases k4 : x.kind = 4 <;> by_cases k5 : x.kind = 5 <;> by_cases k6 : x.kind = 6 <;> simp [k1, k2, k3, k4, k5, k6]
  · simp only [plainB, Bool.and_eq_true, decide_eq_true_eq] at h1
    obtain ⟨⟨⟨⟨⟨⟨⟨_, e1⟩, e2⟩, e3⟩, e4⟩, e5⟩, e6⟩, _⟩ := h1
    unfold bareN at e1 e2 e3 e5 e6
    refine ⟨fun k => ?_, fun k => ?_, fun k => ?_, fun k k' => ?_, fun k => ?_⟩
    · rw [e3]; by_cases k1 : x.kind = 1 <;> by_cases k2 : x.kind = 2 <;> by_cases k4 : x.kind = 4 <;> by_cases k5 : x.kind = 5 <;> by_cases k6 : x.kind = 6 <;> simp [k1, k2, k, k4, k5, k6]
    · rw [e2]; by_cases k3 : x.kind = 3 <;> by_cases k2 : x.kind = 2 <;> by_cases k4 : x.kind = 4 <;> by_cases k5 : x.kind = 5 <;> by_cases k6 : x.kind = 6 <;> simp [k3, k2, k, k4, k5, k6]
    · rw [e6]; by_cases k3 : x.kind = 3 <;> by_cases k2 : x.kind = 2 <;> by_cases k4 : x.kind = 4 <;> by_cases k5 : x.kind = 5 <;> by_cases k1 : x.kind = 1 <;> simp [k3, k2, k, k4, k5, k1]
    · rw [e5]; by_cases k3 : x.kind = 3 <;> by_cases k2 : x.kind = 2 <;> by_cases k4 : x.kind = 4 <;> by_cases k1 : x.kind = 1 <;> simp [k3, k2, k, k', k4, k1]
    · rw [e1]; rcases k with k | k | k | k <;> simp [k]
theorem formB_intro {x : Nod} (h1 : x.parts = partsN x.kind) (h2 : x.names.all nameB = true) (h3 : x.grp = 0 → x.names = []) (h4 : x.kind ≠ 2 → x.kind ≠ 3 → x.mat = [] ∧ x.back = 0) (h5 : x.kind ≠ 3 → x.width = 0) (h6 : x.kind ≠ 1 → x.text = ByteArray.empty) (h7 : x.kind ≠ 6 → x.cmp = false) (h8 : x.kind ≠ 5 → x.kind ≠ 6 → x.grp = 0)
    (h9 : x.kind = 1 ∨ x.kind = 2 ∨ x.kind = 3 ∨ x.kind = 7 → x.op = 0) : formB x = kindOk x := by
  have hn : nodeNames x = true := by
    simp only [nodeNames, h2, Bool.true_and]
    by_cases g : x.grp = 0
    · simp [h3 g]
    · simp [g]
  have hm : x.mat = [] ∨ x.kind = 2 ∨ x.kind = 3 := by
    by_cases k2 : x.kind = 2
    · exact .inr (.inl k2)
    by_cases k3 : x.kind = 3
    · exact .inr (.inr k3)
    exact .inl (h4 k2 k3).1
  by_cases hp : plainB x (bareN x) = true
  · exact formB_eq hp hn hm
  · by_cases hk : 1 ≤ x.kind ∧ x.kind ≤ 7
    · exfalso
      apply hp
      unfold plainB bareN
      unfold partsN at h1
      have hc : x.kind = 1 ∨ x.kind = 2 ∨ x.kind = 3 ∨ x.kind = 4 ∨ x.kind = 5 ∨ x.kind = 6 ∨ x.kind = 7 := by omega
      rcases hc with k | k | k | k | k | k | k <;> simp [k] at h1 h4 h5 h6 h7 h8 h9 ⊢ <;> simp_all
    · rw [formB_np hp, kindOk_0 (by omega) (by omega) (by omega) (by omega) (by omega) (by omega) (by omega)]
set_option maxRecDepth 100000 in
set_option maxHeartbeats 20000000 in
theorem rform_any (x : Nod) (Am An : Option Addr) (cm cn B : Nat) (w : World) (hr : Rd w B 1 An (textsC x.names)) (hB : B ≤ w.heap.size) (hok : okNodT x) (hk1 : 1 ≤ x.kind) (hk7 : x.kind ≤ 7) :
    Calls Tryz.prog 33 #[.agg #[.int .i64 x.kind, .int .i64 x.op, .string x.text, .slice Am x.mat.length cm, .int .i64 x.width, .int .i64 x.back, .int .i64 x.grp, .slice An x.names.length cn, .bool x.cmp, .int .i64 x.parts]] w fun e w' => e = .returned (.bool (formB x)) ∧ Below w.heap.size w w' := by
  obtain ⟨o1, o2, o3, o4, o5⟩ := hok
  unfold maxLen at o2 o3
  have HP := fun W => Lib.hid (rparts_any x.kind W)
  have HNu := fun W => Lib.hid (rnumber_any x.text W o5)
  have HS0 := fun W => Lib.hid (rspan_any x.back 0 W)
  have HS1 := fun W => Lib.hid (rspan_any x.width 1 W)
  have hbA := (Below.refl w.heap.size w).alloc (Nat.le_refl _) (.cells (nodC x Am cm An cn).toArray 41)
  by_cases k2 : x.kind = 2
  · have f1 : (x.kind == 1) = false := by rw [beq_eq_false_iff_ne]; omega
    have g1 : (x.kind != 1) = true := by rw [bne_iff_ne]; omega
    have f2 : (x.kind == 2) = true := by rw [beq_iff_eq]; omega
    have g2 : (x.kind != 2) = false := by rw [bne_eq_false_iff_eq]; omega
    have f3 : (x.kind == 3) = false := by rw [beq_eq_false_iff_ne]; omega
    have g3 : (x.kind != 3) = true := by rw [bne_iff_ne]; omega
    have f4 : (x.kind == 4) = false := by rw [beq_eq_false_iff_ne]; omega
    have g4 : (x.kind != 4) = true := by rw [bne_iff_ne]; omega
    have f5 : (x.kind == 5) = false := by rw [beq_eq_false_iff_ne]; omega
    have g5 : (x.kind != 5) = true := by rw [bne_iff_ne]; omega
    have f6 : (x.kind == 6) = false := by rw [beq_eq_false_iff_ne]; omega
    have g6 : (x.kind != 6) = true := by rw [bne_iff_ne]; omega
    have f7 : (x.kind == 7) = false := by rw [beq_eq_false_iff_ne]; omega
    have g7 : (x.kind != 7) = true := by rw [bne_iff_ne]; omega
    have HK2 := Lib.hid k2
    clear k2
    go_enter Tryz.func33, Tryz.ntmps33
    go_wp2
    generalize hW : World.alloc _ _ = W0
    have hX : Blk W0 w.heap.size 41 (nodC x Am cm An cn) := by rw [← hW]; exact Blk.new w _ _
    have hb0 : Below w.heap.size w W0 := by rw [← hW]; exact hbA
    clear hW hbA
    have hsz0 := hb0.size
    have c0 := later_cell hX (j := 0) rfl
    have c1 := later_cell hX (j := 1) rfl
    have c2 := later_cell hX (j := 2) rfl
    have c3 := later_cell hX (j := 3) rfl
    have c4 := later_cell hX (j := 4) rfl
    have c5 := later_cell hX (j := 5) rfl
    have c6 := later_cell hX (j := 6) rfl
    have c7 := later_cell hX (j := 7) rfl
    have c8 := later_cell hX (j := 8) rfl
    have c9 := later_cell hX (j := 9) rfl
    have HNm := fun (z : Later W0) => Lib.hid (rnames_any x.names An x.names.length cn B (later W0 z) (later_rd (hr.below (hb0.mono hB)) (Nat.le_trans hB hsz0) z) rfl o2 o1)
    clear hX
    refine wp_region_later (by kernel_rfl) (by kernel_rfl) ?_
    simp only [List.append]
    have k2 := HK2.out
    by_cases hpt : x.parts = partsN x.kind
    · have q1 : (x.parts == partsN x.kind) = true := by rw [beq_iff_eq]; omega
      have q1' : (x.parts != partsN x.kind) = false := by rw [bne_eq_false_iff_eq]; omega
      cases hn : x.names.all nameB with
      | true =>
        simp only [hn] at HNm
        by_cases hg : x.grp = 0
        · have q3 : (x.grp == 0) = true := by rw [beq_iff_eq]; omega
          have q3' : (x.grp != 0) = false := by rw [bne_eq_false_iff_eq]; omega
          by_cases hnm : x.names = []
          · have q2 : ¬ 0 < x.names.length := by rw [hnm]; simp
            by_cases hwd : x.width = 0
            · have q6 : (x.width == 0) = true := by rw [beq_iff_eq]; omega
              have q6' : (x.width != 0) = false := by rw [bne_eq_false_iff_eq]; omega
              by_cases ht : x.text = ByteArray.empty
              · have q7 : x.text.toList = [] := by rw [ht, Lib.toList_data]; rfl
                have q8 : x.text.toList.isEmpty = true := by rw [q7]; rfl
                cases hcm : x.cmp with
                | true =>
                  have HT := Lib.hid (Bool.eq_false_iff.2 fun h => by
                    obtain ⟨t1, t2, t3, t4, t5, t6, t7, t8, t9⟩ := formB_facts h
                    rw [t7 (by omega)] at hcm; cases hcm)
                  clear ht hwd hnm hg hn hpt k2
                  repeat (go_big_quiet_step ((first | (go_at_call 32; exact later_same (HP _).out) | (go_at_call 71; exact later_same (HNm _).out))))
                  refine wpQuiet_nil ?_
                  intro _ hw'
                  obtain ⟨z, rfl⟩ := hw'
                  have hW := hb0.trans ((later_below z).mono hsz0)
                  go_wp2
                  go_ret
                  exact ⟨ret_bool HT.out.symm, hW⟩
                | false =>
                  have Hk2 := Lib.hid k2
                  have Hhpt := Lib.hid hpt
                  have Hhn := Lib.hid hn
                  have Hhg := Lib.hid hg
                  have Hhnm := Lib.hid hnm
                  have Hhwd := Lib.hid hwd
                  have Hht := Lib.hid ht
                  clear ht hwd hnm hg hn hpt k2
                  repeat (go_big_quiet_step ((first | (go_at_call 32; exact later_same (HP _).out) | (go_at_call 71; exact later_same (HNm _).out))))
                  refine wpQuiet_nil ?_
                  intro _ hw'
                  obtain ⟨z, rfl⟩ := hw'
                  have hW := hb0.trans ((later_below z).mono hsz0)
                  go_wp2_with (first | (go_at_call 72; refine ((HNu _).out).mono ?_; rintro e w' ⟨rfl, rfl⟩) | (go_at_call 73; first | (with_reducible refine ((HS0 _).out).mono ?_; rintro e w' ⟨rfl, rfl⟩) | (with_reducible refine ((HS1 _).out).mono ?_; rintro e w' ⟨rfl, rfl⟩)))
                  clear HP HNu HS0 HS1 HNm c0 c1 c2 c3 c4 c5 c6 c7 c8 c9
                  all_goals
                    go_ret
                    refine ⟨ret_bool ?_, hW⟩
                    have tt1 := Hhpt.out
                    have hgg := Hhg.out
                    simp only [beq_iff_eq, beq_eq_false_iff_ne, bne_iff_ne, bne_eq_false_iff_eq, ne_eq] at *
                    first
                    | exact (Bool.eq_false_iff.2 fun h => by
                        obtain ⟨_, _, _, _, _, _, _, t8, t9⟩ := formB_facts h
                        omega).symm
                    | (have kz : x.kind = 7 := by omega
                       by_cases hz : x.op = 0
                       · have e1 : formB x = kindOk x := by
                           refine formB_intro tt1 Hhn.out (fun _ => Hhnm.out) (fun a _ => absurd Hk2.out a) (fun _ => Hhwd.out) (fun _ => Hht.out) (fun _ => hcm) ?_ (fun _ => hz)
                           intro _ _; omega
                         have pz : x.parts = 1 := by rw [tt1, kz]; rfl
                         rw [e1, kindOk_7 kz, pz, hz]; rfl
                       · have e1 : formB x = false := Bool.eq_false_iff.2 fun h => by
                           obtain ⟨_, _, _, _, _, _, _, _, t9⟩ := formB_facts h
                           exact hz (t9 (by omega))
                         rw [e1, Bool.eq_iff_iff]; simp [hz])
                    | (have e1 : formB x = kindOk x := by
                         refine formB_intro tt1 Hhn.out (fun _ => Hhnm.out) (fun a _ => absurd Hk2.out a) (fun _ => Hhwd.out) (fun _ => Hht.out) (fun _ => hcm) ?_ ?_
                         · intro _ _; omega
                         · intro _; omega
                       rw [e1]
                       clear e1
                       have z4 : partsN 4 = 1 := rfl
                       have z5 : partsN 5 = 1 := rfl
                       have z6 : partsN 6 = 2 := rfl
                       have z7 : partsN 7 = 1 := rfl
                       first
                       | (have kz : x.kind = 1 := by omega
                          have pz : x.parts = 0 := by rw [tt1, kz]; rfl
                          rw [kindOk_1 kz])
                       | (have kz : x.kind = 2 := by omega
                          have pz : x.parts = 0 := by rw [tt1, kz]; rfl
                          rw [kindOk_2 kz])
                       | (have kz : x.kind = 3 := by omega
                          have pz : x.parts = 0 := by rw [tt1, kz]; rfl
                          rw [kindOk_3 kz])
                       | (have kz : x.kind = 4 := by omega
                          have pz : x.parts = 1 := by rw [tt1, kz]; rfl
                          rw [kindOk_4 kz])
                       | (have kz : x.kind = 5 := by omega
                          have pz : x.parts = 1 := by rw [tt1, kz]; rfl
                          rw [kindOk_5 kz])
                       | (have kz : x.kind = 6 := by omega
                          have pz : x.parts = 2 := by rw [tt1, kz]; rfl
                          rw [kindOk_6 kz])
                       | (have kz : x.kind = 7 := by omega
                          have pz : x.parts = 1 := by rw [tt1, kz]; rfl
                          rw [kindOk_7 kz])
                       all_goals first
                       | rfl
                       | (simp [*]; done)
                       | (rw [Bool.eq_iff_iff]; simp [inB, cmpB, *]; done)
                       | (cases hcc : x.cmp <;> (rw [Bool.eq_iff_iff]; simp [inB, cmpB, *]; done))
                       | (cases hcc : x.cmp <;> (rw [Bool.eq_iff_iff]; simp [inB, cmpB, *]; omega))
                       | (cases hcc : x.cmp <;> (rw [Bool.eq_iff_iff]; simp [inB, cmpB, hcc]; omega))
                       | (rw [Bool.eq_iff_iff]; simp [inB, cmpB, *]; omega))
              · have q7 : ¬ x.text.toList = [] := by intro e; apply ht; apply toList_inj.1; rw [e, Lib.toList_data]; rfl
                have q8 : x.text.toList.isEmpty = false := by rw [Bool.eq_false_iff]; simpa using q7
                have HT := Lib.hid (Bool.eq_false_iff.2 fun h => by
                  obtain ⟨t1, t2, t3, t4, t5, t6, t7, t8, t9⟩ := formB_facts h
                  exact ht (t6 (by omega)))
                clear ht hwd hnm hg hn hpt k2
                repeat (go_big_quiet_step ((first | (go_at_call 32; exact later_same (HP _).out) | (go_at_call 71; exact later_same (HNm _).out))))
                refine wpQuiet_nil ?_
                intro _ hw'
                obtain ⟨z, rfl⟩ := hw'
                have hW := hb0.trans ((later_below z).mono hsz0)
                go_wp2
                go_ret
                exact ⟨ret_bool HT.out.symm, hW⟩
            · have q6 : (x.width == 0) = false := by rw [beq_eq_false_iff_ne]; omega
              have q6' : (x.width != 0) = true := by rw [bne_iff_ne]; omega
              have HT := Lib.hid (Bool.eq_false_iff.2 fun h => by
                obtain ⟨t1, t2, t3, t4, t5, t6, t7, t8, t9⟩ := formB_facts h
                exact hwd (t5 (by omega)))
              clear hwd hnm hg hn hpt k2
              repeat (go_big_quiet_step ((first | (go_at_call 32; exact later_same (HP _).out) | (go_at_call 71; exact later_same (HNm _).out))))
              refine wpQuiet_nil ?_
              intro _ hw'
              obtain ⟨z, rfl⟩ := hw'
              have hW := hb0.trans ((later_below z).mono hsz0)
              go_wp2
              go_ret
              exact ⟨ret_bool HT.out.symm, hW⟩
          · have q2 : 0 < x.names.length := List.length_pos_iff.2 hnm
            have HT := Lib.hid (Bool.eq_false_iff.2 fun h => by
              obtain ⟨t1, t2, t3, t4, t5, t6, t7, t8, t9⟩ := formB_facts h
              exact hnm (t3 hg))
            clear hnm hg hn hpt k2
            repeat (go_big_quiet_step ((first | (go_at_call 32; exact later_same (HP _).out) | (go_at_call 71; exact later_same (HNm _).out))))
            refine wpQuiet_nil ?_
            intro _ hw'
            obtain ⟨z, rfl⟩ := hw'
            have hW := hb0.trans ((later_below z).mono hsz0)
            go_wp2
            go_ret
            exact ⟨ret_bool HT.out.symm, hW⟩
        · have q3 : (x.grp == 0) = false := by rw [beq_eq_false_iff_ne]; omega
          have q3' : (x.grp != 0) = true := by rw [bne_iff_ne]; omega
          by_cases hwd : x.width = 0
          · have q6 : (x.width == 0) = true := by rw [beq_iff_eq]; omega
            have q6' : (x.width != 0) = false := by rw [bne_eq_false_iff_eq]; omega
            by_cases ht : x.text = ByteArray.empty
            · have q7 : x.text.toList = [] := by rw [ht, Lib.toList_data]; rfl
              have q8 : x.text.toList.isEmpty = true := by rw [q7]; rfl
              cases hcm : x.cmp with
              | true =>
                have HT := Lib.hid (Bool.eq_false_iff.2 fun h => by
                  obtain ⟨t1, t2, t3, t4, t5, t6, t7, t8, t9⟩ := formB_facts h
                  rw [t7 (by omega)] at hcm; cases hcm)
                clear ht hwd hg hn hpt k2
                repeat (go_big_quiet_step ((first | (go_at_call 32; exact later_same (HP _).out) | (go_at_call 71; exact later_same (HNm _).out))))
                refine wpQuiet_nil ?_
                intro _ hw'
                obtain ⟨z, rfl⟩ := hw'
                have hW := hb0.trans ((later_below z).mono hsz0)
                go_wp2
                go_ret
                exact ⟨ret_bool HT.out.symm, hW⟩
              | false =>
                have Hk2 := Lib.hid k2
                have Hhpt := Lib.hid hpt
                have Hhn := Lib.hid hn
                have Hhg := Lib.hid hg
                have Hhwd := Lib.hid hwd
                have Hht := Lib.hid ht
                clear ht hwd hg hn hpt k2
                repeat (go_big_quiet_step ((first | (go_at_call 32; exact later_same (HP _).out) | (go_at_call 71; exact later_same (HNm _).out))))
                refine wpQuiet_nil ?_
                intro _ hw'
                obtain ⟨z, rfl⟩ := hw'
                have hW := hb0.trans ((later_below z).mono hsz0)
                go_wp2_with (first | (go_at_call 72; refine ((HNu _).out).mono ?_; rintro e w' ⟨rfl, rfl⟩) | (go_at_call 73; first | (with_reducible refine ((HS0 _).out).mono ?_; rintro e w' ⟨rfl, rfl⟩) | (with_reducible refine ((HS1 _).out).mono ?_; rintro e w' ⟨rfl, rfl⟩)))
                clear HP HNu HS0 HS1 HNm c0 c1 c2 c3 c4 c5 c6 c7 c8 c9
                all_goals
                  go_ret
                  refine ⟨ret_bool ?_, hW⟩
                  have tt1 := Hhpt.out
                  have hgg := Hhg.out
                  simp only [beq_iff_eq, beq_eq_false_iff_ne, bne_iff_ne, bne_eq_false_iff_eq, ne_eq] at *
                  first
                  | exact (Bool.eq_false_iff.2 fun h => by
                      obtain ⟨_, _, _, _, _, _, _, t8, t9⟩ := formB_facts h
                      omega).symm
                  | (have kz : x.kind = 7 := by omega
                     by_cases hz : x.op = 0
                     · have e1 : formB x = kindOk x := by
                         refine formB_intro tt1 Hhn.out (fun g => absurd g Hhg.out) (fun a _ => absurd Hk2.out a) (fun _ => Hhwd.out) (fun _ => Hht.out) (fun _ => hcm) ?_ (fun _ => hz)
                         intro _ _; omega
                       have pz : x.parts = 1 := by rw [tt1, kz]; rfl
                       rw [e1, kindOk_7 kz, pz, hz]; rfl
                     · have e1 : formB x = false := Bool.eq_false_iff.2 fun h => by
                         obtain ⟨_, _, _, _, _, _, _, _, t9⟩ := formB_facts h
                         exact hz (t9 (by omega))
                       rw [e1, Bool.eq_iff_iff]; simp [hz])
                  | (have e1 : formB x = kindOk x := by
                       refine formB_intro tt1 Hhn.out (fun g => absurd g Hhg.out) (fun a _ => absurd Hk2.out a) (fun _ => Hhwd.out) (fun _ => Hht.out) (fun _ => hcm) ?_ ?_
                       · intro _ _; omega
                       · intro _; omega
                     rw [e1]
                     clear e1
                     have z4 : partsN 4 = 1 := rfl
                     have z5 : partsN 5 = 1 := rfl
                     have z6 : partsN 6 = 2 := rfl
                     have z7 : partsN 7 = 1 := rfl
                     first
                     | (have kz : x.kind = 1 := by omega
                        have pz : x.parts = 0 := by rw [tt1, kz]; rfl
                        rw [kindOk_1 kz])
                     | (have kz : x.kind = 2 := by omega
                        have pz : x.parts = 0 := by rw [tt1, kz]; rfl
                        rw [kindOk_2 kz])
                     | (have kz : x.kind = 3 := by omega
                        have pz : x.parts = 0 := by rw [tt1, kz]; rfl
                        rw [kindOk_3 kz])
                     | (have kz : x.kind = 4 := by omega
                        have pz : x.parts = 1 := by rw [tt1, kz]; rfl
                        rw [kindOk_4 kz])
                     | (have kz : x.kind = 5 := by omega
                        have pz : x.parts = 1 := by rw [tt1, kz]; rfl
                        rw [kindOk_5 kz])
                     | (have kz : x.kind = 6 := by omega
                        have pz : x.parts = 2 := by rw [tt1, kz]; rfl
                        rw [kindOk_6 kz])
                     | (have kz : x.kind = 7 := by omega
                        have pz : x.parts = 1 := by rw [tt1, kz]; rfl
                        rw [kindOk_7 kz])
                     all_goals first
                     | rfl
                     | (simp [*]; done)
                     | (rw [Bool.eq_iff_iff]; simp [inB, cmpB, *]; done)
                     | (cases hcc : x.cmp <;> (rw [Bool.eq_iff_iff]; simp [inB, cmpB, *]; done))
                     | (cases hcc : x.cmp <;> (rw [Bool.eq_iff_iff]; simp [inB, cmpB, *]; omega))
                     | (cases hcc : x.cmp <;> (rw [Bool.eq_iff_iff]; simp [inB, cmpB, hcc]; omega))
                     | (rw [Bool.eq_iff_iff]; simp [inB, cmpB, *]; omega))
            · have q7 : ¬ x.text.toList = [] := by intro e; apply ht; apply toList_inj.1; rw [e, Lib.toList_data]; rfl
              have q8 : x.text.toList.isEmpty = false := by rw [Bool.eq_false_iff]; simpa using q7
              have HT := Lib.hid (Bool.eq_false_iff.2 fun h => by
                obtain ⟨t1, t2, t3, t4, t5, t6, t7, t8, t9⟩ := formB_facts h
                exact ht (t6 (by omega)))
              clear ht hwd hg hn hpt k2
              repeat (go_big_quiet_step ((first | (go_at_call 32; exact later_same (HP _).out) | (go_at_call 71; exact later_same (HNm _).out))))
              refine wpQuiet_nil ?_
              intro _ hw'
              obtain ⟨z, rfl⟩ := hw'
              have hW := hb0.trans ((later_below z).mono hsz0)
              go_wp2
              go_ret
              exact ⟨ret_bool HT.out.symm, hW⟩
          · have q6 : (x.width == 0) = false := by rw [beq_eq_false_iff_ne]; omega
            have q6' : (x.width != 0) = true := by rw [bne_iff_ne]; omega
            have HT := Lib.hid (Bool.eq_false_iff.2 fun h => by
              obtain ⟨t1, t2, t3, t4, t5, t6, t7, t8, t9⟩ := formB_facts h
              exact hwd (t5 (by omega)))
            clear hwd hg hn hpt k2
            repeat (go_big_quiet_step ((first | (go_at_call 32; exact later_same (HP _).out) | (go_at_call 71; exact later_same (HNm _).out))))
            refine wpQuiet_nil ?_
            intro _ hw'
            obtain ⟨z, rfl⟩ := hw'
            have hW := hb0.trans ((later_below z).mono hsz0)
            go_wp2
            go_ret
            exact ⟨ret_bool HT.out.symm, hW⟩
      | false =>
        simp only [hn] at HNm
        have HT := Lib.hid (Bool.eq_false_iff.2 fun h => by
          obtain ⟨t1, t2, t3, t4, t5, t6, t7, t8, t9⟩ := formB_facts h
          rw [t2] at hn; cases hn)
        clear hn hpt k2
        repeat (go_big_quiet_step ((first | (go_at_call 32; exact later_same (HP _).out) | (go_at_call 71; exact later_same (HNm _).out))))
        refine wpQuiet_nil ?_
        intro _ hw'
        obtain ⟨z, rfl⟩ := hw'
        have hW := hb0.trans ((later_below z).mono hsz0)
        go_wp2
        go_ret
        exact ⟨ret_bool HT.out.symm, hW⟩
    · have q1 : (x.parts == partsN x.kind) = false := by rw [beq_eq_false_iff_ne]; omega
      have q1' : (x.parts != partsN x.kind) = true := by rw [bne_iff_ne]; omega
      have HT := Lib.hid (Bool.eq_false_iff.2 fun h => by
        obtain ⟨t1, t2, t3, t4, t5, t6, t7, t8, t9⟩ := formB_facts h
        exact hpt t1)
      clear hpt k2
      repeat (go_big_quiet_step ((first | (go_at_call 32; exact later_same (HP _).out) | (go_at_call 71; exact later_same (HNm _).out))))
      refine wpQuiet_nil ?_
      intro _ hw'
      obtain ⟨z, rfl⟩ := hw'
      have hW := hb0.trans ((later_below z).mono hsz0)
      go_wp2
      go_ret
      exact ⟨ret_bool HT.out.symm, hW⟩
  · by_cases k3 : x.kind = 3
    · have f1 : (x.kind == 1) = false := by rw [beq_eq_false_iff_ne]; omega
      have g1 : (x.kind != 1) = true := by rw [bne_iff_ne]; omega
      have f2 : (x.kind == 2) = false := by rw [beq_eq_false_iff_ne]; omega
      have g2 : (x.kind != 2) = true := by rw [bne_iff_ne]; omega
      have f3 : (x.kind == 3) = true := by rw [beq_iff_eq]; omega
      have g3 : (x.kind != 3) = false := by rw [bne_eq_false_iff_eq]; omega
      have f4 : (x.kind == 4) = false := by rw [beq_eq_false_iff_ne]; omega
      have g4 : (x.kind != 4) = true := by rw [bne_iff_ne]; omega
      have f5 : (x.kind == 5) = false := by rw [beq_eq_false_iff_ne]; omega
      have g5 : (x.kind != 5) = true := by rw [bne_iff_ne]; omega
      have f6 : (x.kind == 6) = false := by rw [beq_eq_false_iff_ne]; omega
      have g6 : (x.kind != 6) = true := by rw [bne_iff_ne]; omega
      have f7 : (x.kind == 7) = false := by rw [beq_eq_false_iff_ne]; omega
      have g7 : (x.kind != 7) = true := by rw [bne_iff_ne]; omega
      have HK3 := Lib.hid k3
      clear k3 k2
      go_enter Tryz.func33, Tryz.ntmps33
      go_wp2
      generalize hW : World.alloc _ _ = W0
      have hX : Blk W0 w.heap.size 41 (nodC x Am cm An cn) := by rw [← hW]; exact Blk.new w _ _
      have hb0 : Below w.heap.size w W0 := by rw [← hW]; exact hbA
      clear hW hbA
      have hsz0 := hb0.size
      have c0 := later_cell hX (j := 0) rfl
      have c1 := later_cell hX (j := 1) rfl
      have c2 := later_cell hX (j := 2) rfl
      have c3 := later_cell hX (j := 3) rfl
      have c4 := later_cell hX (j := 4) rfl
      have c5 := later_cell hX (j := 5) rfl
      have c6 := later_cell hX (j := 6) rfl
      have c7 := later_cell hX (j := 7) rfl
      have c8 := later_cell hX (j := 8) rfl
      have c9 := later_cell hX (j := 9) rfl
      have HNm := fun (z : Later W0) => Lib.hid (rnames_any x.names An x.names.length cn B (later W0 z) (later_rd (hr.below (hb0.mono hB)) (Nat.le_trans hB hsz0) z) rfl o2 o1)
      clear hX
      refine wp_region_later (by kernel_rfl) (by kernel_rfl) ?_
      simp only [List.append]
      have k3 := HK3.out
      by_cases hpt : x.parts = partsN x.kind
      · have q1 : (x.parts == partsN x.kind) = true := by rw [beq_iff_eq]; omega
        have q1' : (x.parts != partsN x.kind) = false := by rw [bne_eq_false_iff_eq]; omega
        cases hn : x.names.all nameB with
        | true =>
          simp only [hn] at HNm
          by_cases hg : x.grp = 0
          · have q3 : (x.grp == 0) = true := by rw [beq_iff_eq]; omega
            have q3' : (x.grp != 0) = false := by rw [bne_eq_false_iff_eq]; omega
            by_cases hnm : x.names = []
            · have q2 : ¬ 0 < x.names.length := by rw [hnm]; simp
              by_cases ht : x.text = ByteArray.empty
              · have q7 : x.text.toList = [] := by rw [ht, Lib.toList_data]; rfl
                have q8 : x.text.toList.isEmpty = true := by rw [q7]; rfl
                cases hcm : x.cmp with
                | true =>
                  have HT := Lib.hid (Bool.eq_false_iff.2 fun h => by
                    obtain ⟨t1, t2, t3, t4, t5, t6, t7, t8, t9⟩ := formB_facts h
                    rw [t7 (by omega)] at hcm; cases hcm)
                  clear ht hnm hg hn hpt k3
                  repeat (go_big_quiet_step ((first | (go_at_call 32; exact later_same (HP _).out) | (go_at_call 71; exact later_same (HNm _).out))))
                  refine wpQuiet_nil ?_
                  intro _ hw'
                  obtain ⟨z, rfl⟩ := hw'
                  have hW := hb0.trans ((later_below z).mono hsz0)
                  go_wp2
                  go_ret
                  exact ⟨ret_bool HT.out.symm, hW⟩
                | false =>
                  have Hk3 := Lib.hid k3
                  have Hhpt := Lib.hid hpt
                  have Hhn := Lib.hid hn
                  have Hhg := Lib.hid hg
                  have Hhnm := Lib.hid hnm
                  have Hht := Lib.hid ht
                  clear ht hnm hg hn hpt k3
                  repeat (go_big_quiet_step ((first | (go_at_call 32; exact later_same (HP _).out) | (go_at_call 71; exact later_same (HNm _).out))))
                  refine wpQuiet_nil ?_
                  intro _ hw'
                  obtain ⟨z, rfl⟩ := hw'
                  have hW := hb0.trans ((later_below z).mono hsz0)
                  go_wp2_with (first | (go_at_call 72; refine ((HNu _).out).mono ?_; rintro e w' ⟨rfl, rfl⟩) | (go_at_call 73; first | (with_reducible refine ((HS0 _).out).mono ?_; rintro e w' ⟨rfl, rfl⟩) | (with_reducible refine ((HS1 _).out).mono ?_; rintro e w' ⟨rfl, rfl⟩)))
                  clear HP HNu HS0 HS1 HNm c0 c1 c2 c3 c4 c5 c6 c7 c8 c9
                  all_goals
                    go_ret
                    refine ⟨ret_bool ?_, hW⟩
                    have tt1 := Hhpt.out
                    have hgg := Hhg.out
                    simp only [beq_iff_eq, beq_eq_false_iff_ne, bne_iff_ne, bne_eq_false_iff_eq, ne_eq] at *
                    first
                    | exact (Bool.eq_false_iff.2 fun h => by
                        obtain ⟨_, _, _, _, _, _, _, t8, t9⟩ := formB_facts h
                        omega).symm
                    | (have kz : x.kind = 7 := by omega
                       by_cases hz : x.op = 0
                       · have e1 : formB x = kindOk x := by
                           refine formB_intro tt1 Hhn.out (fun _ => Hhnm.out) (fun _ a => absurd Hk3.out a) (fun a => absurd Hk3.out a) (fun _ => Hht.out) (fun _ => hcm) ?_ (fun _ => hz)
                           intro _ _; omega
                         have pz : x.parts = 1 := by rw [tt1, kz]; rfl
                         rw [e1, kindOk_7 kz, pz, hz]; rfl
                       · have e1 : formB x = false := Bool.eq_false_iff.2 fun h => by
                           obtain ⟨_, _, _, _, _, _, _, _, t9⟩ := formB_facts h
                           exact hz (t9 (by omega))
                         rw [e1, Bool.eq_iff_iff]; simp [hz])
                    | (have e1 : formB x = kindOk x := by
                         refine formB_intro tt1 Hhn.out (fun _ => Hhnm.out) (fun _ a => absurd Hk3.out a) (fun a => absurd Hk3.out a) (fun _ => Hht.out) (fun _ => hcm) ?_ ?_
                         · intro _ _; omega
                         · intro _; omega
                       rw [e1]
                       clear e1
                       have z4 : partsN 4 = 1 := rfl
                       have z5 : partsN 5 = 1 := rfl
                       have z6 : partsN 6 = 2 := rfl
                       have z7 : partsN 7 = 1 := rfl
                       first
                       | (have kz : x.kind = 1 := by omega
                          have pz : x.parts = 0 := by rw [tt1, kz]; rfl
                          rw [kindOk_1 kz])
                       | (have kz : x.kind = 2 := by omega
                          have pz : x.parts = 0 := by rw [tt1, kz]; rfl
                          rw [kindOk_2 kz])
                       | (have kz : x.kind = 3 := by omega
                          have pz : x.parts = 0 := by rw [tt1, kz]; rfl
                          rw [kindOk_3 kz])
                       | (have kz : x.kind = 4 := by omega
                          have pz : x.parts = 1 := by rw [tt1, kz]; rfl
                          rw [kindOk_4 kz])
                       | (have kz : x.kind = 5 := by omega
                          have pz : x.parts = 1 := by rw [tt1, kz]; rfl
                          rw [kindOk_5 kz])
                       | (have kz : x.kind = 6 := by omega
                          have pz : x.parts = 2 := by rw [tt1, kz]; rfl
                          rw [kindOk_6 kz])
                       | (have kz : x.kind = 7 := by omega
                          have pz : x.parts = 1 := by rw [tt1, kz]; rfl
                          rw [kindOk_7 kz])
                       all_goals first
                       | rfl
                       | (simp [*]; done)
                       | (rw [Bool.eq_iff_iff]; simp [inB, cmpB, *]; done)
                       | (cases hcc : x.cmp <;> (rw [Bool.eq_iff_iff]; simp [inB, cmpB, *]; done))
                       | (cases hcc : x.cmp <;> (rw [Bool.eq_iff_iff]; simp [inB, cmpB, *]; omega))
                       | (cases hcc : x.cmp <;> (rw [Bool.eq_iff_iff]; simp [inB, cmpB, hcc]; omega))
                       | (rw [Bool.eq_iff_iff]; simp [inB, cmpB, *]; omega))
              · have q7 : ¬ x.text.toList = [] := by intro e; apply ht; apply toList_inj.1; rw [e, Lib.toList_data]; rfl
                have q8 : x.text.toList.isEmpty = false := by rw [Bool.eq_false_iff]; simpa using q7
                have HT := Lib.hid (Bool.eq_false_iff.2 fun h => by
                  obtain ⟨t1, t2, t3, t4, t5, t6, t7, t8, t9⟩ := formB_facts h
                  exact ht (t6 (by omega)))
                clear ht hnm hg hn hpt k3
                repeat (go_big_quiet_step ((first | (go_at_call 32; exact later_same (HP _).out) | (go_at_call 71; exact later_same (HNm _).out))))
                refine wpQuiet_nil ?_
                intro _ hw'
                obtain ⟨z, rfl⟩ := hw'
                have hW := hb0.trans ((later_below z).mono hsz0)
                go_wp2
                go_ret
                exact ⟨ret_bool HT.out.symm, hW⟩
            · have q2 : 0 < x.names.length := List.length_pos_iff.2 hnm
              have HT := Lib.hid (Bool.eq_false_iff.2 fun h => by
                obtain ⟨t1, t2, t3, t4, t5, t6, t7, t8, t9⟩ := formB_facts h
                exact hnm (t3 hg))
              clear hnm hg hn hpt k3
              repeat (go_big_quiet_step ((first | (go_at_call 32; exact later_same (HP _).out) | (go_at_call 71; exact later_same (HNm _).out))))
              refine wpQuiet_nil ?_
              intro _ hw'
              obtain ⟨z, rfl⟩ := hw'
              have hW := hb0.trans ((later_below z).mono hsz0)
              go_wp2
              go_ret
              exact ⟨ret_bool HT.out.symm, hW⟩
          · have q3 : (x.grp == 0) = false := by rw [beq_eq_false_iff_ne]; omega
            have q3' : (x.grp != 0) = true := by rw [bne_iff_ne]; omega
            by_cases ht : x.text = ByteArray.empty
            · have q7 : x.text.toList = [] := by rw [ht, Lib.toList_data]; rfl
              have q8 : x.text.toList.isEmpty = true := by rw [q7]; rfl
              cases hcm : x.cmp with
              | true =>
                have HT := Lib.hid (Bool.eq_false_iff.2 fun h => by
                  obtain ⟨t1, t2, t3, t4, t5, t6, t7, t8, t9⟩ := formB_facts h
                  rw [t7 (by omega)] at hcm; cases hcm)
                clear ht hg hn hpt k3
                repeat (go_big_quiet_step ((first | (go_at_call 32; exact later_same (HP _).out) | (go_at_call 71; exact later_same (HNm _).out))))
                refine wpQuiet_nil ?_
                intro _ hw'
                obtain ⟨z, rfl⟩ := hw'
                have hW := hb0.trans ((later_below z).mono hsz0)
                go_wp2
                go_ret
                exact ⟨ret_bool HT.out.symm, hW⟩
              | false =>
                have Hk3 := Lib.hid k3
                have Hhpt := Lib.hid hpt
                have Hhn := Lib.hid hn
                have Hhg := Lib.hid hg
                have Hht := Lib.hid ht
                clear ht hg hn hpt k3
                repeat (go_big_quiet_step ((first | (go_at_call 32; exact later_same (HP _).out) | (go_at_call 71; exact later_same (HNm _).out))))
                refine wpQuiet_nil ?_
                intro _ hw'
                obtain ⟨z, rfl⟩ := hw'
                have hW := hb0.trans ((later_below z).mono hsz0)
                go_wp2_with (first | (go_at_call 72; refine ((HNu _).out).mono ?_; rintro e w' ⟨rfl, rfl⟩) | (go_at_call 73; first | (with_reducible refine ((HS0 _).out).mono ?_; rintro e w' ⟨rfl, rfl⟩) | (with_reducible refine ((HS1 _).out).mono ?_; rintro e w' ⟨rfl, rfl⟩)))
                clear HP HNu HS0 HS1 HNm c0 c1 c2 c3 c4 c5 c6 c7 c8 c9
                all_goals
                  go_ret
                  refine ⟨ret_bool ?_, hW⟩
                  have tt1 := Hhpt.out
                  have hgg := Hhg.out
                  simp only [beq_iff_eq, beq_eq_false_iff_ne, bne_iff_ne, bne_eq_false_iff_eq, ne_eq] at *
                  first
                  | exact (Bool.eq_false_iff.2 fun h => by
                      obtain ⟨_, _, _, _, _, _, _, t8, t9⟩ := formB_facts h
                      omega).symm
                  | (have kz : x.kind = 7 := by omega
                     by_cases hz : x.op = 0
                     · have e1 : formB x = kindOk x := by
                         refine formB_intro tt1 Hhn.out (fun g => absurd g Hhg.out) (fun _ a => absurd Hk3.out a) (fun a => absurd Hk3.out a) (fun _ => Hht.out) (fun _ => hcm) ?_ (fun _ => hz)
                         intro _ _; omega
                       have pz : x.parts = 1 := by rw [tt1, kz]; rfl
                       rw [e1, kindOk_7 kz, pz, hz]; rfl
                     · have e1 : formB x = false := Bool.eq_false_iff.2 fun h => by
                         obtain ⟨_, _, _, _, _, _, _, _, t9⟩ := formB_facts h
                         exact hz (t9 (by omega))
                       rw [e1, Bool.eq_iff_iff]; simp [hz])
                  | (have e1 : formB x = kindOk x := by
                       refine formB_intro tt1 Hhn.out (fun g => absurd g Hhg.out) (fun _ a => absurd Hk3.out a) (fun a => absurd Hk3.out a) (fun _ => Hht.out) (fun _ => hcm) ?_ ?_
                       · intro _ _; omega
                       · intro _; omega
                     rw [e1]
                     clear e1
                     have z4 : partsN 4 = 1 := rfl
                     have z5 : partsN 5 = 1 := rfl
                     have z6 : partsN 6 = 2 := rfl
                     have z7 : partsN 7 = 1 := rfl
                     first
                     | (have kz : x.kind = 1 := by omega
                        have pz : x.parts = 0 := by rw [tt1, kz]; rfl
                        rw [kindOk_1 kz])
                     | (have kz : x.kind = 2 := by omega
                        have pz : x.parts = 0 := by rw [tt1, kz]; rfl
                        rw [kindOk_2 kz])
                     | (have kz : x.kind = 3 := by omega
                        have pz : x.parts = 0 := by rw [tt1, kz]; rfl
                        rw [kindOk_3 kz])
                     | (have kz : x.kind = 4 := by omega
                        have pz : x.parts = 1 := by rw [tt1, kz]; rfl
                        rw [kindOk_4 kz])
                     | (have kz : x.kind = 5 := by omega
                        have pz : x.parts = 1 := by rw [tt1, kz]; rfl
                        rw [kindOk_5 kz])
                     | (have kz : x.kind = 6 := by omega
                        have pz : x.parts = 2 := by rw [tt1, kz]; rfl
                        rw [kindOk_6 kz])
                     | (have kz : x.kind = 7 := by omega
                        have pz : x.parts = 1 := by rw [tt1, kz]; rfl
                        rw [kindOk_7 kz])
                     all_goals first
                     | rfl
                     | (simp [*]; done)
                     | (rw [Bool.eq_iff_iff]; simp [inB, cmpB, *]; done)
                     | (cases hcc : x.cmp <;> (rw [Bool.eq_iff_iff]; simp [inB, cmpB, *]; done))
                     | (cases hcc : x.cmp <;> (rw [Bool.eq_iff_iff]; simp [inB, cmpB, *]; omega))
                     | (cases hcc : x.cmp <;> (rw [Bool.eq_iff_iff]; simp [inB, cmpB, hcc]; omega))
                     | (rw [Bool.eq_iff_iff]; simp [inB, cmpB, *]; omega))
            · have q7 : ¬ x.text.toList = [] := by intro e; apply ht; apply toList_inj.1; rw [e, Lib.toList_data]; rfl
              have q8 : x.text.toList.isEmpty = false := by rw [Bool.eq_false_iff]; simpa using q7
              have HT := Lib.hid (Bool.eq_false_iff.2 fun h => by
                obtain ⟨t1, t2, t3, t4, t5, t6, t7, t8, t9⟩ := formB_facts h
                exact ht (t6 (by omega)))
              clear ht hg hn hpt k3
              repeat (go_big_quiet_step ((first | (go_at_call 32; exact later_same (HP _).out) | (go_at_call 71; exact later_same (HNm _).out))))
              refine wpQuiet_nil ?_
              intro _ hw'
              obtain ⟨z, rfl⟩ := hw'
              have hW := hb0.trans ((later_below z).mono hsz0)
              go_wp2
              go_ret
              exact ⟨ret_bool HT.out.symm, hW⟩
        | false =>
          simp only [hn] at HNm
          have HT := Lib.hid (Bool.eq_false_iff.2 fun h => by
            obtain ⟨t1, t2, t3, t4, t5, t6, t7, t8, t9⟩ := formB_facts h
            rw [t2] at hn; cases hn)
          clear hn hpt k3
          repeat (go_big_quiet_step ((first | (go_at_call 32; exact later_same (HP _).out) | (go_at_call 71; exact later_same (HNm _).out))))
          refine wpQuiet_nil ?_
          intro _ hw'
          obtain ⟨z, rfl⟩ := hw'
          have hW := hb0.trans ((later_below z).mono hsz0)
          go_wp2
          go_ret
          exact ⟨ret_bool HT.out.symm, hW⟩
      · have q1 : (x.parts == partsN x.kind) = false := by rw [beq_eq_false_iff_ne]; omega
        have q1' : (x.parts != partsN x.kind) = true := by rw [bne_iff_ne]; omega
        have HT := Lib.hid (Bool.eq_false_iff.2 fun h => by
          obtain ⟨t1, t2, t3, t4, t5, t6, t7, t8, t9⟩ := formB_facts h
          exact hpt t1)
        clear hpt k3
        repeat (go_big_quiet_step ((first | (go_at_call 32; exact later_same (HP _).out) | (go_at_call 71; exact later_same (HNm _).out))))
        refine wpQuiet_nil ?_
        intro _ hw'
        obtain ⟨z, rfl⟩ := hw'
        have hW := hb0.trans ((later_below z).mono hsz0)
        go_wp2
        go_ret
        exact ⟨ret_bool HT.out.symm, hW⟩
    · have f2 : (x.kind == 2) = false := by rw [beq_eq_false_iff_ne]; omega
      have g2 : (x.kind != 2) = true := by rw [bne_iff_ne]; omega
      have f3 : (x.kind == 3) = false := by rw [beq_eq_false_iff_ne]; omega
      have g3 : (x.kind != 3) = true := by rw [bne_iff_ne]; omega
      go_enter Tryz.func33, Tryz.ntmps33
      go_wp2
      generalize hW : World.alloc _ _ = W0
      have hX : Blk W0 w.heap.size 41 (nodC x Am cm An cn) := by rw [← hW]; exact Blk.new w _ _
      have hb0 : Below w.heap.size w W0 := by rw [← hW]; exact hbA
      clear hW hbA
      have hsz0 := hb0.size
      have c0 := later_cell hX (j := 0) rfl
      have c1 := later_cell hX (j := 1) rfl
      have c2 := later_cell hX (j := 2) rfl
      have c3 := later_cell hX (j := 3) rfl
      have c4 := later_cell hX (j := 4) rfl
      have c5 := later_cell hX (j := 5) rfl
      have c6 := later_cell hX (j := 6) rfl
      have c7 := later_cell hX (j := 7) rfl
      have c8 := later_cell hX (j := 8) rfl
      have c9 := later_cell hX (j := 9) rfl
      have HNm := fun (z : Later W0) => Lib.hid (rnames_any x.names An x.names.length cn B (later W0 z) (later_rd (hr.below (hb0.mono hB)) (Nat.le_trans hB hsz0) z) rfl o2 o1)
      clear hX
      refine wp_region_later (by kernel_rfl) (by kernel_rfl) ?_
      simp only [List.append]
      by_cases hpt : x.parts = partsN x.kind
      · have q1 : (x.parts == partsN x.kind) = true := by rw [beq_iff_eq]; omega
        have q1' : (x.parts != partsN x.kind) = false := by rw [bne_eq_false_iff_eq]; omega
        cases hn : x.names.all nameB with
        | true =>
          simp only [hn] at HNm
          by_cases hg : x.grp = 0
          · have q3 : (x.grp == 0) = true := by rw [beq_iff_eq]; omega
            have q3' : (x.grp != 0) = false := by rw [bne_eq_false_iff_eq]; omega
            by_cases hnm : x.names = []
            · have q2 : ¬ 0 < x.names.length := by rw [hnm]; simp
              by_cases hmt : x.mat = []
              · have q4 : ¬ 0 < x.mat.length := by rw [hmt]; simp
                by_cases hbk : x.back = 0
                · have q5 : (x.back == 0) = true := by rw [beq_iff_eq]; omega
                  have q5' : (x.back != 0) = false := by rw [bne_eq_false_iff_eq]; omega
                  by_cases hwd : x.width = 0
                  · have q6 : (x.width == 0) = true := by rw [beq_iff_eq]; omega
                    have q6' : (x.width != 0) = false := by rw [bne_eq_false_iff_eq]; omega
                    by_cases k1 : x.kind = 1
                    · have f1 : (x.kind == 1) = true := by rw [beq_iff_eq]; omega
                      have g1 : (x.kind != 1) = false := by rw [bne_eq_false_iff_eq]; omega
                      have f2 : (x.kind == 2) = false := by rw [beq_eq_false_iff_ne]; omega
                      have g2 : (x.kind != 2) = true := by rw [bne_iff_ne]; omega
                      have f3 : (x.kind == 3) = false := by rw [beq_eq_false_iff_ne]; omega
                      have g3 : (x.kind != 3) = true := by rw [bne_iff_ne]; omega
                      have f4 : (x.kind == 4) = false := by rw [beq_eq_false_iff_ne]; omega
                      have g4 : (x.kind != 4) = true := by rw [bne_iff_ne]; omega
                      have f5 : (x.kind == 5) = false := by rw [beq_eq_false_iff_ne]; omega
                      have g5 : (x.kind != 5) = true := by rw [bne_iff_ne]; omega
                      have f6 : (x.kind == 6) = false := by rw [beq_eq_false_iff_ne]; omega
                      have g6 : (x.kind != 6) = true := by rw [bne_iff_ne]; omega
                      have f7 : (x.kind == 7) = false := by rw [beq_eq_false_iff_ne]; omega
                      have g7 : (x.kind != 7) = true := by rw [bne_iff_ne]; omega
                      cases hcm : x.cmp with
                      | true =>
                        have HT := Lib.hid (Bool.eq_false_iff.2 fun h => by
                          obtain ⟨t1, t2, t3, t4, t5, t6, t7, t8, t9⟩ := formB_facts h
                          rw [t7 (by omega)] at hcm; cases hcm)
                        clear k1 hwd hbk hmt hnm hg hn hpt k3 k2
                        repeat (go_big_quiet_step ((first | (go_at_call 32; exact later_same (HP _).out) | (go_at_call 71; exact later_same (HNm _).out))))
                        refine wpQuiet_nil ?_
                        intro _ hw'
                        obtain ⟨z, rfl⟩ := hw'
                        have hW := hb0.trans ((later_below z).mono hsz0)
                        go_wp2
                        go_ret
                        exact ⟨ret_bool HT.out.symm, hW⟩
                      | false =>
                        have Hk2 := Lib.hid k2
                        have Hk3 := Lib.hid k3
                        have Hhpt := Lib.hid hpt
                        have Hhn := Lib.hid hn
                        have Hhg := Lib.hid hg
                        have Hhnm := Lib.hid hnm
                        have Hhmt := Lib.hid hmt
                        have Hhbk := Lib.hid hbk
                        have Hhwd := Lib.hid hwd
                        have Hk1 := Lib.hid k1
                        clear k1 hwd hbk hmt hnm hg hn hpt k3 k2
                        repeat (go_big_quiet_step ((first | (go_at_call 32; exact later_same (HP _).out) | (go_at_call 71; exact later_same (HNm _).out))))
                        refine wpQuiet_nil ?_
                        intro _ hw'
                        obtain ⟨z, rfl⟩ := hw'
                        have hW := hb0.trans ((later_below z).mono hsz0)
                        go_wp2_with (first | (go_at_call 72; refine ((HNu _).out).mono ?_; rintro e w' ⟨rfl, rfl⟩) | (go_at_call 73; first | (with_reducible refine ((HS0 _).out).mono ?_; rintro e w' ⟨rfl, rfl⟩) | (with_reducible refine ((HS1 _).out).mono ?_; rintro e w' ⟨rfl, rfl⟩)))
                        clear HP HNu HS0 HS1 HNm c0 c1 c2 c3 c4 c5 c6 c7 c8 c9
                        all_goals
                          go_ret
                          refine ⟨ret_bool ?_, hW⟩
                          have tt1 := Hhpt.out
                          have hgg := Hhg.out
                          simp only [beq_iff_eq, beq_eq_false_iff_ne, bne_iff_ne, bne_eq_false_iff_eq, ne_eq] at *
                          first
                          | exact (Bool.eq_false_iff.2 fun h => by
                              obtain ⟨_, _, _, _, _, _, _, t8, t9⟩ := formB_facts h
                              omega).symm
                          | (have kz : x.kind = 7 := by omega
                             by_cases hz : x.op = 0
                             · have e1 : formB x = kindOk x := by
                                 refine formB_intro tt1 Hhn.out (fun _ => Hhnm.out) (fun _ _ => ⟨Hhmt.out, Hhbk.out⟩) (fun _ => Hhwd.out) (fun a => absurd Hk1.out a) (fun _ => hcm) ?_ (fun _ => hz)
                                 intro _ _; omega
                               have pz : x.parts = 1 := by rw [tt1, kz]; rfl
                               rw [e1, kindOk_7 kz, pz, hz]; rfl
                             · have e1 : formB x = false := Bool.eq_false_iff.2 fun h => by
                                 obtain ⟨_, _, _, _, _, _, _, _, t9⟩ := formB_facts h
                                 exact hz (t9 (by omega))
                               rw [e1, Bool.eq_iff_iff]; simp [hz])
                          | (have e1 : formB x = kindOk x := by
                               refine formB_intro tt1 Hhn.out (fun _ => Hhnm.out) (fun _ _ => ⟨Hhmt.out, Hhbk.out⟩) (fun _ => Hhwd.out) (fun a => absurd Hk1.out a) (fun _ => hcm) ?_ ?_
                               · intro _ _; omega
                               · intro _; omega
                             rw [e1]
                             clear e1
                             have z4 : partsN 4 = 1 := rfl
                             have z5 : partsN 5 = 1 := rfl
                             have z6 : partsN 6 = 2 := rfl
                             have z7 : partsN 7 = 1 := rfl
                             first
                             | (have kz : x.kind = 1 := by omega
                                have pz : x.parts = 0 := by rw [tt1, kz]; rfl
                                rw [kindOk_1 kz])
                             | (have kz : x.kind = 2 := by omega
                                have pz : x.parts = 0 := by rw [tt1, kz]; rfl
                                rw [kindOk_2 kz])
                             | (have kz : x.kind = 3 := by omega
                                have pz : x.parts = 0 := by rw [tt1, kz]; rfl
                                rw [kindOk_3 kz])
                             | (have kz : x.kind = 4 := by omega
                                have pz : x.parts = 1 := by rw [tt1, kz]; rfl
                                rw [kindOk_4 kz])
                             | (have kz : x.kind = 5 := by omega
                                have pz : x.parts = 1 := by rw [tt1, kz]; rfl
                                rw [kindOk_5 kz])
                             | (have kz : x.kind = 6 := by omega
                                have pz : x.parts = 2 := by rw [tt1, kz]; rfl
                                rw [kindOk_6 kz])
                             | (have kz : x.kind = 7 := by omega
                                have pz : x.parts = 1 := by rw [tt1, kz]; rfl
                                rw [kindOk_7 kz])
                             all_goals first
                             | rfl
                             | (simp [*]; done)
                             | (rw [Bool.eq_iff_iff]; simp [inB, cmpB, *]; done)
                             | (cases hcc : x.cmp <;> (rw [Bool.eq_iff_iff]; simp [inB, cmpB, *]; done))
                             | (cases hcc : x.cmp <;> (rw [Bool.eq_iff_iff]; simp [inB, cmpB, *]; omega))
                             | (cases hcc : x.cmp <;> (rw [Bool.eq_iff_iff]; simp [inB, cmpB, hcc]; omega))
                             | (rw [Bool.eq_iff_iff]; simp [inB, cmpB, *]; omega))
                    · have f1 : (x.kind == 1) = false := by rw [beq_eq_false_iff_ne]; omega
                      have g1 : (x.kind != 1) = true := by rw [bne_iff_ne]; omega
                      by_cases ht : x.text = ByteArray.empty
                      · have q7 : x.text.toList = [] := by rw [ht, Lib.toList_data]; rfl
                        have q8 : x.text.toList.isEmpty = true := by rw [q7]; rfl
                        by_cases k6 : x.kind = 6
                        · have f1 : (x.kind == 1) = false := by rw [beq_eq_false_iff_ne]; omega
                          have g1 : (x.kind != 1) = true := by rw [bne_iff_ne]; omega
                          have f2 : (x.kind == 2) = false := by rw [beq_eq_false_iff_ne]; omega
                          have g2 : (x.kind != 2) = true := by rw [bne_iff_ne]; omega
                          have f3 : (x.kind == 3) = false := by rw [beq_eq_false_iff_ne]; omega
                          have g3 : (x.kind != 3) = true := by rw [bne_iff_ne]; omega
                          have f4 : (x.kind == 4) = false := by rw [beq_eq_false_iff_ne]; omega
                          have g4 : (x.kind != 4) = true := by rw [bne_iff_ne]; omega
                          have f5 : (x.kind == 5) = false := by rw [beq_eq_false_iff_ne]; omega
                          have g5 : (x.kind != 5) = true := by rw [bne_iff_ne]; omega
                          have f6 : (x.kind == 6) = true := by rw [beq_iff_eq]; omega
                          have g6 : (x.kind != 6) = false := by rw [bne_eq_false_iff_eq]; omega
                          have f7 : (x.kind == 7) = false := by rw [beq_eq_false_iff_ne]; omega
                          have g7 : (x.kind != 7) = true := by rw [bne_iff_ne]; omega
                          have Hk2 := Lib.hid k2
                          have Hk3 := Lib.hid k3
                          have Hhpt := Lib.hid hpt
                          have Hhn := Lib.hid hn
                          have Hhg := Lib.hid hg
                          have Hhnm := Lib.hid hnm
                          have Hhmt := Lib.hid hmt
                          have Hhbk := Lib.hid hbk
                          have Hhwd := Lib.hid hwd
                          have Hk1 := Lib.hid k1
                          have Hht := Lib.hid ht
                          have Hk6 := Lib.hid k6
                          clear k6 ht k1 hwd hbk hmt hnm hg hn hpt k3 k2
                          repeat (go_big_quiet_step ((first | (go_at_call 32; exact later_same (HP _).out) | (go_at_call 71; exact later_same (HNm _).out))))
                          refine wpQuiet_nil ?_
                          intro _ hw'
                          obtain ⟨z, rfl⟩ := hw'
                          have hW := hb0.trans ((later_below z).mono hsz0)
                          go_wp2_with (first | (go_at_call 72; refine ((HNu _).out).mono ?_; rintro e w' ⟨rfl, rfl⟩) | (go_at_call 73; first | (with_reducible refine ((HS0 _).out).mono ?_; rintro e w' ⟨rfl, rfl⟩) | (with_reducible refine ((HS1 _).out).mono ?_; rintro e w' ⟨rfl, rfl⟩)))
                          clear HP HNu HS0 HS1 HNm c0 c1 c2 c3 c4 c5 c6 c7 c8 c9
                          all_goals
                            go_ret
                            refine ⟨ret_bool ?_, hW⟩
                            have tt1 := Hhpt.out
                            have hgg := Hhg.out
                            simp only [beq_iff_eq, beq_eq_false_iff_ne, bne_iff_ne, bne_eq_false_iff_eq, ne_eq] at *
                            first
                            | exact (Bool.eq_false_iff.2 fun h => by
                                obtain ⟨_, _, _, _, _, _, _, t8, t9⟩ := formB_facts h
                                omega).symm
                            | (have kz : x.kind = 7 := by omega
                               by_cases hz : x.op = 0
                               · have e1 : formB x = kindOk x := by
                                   refine formB_intro tt1 Hhn.out (fun _ => Hhnm.out) (fun _ _ => ⟨Hhmt.out, Hhbk.out⟩) (fun _ => Hhwd.out) (fun _ => Hht.out) (fun a => absurd Hk6.out a) ?_ (fun _ => hz)
                                   intro _ _; omega
                                 have pz : x.parts = 1 := by rw [tt1, kz]; rfl
                                 rw [e1, kindOk_7 kz, pz, hz]; rfl
                               · have e1 : formB x = false := Bool.eq_false_iff.2 fun h => by
                                   obtain ⟨_, _, _, _, _, _, _, _, t9⟩ := formB_facts h
                                   exact hz (t9 (by omega))
                                 rw [e1, Bool.eq_iff_iff]; simp [hz])
                            | (have e1 : formB x = kindOk x := by
                                 refine formB_intro tt1 Hhn.out (fun _ => Hhnm.out) (fun _ _ => ⟨Hhmt.out, Hhbk.out⟩) (fun _ => Hhwd.out) (fun _ => Hht.out) (fun a => absurd Hk6.out a) ?_ ?_
                                 · intro _ _; omega
                                 · intro _; omega
                               rw [e1]
                               clear e1
                               have z4 : partsN 4 = 1 := rfl
                               have z5 : partsN 5 = 1 := rfl
                               have z6 : partsN 6 = 2 := rfl
                               have z7 : partsN 7 = 1 := rfl
                               first
                               | (have kz : x.kind = 1 := by omega
                                  have pz : x.parts = 0 := by rw [tt1, kz]; rfl
                                  rw [kindOk_1 kz])
                               | (have kz : x.kind = 2 := by omega
                                  have pz : x.parts = 0 := by rw [tt1, kz]; rfl
                                  rw [kindOk_2 kz])
                               | (have kz : x.kind = 3 := by omega
                                  have pz : x.parts = 0 := by rw [tt1, kz]; rfl
                                  rw [kindOk_3 kz])
                               | (have kz : x.kind = 4 := by omega
                                  have pz : x.parts = 1 := by rw [tt1, kz]; rfl
                                  rw [kindOk_4 kz])
                               | (have kz : x.kind = 5 := by omega
                                  have pz : x.parts = 1 := by rw [tt1, kz]; rfl
                                  rw [kindOk_5 kz])
                               | (have kz : x.kind = 6 := by omega
                                  have pz : x.parts = 2 := by rw [tt1, kz]; rfl
                                  rw [kindOk_6 kz])
                               | (have kz : x.kind = 7 := by omega
                                  have pz : x.parts = 1 := by rw [tt1, kz]; rfl
                                  rw [kindOk_7 kz])
                               all_goals first
                               | rfl
                               | (simp [*]; done)
                               | (rw [Bool.eq_iff_iff]; simp [inB, cmpB, *]; done)
                               | (cases hcc : x.cmp <;> (rw [Bool.eq_iff_iff]; simp [inB, cmpB, *]; done))
                               | (cases hcc : x.cmp <;> (rw [Bool.eq_iff_iff]; simp [inB, cmpB, *]; omega))
                               | (cases hcc : x.cmp <;> (rw [Bool.eq_iff_iff]; simp [inB, cmpB]; omega))
                               | (rw [Bool.eq_iff_iff]; simp [inB, cmpB, *]; omega))
                        · have f6 : (x.kind == 6) = false := by rw [beq_eq_false_iff_ne]; omega
                          have g6 : (x.kind != 6) = true := by rw [bne_iff_ne]; omega
                          cases hcm : x.cmp with
                          | true =>
                            have HT := Lib.hid (Bool.eq_false_iff.2 fun h => by
                              obtain ⟨t1, t2, t3, t4, t5, t6, t7, t8, t9⟩ := formB_facts h
                              rw [t7 (by omega)] at hcm; cases hcm)
                            clear k6 ht k1 hwd hbk hmt hnm hg hn hpt k3 k2
                            repeat (go_big_quiet_step ((first | (go_at_call 32; exact later_same (HP _).out) | (go_at_call 71; exact later_same (HNm _).out))))
                            refine wpQuiet_nil ?_
                            intro _ hw'
                            obtain ⟨z, rfl⟩ := hw'
                            have hW := hb0.trans ((later_below z).mono hsz0)
                            go_wp2
                            go_ret
                            exact ⟨ret_bool HT.out.symm, hW⟩
                          | false =>
                            have Hk2 := Lib.hid k2
                            have Hk3 := Lib.hid k3
                            have Hhpt := Lib.hid hpt
                            have Hhn := Lib.hid hn
                            have Hhg := Lib.hid hg
                            have Hhnm := Lib.hid hnm
                            have Hhmt := Lib.hid hmt
                            have Hhbk := Lib.hid hbk
                            have Hhwd := Lib.hid hwd
                            have Hk1 := Lib.hid k1
                            have Hht := Lib.hid ht
                            have Hk6 := Lib.hid k6
                            clear k6 ht k1 hwd hbk hmt hnm hg hn hpt k3 k2
                            repeat (go_big_quiet_step ((first | (go_at_call 32; exact later_same (HP _).out) | (go_at_call 71; exact later_same (HNm _).out))))
                            refine wpQuiet_nil ?_
                            intro _ hw'
                            obtain ⟨z, rfl⟩ := hw'
                            have hW := hb0.trans ((later_below z).mono hsz0)
                            go_wp2_with (first | (go_at_call 72; refine ((HNu _).out).mono ?_; rintro e w' ⟨rfl, rfl⟩) | (go_at_call 73; first | (with_reducible refine ((HS0 _).out).mono ?_; rintro e w' ⟨rfl, rfl⟩) | (with_reducible refine ((HS1 _).out).mono ?_; rintro e w' ⟨rfl, rfl⟩)))
                            clear HP HNu HS0 HS1 HNm c0 c1 c2 c3 c4 c5 c6 c7 c8 c9
                            all_goals
                              go_ret
                              refine ⟨ret_bool ?_, hW⟩
                              have tt1 := Hhpt.out
                              have hgg := Hhg.out
                              simp only [beq_iff_eq, beq_eq_false_iff_ne, bne_iff_ne, bne_eq_false_iff_eq, ne_eq] at *
                              first
                              | exact (Bool.eq_false_iff.2 fun h => by
                                  obtain ⟨_, _, _, _, _, _, _, t8, t9⟩ := formB_facts h
                                  omega).symm
                              | (have kz : x.kind = 7 := by omega
                                 by_cases hz : x.op = 0
                                 · have e1 : formB x = kindOk x := by
                                     refine formB_intro tt1 Hhn.out (fun _ => Hhnm.out) (fun _ _ => ⟨Hhmt.out, Hhbk.out⟩) (fun _ => Hhwd.out) (fun _ => Hht.out) (fun _ => hcm) ?_ (fun _ => hz)
                                     intro _ _; omega
                                   have pz : x.parts = 1 := by rw [tt1, kz]; rfl
                                   rw [e1, kindOk_7 kz, pz, hz]; rfl
                                 · have e1 : formB x = false := Bool.eq_false_iff.2 fun h => by
                                     obtain ⟨_, _, _, _, _, _, _, _, t9⟩ := formB_facts h
                                     exact hz (t9 (by omega))
                                   rw [e1, Bool.eq_iff_iff]; simp [hz])
                              | (have e1 : formB x = kindOk x := by
                                   refine formB_intro tt1 Hhn.out (fun _ => Hhnm.out) (fun _ _ => ⟨Hhmt.out, Hhbk.out⟩) (fun _ => Hhwd.out) (fun _ => Hht.out) (fun _ => hcm) ?_ ?_
                                   · intro _ _; omega
                                   · intro _; omega
                                 rw [e1]
                                 clear e1
                                 have z4 : partsN 4 = 1 := rfl
                                 have z5 : partsN 5 = 1 := rfl
                                 have z6 : partsN 6 = 2 := rfl
                                 have z7 : partsN 7 = 1 := rfl
                                 first
                                 | (have kz : x.kind = 1 := by omega
                                    have pz : x.parts = 0 := by rw [tt1, kz]; rfl
                                    rw [kindOk_1 kz])
                                 | (have kz : x.kind = 2 := by omega
                                    have pz : x.parts = 0 := by rw [tt1, kz]; rfl
                                    rw [kindOk_2 kz])
                                 | (have kz : x.kind = 3 := by omega
                                    have pz : x.parts = 0 := by rw [tt1, kz]; rfl
                                    rw [kindOk_3 kz])
                                 | (have kz : x.kind = 4 := by omega
                                    have pz : x.parts = 1 := by rw [tt1, kz]; rfl
                                    rw [kindOk_4 kz])
                                 | (have kz : x.kind = 5 := by omega
                                    have pz : x.parts = 1 := by rw [tt1, kz]; rfl
                                    rw [kindOk_5 kz])
                                 | (have kz : x.kind = 6 := by omega
                                    have pz : x.parts = 2 := by rw [tt1, kz]; rfl
                                    rw [kindOk_6 kz])
                                 | (have kz : x.kind = 7 := by omega
                                    have pz : x.parts = 1 := by rw [tt1, kz]; rfl
                                    rw [kindOk_7 kz])
                                 all_goals first
                                 | rfl
                                 | (simp [*]; done)
                                 | (rw [Bool.eq_iff_iff]; simp [inB, *]; done)
                                 | (cases hcc : x.cmp <;> (rw [Bool.eq_iff_iff]; simp [inB, *]; done))
                                 | (cases hcc : x.cmp <;> (rw [Bool.eq_iff_iff]; simp [inB, *]; omega))
                                 | (cases hcc : x.cmp <;> (rw [Bool.eq_iff_iff]; simp [inB, cmpB, hcc]; omega))
                                 | (rw [Bool.eq_iff_iff]; simp [inB, cmpB, *]; omega))
                      · have q7 : ¬ x.text.toList = [] := by intro e; apply ht; apply toList_inj.1; rw [e, Lib.toList_data]; rfl
                        have q8 : x.text.toList.isEmpty = false := by rw [Bool.eq_false_iff]; simpa using q7
                        have HT := Lib.hid (Bool.eq_false_iff.2 fun h => by
                          obtain ⟨t1, t2, t3, t4, t5, t6, t7, t8, t9⟩ := formB_facts h
                          exact ht (t6 (by omega)))
                        clear ht k1 hwd hbk hmt hnm hg hn hpt k3 k2
                        repeat (go_big_quiet_step ((first | (go_at_call 32; exact later_same (HP _).out) | (go_at_call 71; exact later_same (HNm _).out))))
                        refine wpQuiet_nil ?_
                        intro _ hw'
                        obtain ⟨z, rfl⟩ := hw'
                        have hW := hb0.trans ((later_below z).mono hsz0)
                        go_wp2
                        go_ret
                        exact ⟨ret_bool HT.out.symm, hW⟩
                  · have q6 : (x.width == 0) = false := by rw [beq_eq_false_iff_ne]; omega
                    have q6' : (x.width != 0) = true := by rw [bne_iff_ne]; omega
                    have HT := Lib.hid (Bool.eq_false_iff.2 fun h => by
                      obtain ⟨t1, t2, t3, t4, t5, t6, t7, t8, t9⟩ := formB_facts h
                      exact hwd (t5 (by omega)))
                    clear hwd hbk hmt hnm hg hn hpt k3 k2
                    repeat (go_big_quiet_step ((first | (go_at_call 32; exact later_same (HP _).out) | (go_at_call 71; exact later_same (HNm _).out))))
                    refine wpQuiet_nil ?_
                    intro _ hw'
                    obtain ⟨z, rfl⟩ := hw'
                    have hW := hb0.trans ((later_below z).mono hsz0)
                    go_wp2
                    go_ret
                    exact ⟨ret_bool HT.out.symm, hW⟩
                · have q5 : (x.back == 0) = false := by rw [beq_eq_false_iff_ne]; omega
                  have q5' : (x.back != 0) = true := by rw [bne_iff_ne]; omega
                  have HT := Lib.hid (Bool.eq_false_iff.2 fun h => by
                    obtain ⟨t1, t2, t3, t4, t5, t6, t7, t8, t9⟩ := formB_facts h
                    exact hbk (t4 (by omega) (by omega)).2)
                  clear hbk hmt hnm hg hn hpt k3 k2
                  repeat (go_big_quiet_step ((first | (go_at_call 32; exact later_same (HP _).out) | (go_at_call 71; exact later_same (HNm _).out))))
                  refine wpQuiet_nil ?_
                  intro _ hw'
                  obtain ⟨z, rfl⟩ := hw'
                  have hW := hb0.trans ((later_below z).mono hsz0)
                  go_wp2
                  go_ret
                  exact ⟨ret_bool HT.out.symm, hW⟩
              · have q4 : 0 < x.mat.length := List.length_pos_iff.2 hmt
                have HT := Lib.hid (Bool.eq_false_iff.2 fun h => by
                  obtain ⟨t1, t2, t3, t4, t5, t6, t7, t8, t9⟩ := formB_facts h
                  exact hmt (t4 (by omega) (by omega)).1)
                clear hmt hnm hg hn hpt k3 k2
                repeat (go_big_quiet_step ((first | (go_at_call 32; exact later_same (HP _).out) | (go_at_call 71; exact later_same (HNm _).out))))
                refine wpQuiet_nil ?_
                intro _ hw'
                obtain ⟨z, rfl⟩ := hw'
                have hW := hb0.trans ((later_below z).mono hsz0)
                go_wp2
                go_ret
                exact ⟨ret_bool HT.out.symm, hW⟩
            · have q2 : 0 < x.names.length := List.length_pos_iff.2 hnm
              have HT := Lib.hid (Bool.eq_false_iff.2 fun h => by
                obtain ⟨t1, t2, t3, t4, t5, t6, t7, t8, t9⟩ := formB_facts h
                exact hnm (t3 hg))
              clear hnm hg hn hpt k3 k2
              repeat (go_big_quiet_step ((first | (go_at_call 32; exact later_same (HP _).out) | (go_at_call 71; exact later_same (HNm _).out))))
              refine wpQuiet_nil ?_
              intro _ hw'
              obtain ⟨z, rfl⟩ := hw'
              have hW := hb0.trans ((later_below z).mono hsz0)
              go_wp2
              go_ret
              exact ⟨ret_bool HT.out.symm, hW⟩
          · have q3 : (x.grp == 0) = false := by rw [beq_eq_false_iff_ne]; omega
            have q3' : (x.grp != 0) = true := by rw [bne_iff_ne]; omega
            by_cases hmt : x.mat = []
            · have q4 : ¬ 0 < x.mat.length := by rw [hmt]; simp
              by_cases hbk : x.back = 0
              · have q5 : (x.back == 0) = true := by rw [beq_iff_eq]; omega
                have q5' : (x.back != 0) = false := by rw [bne_eq_false_iff_eq]; omega
                by_cases hwd : x.width = 0
                · have q6 : (x.width == 0) = true := by rw [beq_iff_eq]; omega
                  have q6' : (x.width != 0) = false := by rw [bne_eq_false_iff_eq]; omega
                  by_cases k1 : x.kind = 1
                  · have f1 : (x.kind == 1) = true := by rw [beq_iff_eq]; omega
                    have g1 : (x.kind != 1) = false := by rw [bne_eq_false_iff_eq]; omega
                    have f2 : (x.kind == 2) = false := by rw [beq_eq_false_iff_ne]; omega
                    have g2 : (x.kind != 2) = true := by rw [bne_iff_ne]; omega
                    have f3 : (x.kind == 3) = false := by rw [beq_eq_false_iff_ne]; omega
                    have g3 : (x.kind != 3) = true := by rw [bne_iff_ne]; omega
                    have f4 : (x.kind == 4) = false := by rw [beq_eq_false_iff_ne]; omega
                    have g4 : (x.kind != 4) = true := by rw [bne_iff_ne]; omega
                    have f5 : (x.kind == 5) = false := by rw [beq_eq_false_iff_ne]; omega
                    have g5 : (x.kind != 5) = true := by rw [bne_iff_ne]; omega
                    have f6 : (x.kind == 6) = false := by rw [beq_eq_false_iff_ne]; omega
                    have g6 : (x.kind != 6) = true := by rw [bne_iff_ne]; omega
                    have f7 : (x.kind == 7) = false := by rw [beq_eq_false_iff_ne]; omega
                    have g7 : (x.kind != 7) = true := by rw [bne_iff_ne]; omega
                    cases hcm : x.cmp with
                    | true =>
                      have HT := Lib.hid (Bool.eq_false_iff.2 fun h => by
                        obtain ⟨t1, t2, t3, t4, t5, t6, t7, t8, t9⟩ := formB_facts h
                        rw [t7 (by omega)] at hcm; cases hcm)
                      clear k1 hwd hbk hmt hg hn hpt k3 k2
                      repeat (go_big_quiet_step ((first | (go_at_call 32; exact later_same (HP _).out) | (go_at_call 71; exact later_same (HNm _).out))))
                      refine wpQuiet_nil ?_
                      intro _ hw'
                      obtain ⟨z, rfl⟩ := hw'
                      have hW := hb0.trans ((later_below z).mono hsz0)
                      go_wp2
                      go_ret
                      exact ⟨ret_bool HT.out.symm, hW⟩
                    | false =>
                      have Hk2 := Lib.hid k2
                      have Hk3 := Lib.hid k3
                      have Hhpt := Lib.hid hpt
                      have Hhn := Lib.hid hn
                      have Hhg := Lib.hid hg
                      have Hhmt := Lib.hid hmt
                      have Hhbk := Lib.hid hbk
                      have Hhwd := Lib.hid hwd
                      have Hk1 := Lib.hid k1
                      clear k1 hwd hbk hmt hg hn hpt k3 k2
                      repeat (go_big_quiet_step ((first | (go_at_call 32; exact later_same (HP _).out) | (go_at_call 71; exact later_same (HNm _).out))))
                      refine wpQuiet_nil ?_
                      intro _ hw'
                      obtain ⟨z, rfl⟩ := hw'
                      have hW := hb0.trans ((later_below z).mono hsz0)
                      go_wp2_with (first | (go_at_call 72; refine ((HNu _).out).mono ?_; rintro e w' ⟨rfl, rfl⟩) | (go_at_call 73; first | (with_reducible refine ((HS0 _).out).mono ?_; rintro e w' ⟨rfl, rfl⟩) | (with_reducible refine ((HS1 _).out).mono ?_; rintro e w' ⟨rfl, rfl⟩)))
                      clear HP HNu HS0 HS1 HNm c0 c1 c2 c3 c4 c5 c6 c7 c8 c9
                      all_goals
                        go_ret
                        refine ⟨ret_bool ?_, hW⟩
                        have tt1 := Hhpt.out
                        have hgg := Hhg.out
                        simp only [beq_iff_eq, beq_eq_false_iff_ne, bne_iff_ne, bne_eq_false_iff_eq, ne_eq] at *
                        first
                        | exact (Bool.eq_false_iff.2 fun h => by
                            obtain ⟨_, _, _, _, _, _, _, t8, t9⟩ := formB_facts h
                            omega).symm
                        | (have kz : x.kind = 7 := by omega
                           by_cases hz : x.op = 0
                           · have e1 : formB x = kindOk x := by
                               refine formB_intro tt1 Hhn.out (fun g => absurd g Hhg.out) (fun _ _ => ⟨Hhmt.out, Hhbk.out⟩) (fun _ => Hhwd.out) (fun a => absurd Hk1.out a) (fun _ => hcm) ?_ (fun _ => hz)
                               intro _ _; omega
                             have pz : x.parts = 1 := by rw [tt1, kz]; rfl
                             rw [e1, kindOk_7 kz, pz, hz]; rfl
                           · have e1 : formB x = false := Bool.eq_false_iff.2 fun h => by
                               obtain ⟨_, _, _, _, _, _, _, _, t9⟩ := formB_facts h
                               exact hz (t9 (by omega))
                             rw [e1, Bool.eq_iff_iff]; simp [hz])
                        | (have e1 : formB x = kindOk x := by
                             refine formB_intro tt1 Hhn.out (fun g => absurd g Hhg.out) (fun _ _ => ⟨Hhmt.out, Hhbk.out⟩) (fun _ => Hhwd.out) (fun a => absurd Hk1.out a) (fun _ => hcm) ?_ ?_
                             · intro _ _; omega
                             · intro _; omega
                           rw [e1]
                           clear e1
                           have z4 : partsN 4 = 1 := rfl
                           have z5 : partsN 5 = 1 := rfl
                           have z6 : partsN 6 = 2 := rfl
                           have z7 : partsN 7 = 1 := rfl
                           first
                           | (have kz : x.kind = 1 := by omega
                              have pz : x.parts = 0 := by rw [tt1, kz]; rfl
                              rw [kindOk_1 kz])
                           | (have kz : x.kind = 2 := by omega
                              have pz : x.parts = 0 := by rw [tt1, kz]; rfl
                              rw [kindOk_2 kz])
                           | (have kz : x.kind = 3 := by omega
                              have pz : x.parts = 0 := by rw [tt1, kz]; rfl
                              rw [kindOk_3 kz])
                           | (have kz : x.kind = 4 := by omega
                              have pz : x.parts = 1 := by rw [tt1, kz]; rfl
                              rw [kindOk_4 kz])
                           | (have kz : x.kind = 5 := by omega
                              have pz : x.parts = 1 := by rw [tt1, kz]; rfl
                              rw [kindOk_5 kz])
                           | (have kz : x.kind = 6 := by omega
                              have pz : x.parts = 2 := by rw [tt1, kz]; rfl
                              rw [kindOk_6 kz])
                           | (have kz : x.kind = 7 := by omega
                              have pz : x.parts = 1 := by rw [tt1, kz]; rfl
                              rw [kindOk_7 kz])
                           all_goals first
                           | rfl
                           | (simp [*]; done)
                           | (rw [Bool.eq_iff_iff]; simp [inB, cmpB, *]; done)
                           | (cases hcc : x.cmp <;> (rw [Bool.eq_iff_iff]; simp [inB, cmpB, *]; done))
                           | (cases hcc : x.cmp <;> (rw [Bool.eq_iff_iff]; simp [inB, cmpB, *]; omega))
                           | (cases hcc : x.cmp <;> (rw [Bool.eq_iff_iff]; simp [inB, cmpB, hcc]; omega))
                           | (rw [Bool.eq_iff_iff]; simp [inB, cmpB, *]; omega))
                  · have f1 : (x.kind == 1) = false := by rw [beq_eq_false_iff_ne]; omega
                    have g1 : (x.kind != 1) = true := by rw [bne_iff_ne]; omega
                    by_cases ht : x.text = ByteArray.empty
                    · have q7 : x.text.toList = [] := by rw [ht, Lib.toList_data]; rfl
                      have q8 : x.text.toList.isEmpty = true := by rw [q7]; rfl
                      by_cases k6 : x.kind = 6
                      · have f1 : (x.kind == 1) = false := by rw [beq_eq_false_iff_ne]; omega
                        have g1 : (x.kind != 1) = true := by rw [bne_iff_ne]; omega
                        have f2 : (x.kind == 2) = false := by rw [beq_eq_false_iff_ne]; omega
                        have g2 : (x.kind != 2) = true := by rw [bne_iff_ne]; omega
                        have f3 : (x.kind == 3) = false := by rw [beq_eq_false_iff_ne]; omega
                        have g3 : (x.kind != 3) = true := by rw [bne_iff_ne]; omega
                        have f4 : (x.kind == 4) = false := by rw [beq_eq_false_iff_ne]; omega
                        have g4 : (x.kind != 4) = true := by rw [bne_iff_ne]; omega
                        have f5 : (x.kind == 5) = false := by rw [beq_eq_false_iff_ne]; omega
                        have g5 : (x.kind != 5) = true := by rw [bne_iff_ne]; omega
                        have f6 : (x.kind == 6) = true := by rw [beq_iff_eq]; omega
                        have g6 : (x.kind != 6) = false := by rw [bne_eq_false_iff_eq]; omega
                        have f7 : (x.kind == 7) = false := by rw [beq_eq_false_iff_ne]; omega
                        have g7 : (x.kind != 7) = true := by rw [bne_iff_ne]; omega
                        have Hk2 := Lib.hid k2
                        have Hk3 := Lib.hid k3
                        have Hhpt := Lib.hid hpt
                        have Hhn := Lib.hid hn
                        have Hhg := Lib.hid hg
                        have Hhmt := Lib.hid hmt
                        have Hhbk := Lib.hid hbk
                        have Hhwd := Lib.hid hwd
                        have Hk1 := Lib.hid k1
                        have Hht := Lib.hid ht
                        have Hk6 := Lib.hid k6
                        clear k6 ht k1 hwd hbk hmt hg hn hpt k3 k2
                        repeat (go_big_quiet_step ((first | (go_at_call 32; exact later_same (HP _).out) | (go_at_call 71; exact later_same (HNm _).out))))
                        refine wpQuiet_nil ?_
                        intro _ hw'
                        obtain ⟨z, rfl⟩ := hw'
                        have hW := hb0.trans ((later_below z).mono hsz0)
                        go_wp2_with (first | (go_at_call 72; refine ((HNu _).out).mono ?_; rintro e w' ⟨rfl, rfl⟩) | (go_at_call 73; first | (with_reducible refine ((HS0 _).out).mono ?_; rintro e w' ⟨rfl, rfl⟩) | (with_reducible refine ((HS1 _).out).mono ?_; rintro e w' ⟨rfl, rfl⟩)))
                        clear HP HNu HS0 HS1 HNm c0 c1 c2 c3 c4 c5 c6 c7 c8 c9
                        all_goals
                          go_ret
                          refine ⟨ret_bool ?_, hW⟩
                          have tt1 := Hhpt.out
                          have hgg := Hhg.out
                          simp only [beq_iff_eq, beq_eq_false_iff_ne, bne_iff_ne, bne_eq_false_iff_eq, ne_eq] at *
                          first
                          | exact (Bool.eq_false_iff.2 fun h => by
                              obtain ⟨_, _, _, _, _, _, _, t8, t9⟩ := formB_facts h
                              omega).symm
                          | (have kz : x.kind = 7 := by omega
                             by_cases hz : x.op = 0
                             · have e1 : formB x = kindOk x := by
                                 refine formB_intro tt1 Hhn.out (fun g => absurd g Hhg.out) (fun _ _ => ⟨Hhmt.out, Hhbk.out⟩) (fun _ => Hhwd.out) (fun _ => Hht.out) (fun a => absurd Hk6.out a) ?_ (fun _ => hz)
                                 intro _ _; omega
                               have pz : x.parts = 1 := by rw [tt1, kz]; rfl
                               rw [e1, kindOk_7 kz, pz, hz]; rfl
                             · have e1 : formB x = false := Bool.eq_false_iff.2 fun h => by
                                 obtain ⟨_, _, _, _, _, _, _, _, t9⟩ := formB_facts h
                                 exact hz (t9 (by omega))
                               rw [e1, Bool.eq_iff_iff]; simp [hz])
                          | (have e1 : formB x = kindOk x := by
                               refine formB_intro tt1 Hhn.out (fun g => absurd g Hhg.out) (fun _ _ => ⟨Hhmt.out, Hhbk.out⟩) (fun _ => Hhwd.out) (fun _ => Hht.out) (fun a => absurd Hk6.out a) ?_ ?_
                               · intro _ _; omega
                               · intro _; omega
                             rw [e1]
                             clear e1
                             have z4 : partsN 4 = 1 := rfl
                             have z5 : partsN 5 = 1 := rfl
                             have z6 : partsN 6 = 2 := rfl
                             have z7 : partsN 7 = 1 := rfl
                             first
                             | (have kz : x.kind = 1 := by omega
                                have pz : x.parts = 0 := by rw [tt1, kz]; rfl
                                rw [kindOk_1 kz])
                             | (have kz : x.kind = 2 := by omega
                                have pz : x.parts = 0 := by rw [tt1, kz]; rfl
                                rw [kindOk_2 kz])
                             | (have kz : x.kind = 3 := by omega
                                have pz : x.parts = 0 := by rw [tt1, kz]; rfl
                                rw [kindOk_3 kz])
                             | (have kz : x.kind = 4 := by omega
                                have pz : x.parts = 1 := by rw [tt1, kz]; rfl
                                rw [kindOk_4 kz])
                             | (have kz : x.kind = 5 := by omega
                                have pz : x.parts = 1 := by rw [tt1, kz]; rfl
                                rw [kindOk_5 kz])
                             | (have kz : x.kind = 6 := by omega
                                have pz : x.parts = 2 := by rw [tt1, kz]; rfl
                                rw [kindOk_6 kz])
                             | (have kz : x.kind = 7 := by omega
                                have pz : x.parts = 1 := by rw [tt1, kz]; rfl
                                rw [kindOk_7 kz])
                             all_goals first
                             | rfl
                             | (simp [*]; done)
                             | (rw [Bool.eq_iff_iff]; simp [inB, cmpB, *]; done)
                             | (cases hcc : x.cmp <;> (rw [Bool.eq_iff_iff]; simp [inB, cmpB, *]; done))
                             | (cases hcc : x.cmp <;> (rw [Bool.eq_iff_iff]; simp [inB, cmpB, *]; omega))
                             | (cases hcc : x.cmp <;> (rw [Bool.eq_iff_iff]; simp [inB, cmpB]; omega))
                             | (rw [Bool.eq_iff_iff]; simp [inB, cmpB, *]; omega))
                      · have f6 : (x.kind == 6) = false := by rw [beq_eq_false_iff_ne]; omega
                        have g6 : (x.kind != 6) = true := by rw [bne_iff_ne]; omega
                        cases hcm : x.cmp with
                        | true =>
                          have HT := Lib.hid (Bool.eq_false_iff.2 fun h => by
                            obtain ⟨t1, t2, t3, t4, t5, t6, t7, t8, t9⟩ := formB_facts h
                            rw [t7 (by omega)] at hcm; cases hcm)
                          clear k6 ht k1 hwd hbk hmt hg hn hpt k3 k2
                          repeat (go_big_quiet_step ((first | (go_at_call 32; exact later_same (HP _).out) | (go_at_call 71; exact later_same (HNm _).out))))
                          refine wpQuiet_nil ?_
                          intro _ hw'
                          obtain ⟨z, rfl⟩ := hw'
                          have hW := hb0.trans ((later_below z).mono hsz0)
                          go_wp2
                          go_ret
                          exact ⟨ret_bool HT.out.symm, hW⟩
                        | false =>
                          have Hk2 := Lib.hid k2
                          have Hk3 := Lib.hid k3
                          have Hhpt := Lib.hid hpt
                          have Hhn := Lib.hid hn
                          have Hhg := Lib.hid hg
                          have Hhmt := Lib.hid hmt
                          have Hhbk := Lib.hid hbk
                          have Hhwd := Lib.hid hwd
                          have Hk1 := Lib.hid k1
                          have Hht := Lib.hid ht
                          have Hk6 := Lib.hid k6
                          clear k6 ht k1 hwd hbk hmt hg hn hpt k3 k2
                          repeat (go_big_quiet_step ((first | (go_at_call 32; exact later_same (HP _).out) | (go_at_call 71; exact later_same (HNm _).out))))
                          refine wpQuiet_nil ?_
                          intro _ hw'
                          obtain ⟨z, rfl⟩ := hw'
                          have hW := hb0.trans ((later_below z).mono hsz0)
                          go_wp2_with (first | (go_at_call 72; refine ((HNu _).out).mono ?_; rintro e w' ⟨rfl, rfl⟩) | (go_at_call 73; first | (with_reducible refine ((HS0 _).out).mono ?_; rintro e w' ⟨rfl, rfl⟩) | (with_reducible refine ((HS1 _).out).mono ?_; rintro e w' ⟨rfl, rfl⟩)))
                          clear HP HNu HS0 HS1 HNm c0 c1 c2 c3 c4 c5 c6 c7 c8 c9
                          all_goals
                            go_ret
                            refine ⟨ret_bool ?_, hW⟩
                            have tt1 := Hhpt.out
                            have hgg := Hhg.out
                            simp only [beq_iff_eq, beq_eq_false_iff_ne, bne_iff_ne, bne_eq_false_iff_eq, ne_eq] at *
                            first
                            | exact (Bool.eq_false_iff.2 fun h => by
                                obtain ⟨_, _, _, _, _, _, _, t8, t9⟩ := formB_facts h
                                omega).symm
                            | (have kz : x.kind = 7 := by omega
                               by_cases hz : x.op = 0
                               · have e1 : formB x = kindOk x := by
                                   refine formB_intro tt1 Hhn.out (fun g => absurd g Hhg.out) (fun _ _ => ⟨Hhmt.out, Hhbk.out⟩) (fun _ => Hhwd.out) (fun _ => Hht.out) (fun _ => hcm) ?_ (fun _ => hz)
                                   intro _ _; omega
                                 have pz : x.parts = 1 := by rw [tt1, kz]; rfl
                                 rw [e1, kindOk_7 kz, pz, hz]; rfl
                               · have e1 : formB x = false := Bool.eq_false_iff.2 fun h => by
                                   obtain ⟨_, _, _, _, _, _, _, _, t9⟩ := formB_facts h
                                   exact hz (t9 (by omega))
                                 rw [e1, Bool.eq_iff_iff]; simp [hz])
                            | (have e1 : formB x = kindOk x := by
                                 refine formB_intro tt1 Hhn.out (fun g => absurd g Hhg.out) (fun _ _ => ⟨Hhmt.out, Hhbk.out⟩) (fun _ => Hhwd.out) (fun _ => Hht.out) (fun _ => hcm) ?_ ?_
                                 · intro _ _; omega
                                 · intro _; omega
                               rw [e1]
                               clear e1
                               have z4 : partsN 4 = 1 := rfl
                               have z5 : partsN 5 = 1 := rfl
                               have z6 : partsN 6 = 2 := rfl
                               have z7 : partsN 7 = 1 := rfl
                               first
                               | (have kz : x.kind = 1 := by omega
                                  have pz : x.parts = 0 := by rw [tt1, kz]; rfl
                                  rw [kindOk_1 kz])
                               | (have kz : x.kind = 2 := by omega
                                  have pz : x.parts = 0 := by rw [tt1, kz]; rfl
                                  rw [kindOk_2 kz])
                               | (have kz : x.kind = 3 := by omega
                                  have pz : x.parts = 0 := by rw [tt1, kz]; rfl
                                  rw [kindOk_3 kz])
                               | (have kz : x.kind = 4 := by omega
                                  have pz : x.parts = 1 := by rw [tt1, kz]; rfl
                                  rw [kindOk_4 kz])
                               | (have kz : x.kind = 5 := by omega
                                  have pz : x.parts = 1 := by rw [tt1, kz]; rfl
                                  rw [kindOk_5 kz])
                               | (have kz : x.kind = 6 := by omega
                                  have pz : x.parts = 2 := by rw [tt1, kz]; rfl
                                  rw [kindOk_6 kz])
                               | (have kz : x.kind = 7 := by omega
                                  have pz : x.parts = 1 := by rw [tt1, kz]; rfl
                                  rw [kindOk_7 kz])
                               all_goals first
                               | rfl
                               | (simp [*]; done)
                               | (rw [Bool.eq_iff_iff]; simp [inB, *]; done)
                               | (cases hcc : x.cmp <;> (rw [Bool.eq_iff_iff]; simp [inB, *]; done))
                               | (cases hcc : x.cmp <;> (rw [Bool.eq_iff_iff]; simp [inB, *]; omega))
                               | (cases hcc : x.cmp <;> (rw [Bool.eq_iff_iff]; simp [inB, cmpB, hcc]; omega))
                               | (rw [Bool.eq_iff_iff]; simp [inB, cmpB, *]; omega))
                    · have q7 : ¬ x.text.toList = [] := by intro e; apply ht; apply toList_inj.1; rw [e, Lib.toList_data]; rfl
                      have q8 : x.text.toList.isEmpty = false := by rw [Bool.eq_false_iff]; simpa using q7
                      have HT := Lib.hid (Bool.eq_false_iff.2 fun h => by
                        obtain ⟨t1, t2, t3, t4, t5, t6, t7, t8, t9⟩ := formB_facts h
                        exact ht (t6 (by omega)))
                      clear ht k1 hwd hbk hmt hg hn hpt k3 k2
                      repeat (go_big_quiet_step ((first | (go_at_call 32; exact later_same (HP _).out) | (go_at_call 71; exact later_same (HNm _).out))))
                      refine wpQuiet_nil ?_
                      intro _ hw'
                      obtain ⟨z, rfl⟩ := hw'
                      have hW := hb0.trans ((later_below z).mono hsz0)
                      go_wp2
                      go_ret
                      exact ⟨ret_bool HT.out.symm, hW⟩
                · have q6 : (x.width == 0) = false := by rw [beq_eq_false_iff_ne]; omega
                  have q6' : (x.width != 0) = true := by rw [bne_iff_ne]; omega
                  have HT := Lib.hid (Bool.eq_false_iff.2 fun h => by
                    obtain ⟨t1, t2, t3, t4, t5, t6, t7, t8, t9⟩ := formB_facts h
                    exact hwd (t5 (by omega)))
                  clear hwd hbk hmt hg hn hpt k3 k2
                  repeat (go_big_quiet_step ((first | (go_at_call 32; exact later_same (HP _).out) | (go_at_call 71; exact later_same (HNm _).out))))
                  refine wpQuiet_nil ?_
                  intro _ hw'
                  obtain ⟨z, rfl⟩ := hw'
                  have hW := hb0.trans ((later_below z).mono hsz0)
                  go_wp2
                  go_ret
                  exact ⟨ret_bool HT.out.symm, hW⟩
              · have q5 : (x.back == 0) = false := by rw [beq_eq_false_iff_ne]; omega
                have q5' : (x.back != 0) = true := by rw [bne_iff_ne]; omega
                have HT := Lib.hid (Bool.eq_false_iff.2 fun h => by
                  obtain ⟨t1, t2, t3, t4, t5, t6, t7, t8, t9⟩ := formB_facts h
                  exact hbk (t4 (by omega) (by omega)).2)
                clear hbk hmt hg hn hpt k3 k2
                repeat (go_big_quiet_step ((first | (go_at_call 32; exact later_same (HP _).out) | (go_at_call 71; exact later_same (HNm _).out))))
                refine wpQuiet_nil ?_
                intro _ hw'
                obtain ⟨z, rfl⟩ := hw'
                have hW := hb0.trans ((later_below z).mono hsz0)
                go_wp2
                go_ret
                exact ⟨ret_bool HT.out.symm, hW⟩
            · have q4 : 0 < x.mat.length := List.length_pos_iff.2 hmt
              have HT := Lib.hid (Bool.eq_false_iff.2 fun h => by
                obtain ⟨t1, t2, t3, t4, t5, t6, t7, t8, t9⟩ := formB_facts h
                exact hmt (t4 (by omega) (by omega)).1)
              clear hmt hg hn hpt k3 k2
              repeat (go_big_quiet_step ((first | (go_at_call 32; exact later_same (HP _).out) | (go_at_call 71; exact later_same (HNm _).out))))
              refine wpQuiet_nil ?_
              intro _ hw'
              obtain ⟨z, rfl⟩ := hw'
              have hW := hb0.trans ((later_below z).mono hsz0)
              go_wp2
              go_ret
              exact ⟨ret_bool HT.out.symm, hW⟩
        | false =>
          simp only [hn] at HNm
          have HT := Lib.hid (Bool.eq_false_iff.2 fun h => by
            obtain ⟨t1, t2, t3, t4, t5, t6, t7, t8, t9⟩ := formB_facts h
            rw [t2] at hn; cases hn)
          clear hn hpt k3 k2
          repeat (go_big_quiet_step ((first | (go_at_call 32; exact later_same (HP _).out) | (go_at_call 71; exact later_same (HNm _).out))))
          refine wpQuiet_nil ?_
          intro _ hw'
          obtain ⟨z, rfl⟩ := hw'
          have hW := hb0.trans ((later_below z).mono hsz0)
          go_wp2
          go_ret
          exact ⟨ret_bool HT.out.symm, hW⟩
      · have q1 : (x.parts == partsN x.kind) = false := by rw [beq_eq_false_iff_ne]; omega
        have q1' : (x.parts != partsN x.kind) = true := by rw [bne_iff_ne]; omega
        have HT := Lib.hid (Bool.eq_false_iff.2 fun h => by
          obtain ⟨t1, t2, t3, t4, t5, t6, t7, t8, t9⟩ := formB_facts h
          exact hpt t1)
        clear hpt k3 k2
        repeat (go_big_quiet_step ((first | (go_at_call 32; exact later_same (HP _).out) | (go_at_call 71; exact later_same (HNm _).out))))
        refine wpQuiet_nil ?_
        intro _ hw'
        obtain ⟨z, rfl⟩ := hw'
        have hW := hb0.trans ((later_below z).mono hsz0)
        go_wp2
        go_ret
        exact ⟨ret_bool HT.out.symm, hW⟩
end Go.Proofs.YtakfnojiaakfpaaGreatDoor
