import Derived.Test.YtpoefknaaohmhaaLimits
namespace Go.Proofs.Ytpoefknaaohmhaa
open Go.RowKit

set_option maxRecDepth 100000 in
set_option maxHeartbeats 2000000 in
theorem limCheck_any (tenant : ByteArray) (ss : List Samp) (A1 : Option Addr) (n1 c1 B1 : Nat) (se L P : Int) (ha : Bool) (w : World) (ht : tenant.size ≤ maxLen) (h1 : RdSamps w B1 A1 ss) (hn1 : ss.length = n1) (hB : B1 ≤ w.heap.size) (hok : okSamps ss) :
    Calls Try.prog 8 #[.string tenant, .slice A1 n1 c1, .agg #[.int .i64 se, .int .i64 L, .int .i64 P, .bool ha]] w fun e w' => e = .returned (.tuple #[.int .i64 (limL tenant ss L P).1, .int .i64 (limL tenant ss L P).2]) ∧ Below w.heap.size w w' := by
  have HT := fun W => Lib.hid (tenant1_any tenant W ht)
  cases hten : tenantB tenant with
  | false =>
    rw [hten] at HT
    have HE : Hid ((limL tenant ss L P).1 = 0 ∧ (limL tenant ss L P).2 = 150) := by
      show _ ∧ _
      rw [limL, if_pos hten]
      exact ⟨rfl, rfl⟩
    clear hten
    go_enter Try.func8, Try.ntmps8
    go_wp2_with (go_at_call 10; refine ((HT _).out).mono ?_; rintro e w' ⟨rfl, rfl⟩)
    go_ret2
    exact ⟨by rw [HE.out.1, HE.out.2]; rfl, (Below.refl _ _).alloc (Nat.le_refl _) _⟩
  | true =>
    rw [hten] at HT
    by_cases hbad : n1 = 0 ∨ P < n1 ∨ 256 < n1
    · have HE : Hid ((limL tenant ss L P).1 = 0 ∧ (limL tenant ss L P).2 = 151) := by
        show _ ∧ _
        rw [limL, if_neg (by simp [hten]), if_pos (by rw [hn1]; exact hbad)]
        exact ⟨rfl, rfl⟩
      clear hten hn1
      by_cases hz : n1 = 0
      · have hz1 : ((n1 : Int) == 0) = true := by rw [beq_iff_eq]; omega
        clear hz hbad
        go_enter Try.func8, Try.ntmps8
        go_wp2_with (go_at_call 10; refine ((HT _).out).mono ?_; rintro e w' ⟨rfl, rfl⟩)
        go_ret2
        exact ⟨by rw [HE.out.1, HE.out.2]; rfl, (Below.refl _ _).alloc (Nat.le_refl _) _⟩
      · have hz1 : ((n1 : Int) == 0) = false := by rw [beq_eq_false_iff_ne]; omega
        by_cases hp : P < n1
        · clear hz hbad
          go_enter Try.func8, Try.ntmps8
          go_wp2_with (go_at_call 10; refine ((HT _).out).mono ?_; rintro e w' ⟨rfl, rfl⟩)
          go_ret2
          exact ⟨by rw [HE.out.1, HE.out.2]; rfl, (Below.refl _ _).alloc (Nat.le_refl _) _⟩
        · have hq1 : (256 : Int) < n1 := by omega
          clear hz hbad
          go_enter Try.func8, Try.ntmps8
          go_wp2_with (go_at_call 10; refine ((HT _).out).mono ?_; rintro e w' ⟨rfl, rfl⟩)
          go_ret2
          exact ⟨by rw [HE.out.1, HE.out.2]; rfl, (Below.refl _ _).alloc (Nat.le_refl _) _⟩
    · have hz1 : ((n1 : Int) == 0) = false := by rw [beq_eq_false_iff_ne]; omega
      have hp : ¬ P < n1 := by omega
      have hq1 : ¬ (256 : Int) < n1 := by omega
      have HL : Hid (limL tenant ss L P = limFrom L 0 ss) := by show _ = _; rw [limL, if_neg (by simp [hten]), if_neg (by rw [hn1]; exact hbad)]
      have Hn1 := Lib.hid hn1
      clear hn1 hten hbad
      have hmf := @run_mf Try.prog
      go_enter Try.func8, Try.ntmps8
      go_wp2_with (first | (go_at_call 10; refine ((HT _).out).mono ?_; rintro e w' ⟨rfl, rfl⟩) | (go_at_call 18; refine (asks_any se L P ha _).mono ?_; rintro e w0 ⟨rfl, hw⟩; have HW := Lib.hid hw; clear hw))
      have hb0 : Below w.heap.size w w0 := by rw [HW.out]; exact (((Below.refl _ _).alloc (Nat.le_refl _) _).alloc (by simp) _).alloc (by simp; omega) _
      have hs0 : w.heap.size + 1 + 1 < w0.heap.size := by rw [HW.out]; simp
      have hL0 : w0.cell? ⟨w.heap.size + 1, 1, none⟩ = some (.int .i64 L) := by rw [HW.out]; simp [go_sem]
      have hr0 : w0.cell? ⟨w.heap.size + 1 + 1, 0, none⟩ = some (.func (.func 24) #[] #[.pointer (some ⟨w.heap.size + 1, 0, none⟩)]) := by rw [HW.out]; simp [go_sem, askRow]
      have hr1 : w0.cell? ⟨w.heap.size + 1 + 1, 1, none⟩ = some (.func (.func 26) #[] #[]) := by rw [HW.out]; simp [go_sem, askRow]
      clear HW
      have hB0 : B1 ≤ w0.heap.size := by omega
      have h10 := h1.below (hb0.mono hB)
      go_loopw [38] (fun i wr => ∃ k : Nat, k ≤ n1 ∧ i = .int .i64 k ∧ Below w0.heap.size w0 wr ∧ Hid (limL tenant ss L P = limFrom L k (ss.drop k))) (fun i _ => n1 - (intOf i).toNat)
      case atStart => exact ⟨0, by omega, rfl, Below.refl _ _, HL.out⟩
      case round =>
        obtain ⟨k, hk, rfl, hb, HC⟩ := hrel
        have hsz := hb.size
        by_cases hlt : k < n1
        · obtain ⟨l, e1⟩ := get_lt Hn1 hlt
          obtain ⟨b1, o1, A', c', hA, hb1, p1, p2, p3, q1, q2, q3⟩ := (h10.below (hb.mono hB0)).at_ e1
          have hL1 := (hb.cell (p := ⟨w.heap.size + 1, 1, none⟩) (by simp; omega)).trans hL0
          have hr2 := (hb.cell (p := ⟨w.heap.size + 1 + 1, 0, none⟩) (by simp; omega)).trans hr0
          have hr3 := (hb.cell (p := ⟨w.heap.size + 1 + 1, 1, none⟩) (by simp; omega)).trans hr1
          have hR : w.heap.size + 1 + 1 < wr.heap.size := by omega
          have hX1 : w.heap.size + 1 < wr.heap.size := by omega
          have hb1' : b1 < wr.heap.size := by omega
          subst hA
          have E1 := Lib.hid e1
          clear e1
          have HA1 := fun (W : World) h2 h3 h4 => Lib.hid (ask1_any l A' c' B1 (w.heap.size + 1) L W h2 h3 (by omega) (hok l (List.mem_of_getElem? E1.out)) h4)
          have HA2 := fun (W : World) => Lib.hid (ask2_any l (.slice A' l.ls.length c') W)
          cases hbad : labsBad L l with
          | true =>
            have HE : Hid ((limL tenant ss L P).1 = k ∧ (limL tenant ss L P).2 = 152) := by
              show _ ∧ _
              rw [HC.out, lim_stop E1.out (e := 152) (by simp [sampErr, hbad]) (by omega)]
              exact ⟨rfl, rfl⟩
            rw [show ask1E L l = 152 from by simp [ask1E, hbad]] at HA1
            clear hbad
            go_wp2
            refine wp_loop_rounds 3 ?_
            rw [rounds_succ]
            go_wp2_with (go_at_call 24; refine ((HA1 _ ?q1 ?q2 ?q3).out).mono ?_; (case q1 => exact (q1.below ((Below.refl _ _).alloc (by omega) _))); (case q2 => (simp; omega)); (case q3 => exact (World.cell?_alloc_lt _ _ _ (by simpa using hX1)).trans hL1); rintro e w1 ⟨rfl, hw1⟩; have m0 : w1.cell? ⟨wr.heap.size, 0, none⟩ = some (.slice A' l.ls.length c') := (hw1.cell (by simp)).trans (by simp [go_sem]); have m1 : w1.cell? ⟨wr.heap.size, 1, none⟩ = some (.int .i64 l.t) := (hw1.cell (by simp)).trans (by simp [go_sem]); have m2 : w1.cell? ⟨wr.heap.size, 2, none⟩ = some (.int .u64 l.v) := (hw1.cell (by simp)).trans (by simp [go_sem]); have m3 : w1.cell? ⟨w.heap.size + 1 + 1, 1, none⟩ = some (.func (.func 26) #[] #[]) := (hw1.cell (by simp; omega)).trans ((World.cell?_alloc_lt _ _ _ (by simpa using hR)).trans hr3))
            go_ret2
            exact ⟨by rw [HE.out.1, HE.out.2]; rfl, hb0.trans ((((hb.alloc hsz _).trans (hw1.mono (by simp; omega)))).mono (by omega))⟩
          | false =>
            rw [show ask1E L l = 0 from by simp [ask1E, hbad]] at HA1
            cases htb : timeBad l.t with
            | true =>
              have HE : Hid ((limL tenant ss L P).1 = k ∧ (limL tenant ss L P).2 = 153) := by
                show _ ∧ _
                rw [HC.out, lim_stop E1.out (e := 153) (by simp [sampErr, hbad, htb]) (by omega)]
                exact ⟨rfl, rfl⟩
              rw [show ask2E l = 153 from by simp [ask2E, htb]] at HA2
              clear hbad htb
              go_wp2
              refine wp_loop_rounds 3 ?_
              rw [rounds_succ]
              go_wp2_with (go_at_call 24; refine ((HA1 _ ?q1 ?q2 ?q3).out).mono ?_; (case q1 => exact (q1.below ((Below.refl _ _).alloc (by omega) _))); (case q2 => (simp; omega)); (case q3 => exact (World.cell?_alloc_lt _ _ _ (by simpa using hX1)).trans hL1); rintro e w1 ⟨rfl, hw1⟩; have m0 : w1.cell? ⟨wr.heap.size, 0, none⟩ = some (.slice A' l.ls.length c') := (hw1.cell (by simp)).trans (by simp [go_sem]); have m1 : w1.cell? ⟨wr.heap.size, 1, none⟩ = some (.int .i64 l.t) := (hw1.cell (by simp)).trans (by simp [go_sem]); have m2 : w1.cell? ⟨wr.heap.size, 2, none⟩ = some (.int .u64 l.v) := (hw1.cell (by simp)).trans (by simp [go_sem]); have m3 : w1.cell? ⟨w.heap.size + 1 + 1, 1, none⟩ = some (.func (.func 26) #[] #[]) := (hw1.cell (by simp; omega)).trans ((World.cell?_alloc_lt _ _ _ (by simpa using hR)).trans hr3))
              rw [rounds_succ]
              go_wp2_with (go_at_call 26; refine ((HA2 _).out).mono ?_; rintro e w2 ⟨rfl, hw2⟩)
              go_ret2
              exact ⟨by rw [HE.out.1, HE.out.2]; rfl, hb0.trans (((((hb.alloc hsz _).trans (hw1.mono (by simp; omega)))).trans (hw2.mono (by have := hw1.size; simp at this; omega))).mono (by omega))⟩
            | false =>
              have HE : Hid (limL tenant ss L P = limFrom L ((k + 1 : Nat) : Int) (ss.drop (k + 1))) := HC.out.trans (lim_next E1.out (by simp [sampErr, hbad, htb]))
              rw [show ask2E l = 0 from by simp [ask2E, htb]] at HA2
              clear hbad htb
              go_wp2
              refine wp_loop_rounds 3 ?_
              rw [rounds_succ]
              go_wp2_with (go_at_call 24; refine ((HA1 _ ?q1 ?q2 ?q3).out).mono ?_; (case q1 => exact (q1.below ((Below.refl _ _).alloc (by omega) _))); (case q2 => (simp; omega)); (case q3 => exact (World.cell?_alloc_lt _ _ _ (by simpa using hX1)).trans hL1); rintro e w1 ⟨rfl, hw1⟩; have m0 : w1.cell? ⟨wr.heap.size, 0, none⟩ = some (.slice A' l.ls.length c') := (hw1.cell (by simp)).trans (by simp [go_sem]); have m1 : w1.cell? ⟨wr.heap.size, 1, none⟩ = some (.int .i64 l.t) := (hw1.cell (by simp)).trans (by simp [go_sem]); have m2 : w1.cell? ⟨wr.heap.size, 2, none⟩ = some (.int .u64 l.v) := (hw1.cell (by simp)).trans (by simp [go_sem]); have m3 : w1.cell? ⟨w.heap.size + 1 + 1, 1, none⟩ = some (.func (.func 26) #[] #[]) := (hw1.cell (by simp; omega)).trans ((World.cell?_alloc_lt _ _ _ (by simpa using hR)).trans hr3))
              rw [rounds_succ]
              go_wp2_with (go_at_call 26; refine ((HA2 _).out).mono ?_; rintro e w2 ⟨rfl, hw2⟩)
              rw [rounds_succ]
              go_wp2
              go_roundw
              case rel => exact ⟨k + 1, by omega, by go_num, (((hb.alloc hsz _).trans (hw1.mono (by simp; omega)))).trans (hw2.mono (by have := hw1.size; simp at this; omega)), HE⟩
              case measure => simp [intOf]; omega
        · have hkn : k = n1 := by omega
          have HE : Hid ((limL tenant ss L P).1 = 0 ∧ (limL tenant ss L P).2 = 0) := by
            show _ ∧ _
            rw [HC.out, hkn, ← Hn1.out, List.drop_length]
            exact ⟨rfl, rfl⟩
          clear hkn
          go_wp2
          go_ret2
          exact ⟨by rw [HE.out.1, HE.out.2]; rfl, hb0.trans (hb.mono (by omega))⟩
end Go.Proofs.Ytpoefknaaohmhaa
