/- Checking a push: the document's answer. -/
import Derived.Test.YtpoefknaaohmhaaLimits
namespace Go.Proofs.Ytpoefknaaohmhaa
open Go.RowKit

def limBox (se L P : Int) (ha : Bool) : Obj := .cells #[.int .i64 se, .int .i64 L, .int .i64 P, .bool ha] 24
set_option maxRecDepth 100000 in
set_option maxHeartbeats 2000000 in
theorem limRef_any (tenant : ByteArray) (ss : List Samp) (A1 : Option Addr) (n1 c1 B1 : Nat) (se L P : Int) (ha : Bool) (w : World) (ht : tenant.size ≤ maxLen) (h1 : RdSamps w B1 A1 ss) (hn1 : ss.length = n1) (hB : B1 ≤ w.heap.size) (hok : okSamps ss) :
    Calls Try.prog 6 #[.string tenant, .slice A1 n1 c1, .agg #[.int .i64 se, .int .i64 L, .int .i64 P, .bool ha]] w fun e w' => e = .returned (.tuple #[.int .i64 (limL tenant ss L P).1, .int .i64 (limL tenant ss L P).2]) ∧ Below w.heap.size w w' := by
  have HT := fun W => Lib.hid (tenant2_any tenant W ht)
  have hbx : Below w.heap.size w (w.alloc (limBox se L P ha)) := (Below.refl _ _).alloc (Nat.le_refl _) _
  cases hten : tenantB tenant with
  | false =>
    rw [hten] at HT
    have HE : Hid ((limL tenant ss L P).1 = 0 ∧ (limL tenant ss L P).2 = 150) := by
      show _ ∧ _
      rw [limL, if_pos hten]
      exact ⟨rfl, rfl⟩
    clear hten
    go_enter Try.func6, Try.ntmps6
    go_wp2_with (go_at_call 11; refine ((HT _).out).mono ?_; rintro e w' ⟨rfl, rfl⟩)
    go_ret2
    exact ⟨by rw [HE.out.1, HE.out.2]; rfl, hbx⟩
  | true =>
    rw [hten] at HT
    by_cases hbad : n1 = 0 ∨ P < n1 ∨ 256 < n1
    · have HE : Hid ((limL tenant ss L P).1 = 0 ∧ (limL tenant ss L P).2 = 151) := by
        show _ ∧ _
        rw [limL, if_neg (by simp [hten]), if_pos (by rw [hn1]; exact hbad)]
        exact ⟨rfl, rfl⟩
      clear hten hn1
      by_cases hz : n1 = 0
      · have hz1 : ((n1 : Int) == 0) = true := by rw [beq_iff_eq]; omega
        clear hz hbad
        go_enter Try.func6, Try.ntmps6
        go_wp2_with (go_at_call 11; refine ((HT _).out).mono ?_; rintro e w' ⟨rfl, rfl⟩)
        go_ret2
        exact ⟨by rw [HE.out.1, HE.out.2]; rfl, hbx⟩
      · have hz1 : ((n1 : Int) == 0) = false := by rw [beq_eq_false_iff_ne]; omega
        by_cases hp : P < n1
        · clear hz hbad
          go_enter Try.func6, Try.ntmps6
          go_wp2_with (go_at_call 11; refine ((HT _).out).mono ?_; rintro e w' ⟨rfl, rfl⟩)
          go_ret2
          exact ⟨by rw [HE.out.1, HE.out.2]; rfl, hbx⟩
        · have hq1 : (256 : Int) < n1 := by omega
          clear hz hbad
          go_enter Try.func6, Try.ntmps6
          go_wp2_with (go_at_call 11; refine ((HT _).out).mono ?_; rintro e w' ⟨rfl, rfl⟩)
          go_ret2
          exact ⟨by rw [HE.out.1, HE.out.2]; rfl, hbx⟩
    · have hz1 : ((n1 : Int) == 0) = false := by rw [beq_eq_false_iff_ne]; omega
      have hp : ¬ P < n1 := by omega
      have hq1 : ¬ (256 : Int) < n1 := by omega
      have HL : Hid (limL tenant ss L P = limFrom L 0 ss) := by show _ = _; rw [limL, if_neg (by simp [hten]), if_neg (by rw [hn1]; exact hbad)]
      have Hn1 := Lib.hid hn1
      clear hn1 hten hbad
      go_enter Try.func6, Try.ntmps6
      go_wp2_with (go_at_call 11; refine ((HT _).out).mono ?_; rintro e w' ⟨rfl, rfl⟩)
      go_loopw [8] (fun i wr => ∃ k q : Nat, k ≤ n1 ∧ i = .int .i64 k ∧ wr = (w.alloc (limBox se L P ha)).drewN q ∧ Hid (limL tenant ss L P = limFrom L k (ss.drop k))) (fun i _ => n1 - (intOf i).toNat)
      case atStart => exact ⟨0, 0, by omega, rfl, rfl, HL.out⟩
      case round =>
        obtain ⟨k, q, hk, rfl, hw, HC⟩ := hrel
        have hsz : wr.heap.size = w.heap.size + 1 := by rw [hw]; simp
        have hbw : Below w.heap.size w wr := by rw [hw]; exact below_drewN hbx q
        have hL1 : wr.cell? ⟨w.heap.size, 1, none⟩ = some (.int .i64 L) := by rw [hw]; simp [go_sem, limBox]
        have HW := Lib.hid hw
        clear hw
        have hB1 : B1 ≤ wr.heap.size := by omega
        have HS := Lib.hid hsz
        clear hsz
        by_cases hlt : k < n1
        · obtain ⟨l, e1⟩ := get_lt Hn1 hlt
          obtain ⟨b1, o1, A', c', hA, hb1, p1, p2, p3, r1, r2, r3⟩ := (h1.below (hbw.mono hB)).at_ e1
          have E1 := Lib.hid e1
          have HCk := fun (W : World) h2 => Lib.hid (check3_any l.ls A' l.ls.length c' B1 W h2 rfl (by omega) (hok l (List.mem_of_getElem? E1.out)))
          subst hA
          clear e1
          cases hbad : labsBad L l with
          | true =>
            have HE : Hid ((limL tenant ss L P).1 = k ∧ (limL tenant ss L P).2 = 152) := by
              show _ ∧ _
              rw [HC.out, lim_stop E1.out (e := 152) (by simp [sampErr, hbad]) (by omega)]
              exact ⟨rfl, rfl⟩
            have HD : Hid (checkL l.ls ≠ 0 ∨ l.ls.length = 0 ∨ L < l.ls.length) := by show _ ∨ _ ∨ _; simpa [labsBad, or_assoc] using hbad
            clear hbad
            by_cases hn : l.ls.length = 0
            · have hn1 : ((l.ls.length : Int) == 0) = true := by rw [beq_iff_eq]; omega
              clear hn HD
              go_wp2
              go_ret2
              exact ⟨by rw [HE.out.1, HE.out.2]; rfl, hbw⟩
            · have hn1 : ((l.ls.length : Int) == 0) = false := by rw [beq_eq_false_iff_ne]; omega
              by_cases hg : L < l.ls.length
              · clear hn HD
                go_wp2
                go_ret2
                exact ⟨by rw [HE.out.1, HE.out.2]; rfl, hbw⟩
              · have hc1 : ((checkL l.ls : Int) != 0) = true := by rw [bne_iff_ne]; rcases HD.out with h | h | h; exact h; exact absurd h hn; exact absurd h hg
                clear hn HD
                go_wp2_with (go_at_call 16; refine ((HCk _ ?z1).out).mono ?_; (case z1 => exact r1); rintro e w1 ⟨rfl, m, hm⟩; have HM := Lib.hid hm; clear hm)
                go_ret2
                exact ⟨by rw [HE.out.1, HE.out.2]; rfl, by rw [HM.out]; exact below_drewN hbw m⟩
          | false =>
            have HD : checkL l.ls = 0 ∧ ¬ l.ls.length = 0 ∧ ¬ L < l.ls.length := by simpa [labsBad, and_assoc] using hbad
            obtain ⟨hc, hn, hg⟩ := HD
            have hn1 : ((l.ls.length : Int) == 0) = false := by rw [beq_eq_false_iff_ne]; omega
            rw [hc] at HCk
            clear hc hn
            by_cases ht1 : l.t < -1099511627776
            · have HE : Hid ((limL tenant ss L P).1 = k ∧ (limL tenant ss L P).2 = 153) := by
                show _ ∧ _
                rw [HC.out, lim_stop E1.out (e := 153) (by simp [sampErr, hbad, timeBad, ht1]) (by omega)]
                exact ⟨rfl, rfl⟩
              clear hbad
              go_wp2_with (go_at_call 16; refine ((HCk _ ?z1).out).mono ?_; (case z1 => exact r1); rintro e w1 ⟨rfl, m, hm⟩; subst hm)
              go_ret2
              exact ⟨by rw [HE.out.1, HE.out.2]; rfl, below_drewN hbw m⟩
            · by_cases ht2 : 1099511627776 < l.t
              · have HE : Hid ((limL tenant ss L P).1 = k ∧ (limL tenant ss L P).2 = 153) := by
                  show _ ∧ _
                  rw [HC.out, lim_stop E1.out (e := 153) (by simp [sampErr, hbad, timeBad, ht2]) (by omega)]
                  exact ⟨rfl, rfl⟩
                clear hbad
                go_wp2_with (go_at_call 16; refine ((HCk _ ?z1).out).mono ?_; (case z1 => exact r1); rintro e w1 ⟨rfl, m, hm⟩; subst hm)
                go_ret2
                exact ⟨by rw [HE.out.1, HE.out.2]; rfl, below_drewN hbw m⟩
              · have HE : Hid (limL tenant ss L P = limFrom L ((k + 1 : Nat) : Int) (ss.drop (k + 1))) := HC.out.trans (lim_next E1.out (by simp [sampErr, hbad, timeBad, ht1, ht2]))
                clear hbad
                go_wp2_with (go_at_call 16; refine ((HCk _ ?z1).out).mono ?_; (case z1 => exact r1); rintro e w1 ⟨rfl, m, hm⟩; subst hm)
                go_roundw
                case rel => exact ⟨k + 1, q + m, by omega, by go_num, by rw [HW.out]; exact World.drewN_drewN .., HE⟩
                case measure => simp [intOf]; omega
        · have hkn : k = n1 := by omega
          have HE : Hid ((limL tenant ss L P).1 = 0 ∧ (limL tenant ss L P).2 = 0) := by
            show _ ∧ _
            rw [HC.out, hkn, ← Hn1.out, List.drop_length]
            exact ⟨rfl, rfl⟩
          clear hkn
          go_wp2
          go_ret2
          exact ⟨by rw [HE.out.1, HE.out.2]; rfl, hbw⟩
end Go.Proofs.Ytpoefknaaohmhaa
