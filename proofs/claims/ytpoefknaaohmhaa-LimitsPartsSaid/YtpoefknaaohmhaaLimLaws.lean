/- The laws of chapter 15, as calls. -/
import Derived.Test.YtpoefknaaohmhaaLimAwake
namespace Go.Proofs.Ytpoefknaaohmhaa
open Go.RowKit

set_option maxRecDepth 100000 in
set_option maxHeartbeats 2000000 in
theorem limitsChecks_any (tenant : ByteArray) (ss : List Samp) (A1 : Option Addr) (n1 c1 B1 : Nat) (se L P : Int) (ha : Bool) (v : Int) (w : World) (ht : tenant.size ≤ maxLen) (h1 : RdSamps w B1 A1 ss) (hn1 : ss.length = n1) (hB : B1 ≤ w.heap.size) (hok : okSamps ss)
    (hm1 : n1 * 40 ≤ 140737488355328) (hml : ∀ s ∈ ss, s.ls.length * 32 ≤ 140737488355328) (hv0 : 0 ≤ v) (hv1 : v < 18446744073709551616) :
    Calls Try.prog 3 #[.string tenant, .slice A1 n1 c1, .agg #[.int .i64 se, .int .i64 L, .int .i64 P, .bool ha], .int .u64 v] w fun e w' => e = .returned (.bool true) ∧ Below w.heap.size w w' := by
  have hT1 := fun (W : World) => Lib.hid (tenant1_any tenant W ht)
  have hT2 := fun (W : World) => Lib.hid (tenant2_any tenant W ht)
  have hN1 := fun (W : World) => Lib.hid (normal_any v W)
  have hN2 := fun (W : World) => Lib.hid (normal15_any v W hv0 hv1)
  have hA := fun (W : World) => Lib.hid (limAwake_any W)
  have HN := Lib.hid hn1
  clear hv0 hv1 hn1
  have hm2 : n1 ≤ maxLen := by simp only [maxLen]; omega
  go_enter Try.func3, Try.ntmps3
  go_wp2_with fail
  have hb0 : Below w.heap.size w (w.alloc (limBox se L P ha)) := (Below.refl _ _).alloc (Nat.le_refl _) _
  refine (limRef_any tenant ss A1 n1 c1 B1 se L P ha (w.alloc (limBox se L P ha)) ht (h1.below (hb0.mono hB)) HN.out (by simp; omega) hok).mono ?_
  rintro e w1 ⟨rfl, hb1⟩
  have hs1 := hb1.size
  simp only [World.size_alloc] at hs1
  have c0 : w1.cell? ⟨w.heap.size, 0, none⟩ = some (.int .i64 se) := (hb1.cell (by simp)).trans (by simp [go_sem, limBox])
  have c1' : w1.cell? ⟨w.heap.size, 1, none⟩ = some (.int .i64 L) := (hb1.cell (by simp)).trans (by simp [go_sem, limBox])
  have c2' : w1.cell? ⟨w.heap.size, 2, none⟩ = some (.int .i64 P) := (hb1.cell (by simp)).trans (by simp [go_sem, limBox])
  have c3' : w1.cell? ⟨w.heap.size, 3, none⟩ = some (.bool ha) := (hb1.cell (by simp)).trans (by simp [go_sem, limBox])
  have hbw1 : Below w.heap.size w w1 := hb0.trans (hb1.mono (by simp))
  go_wp2_with fail
  refine (copySamples_any ss A1 n1 c1 B1 w1 (h1.below (hbw1.mono hB)) HN.out (by omega) hm1 hml).mono ?_
  rintro e w2 ⟨A2, c2, rfl, ho, hb2⟩
  have hs2 := hb2.size
  have d0 := (hb2.cell (p := ⟨w.heap.size, 0, none⟩) (by simp; omega)).trans c0
  have d1 := (hb2.cell (p := ⟨w.heap.size, 1, none⟩) (by simp; omega)).trans c1'
  have d2 := (hb2.cell (p := ⟨w.heap.size, 2, none⟩) (by simp; omega)).trans c2'
  have d3 := (hb2.cell (p := ⟨w.heap.size, 3, none⟩) (by simp; omega)).trans c3'
  have hbw2 : Below w.heap.size w w2 := hbw1.trans (hb2.mono (by omega))
  clear c0 c1' c2' c3'
  go_wp2_with fail
  refine (limCheck_any tenant ss A2 n1 c2 w2.heap.size se L P ha w2 ht ho.rd HN.out (Nat.le_refl _) hok).mono ?_
  rintro e w3 ⟨rfl, hb3⟩
  have hbw3 : Below w.heap.size w w3 := hbw2.trans (hb3.mono (by omega))
  have hS := Lib.hid (sameSamples_any ss ss A2 A1 n1 n1 c2 c1 w2.heap.size B1 w3 (ho.rd.below hb3) (h1.below (hbw3.mono hB)) HN.out HN.out hm2 hm2)
  rw [decide_eq_true rfl] at hS
  clear d0 d1 d2 d3
  go_wp2_with (first
    | (go_at_call 9; refine hS.out.mono ?_; rintro e w' ⟨rfl, m, hm⟩; subst hm)
    | (go_at_call 10; refine ((hT1 _).out).mono ?_; rintro e w' ⟨rfl, rfl⟩)
    | (go_at_call 11; refine ((hT2 _).out).mono ?_; rintro e w' ⟨rfl, rfl⟩)
    | (go_at_call 12; refine ((hN1 _).out).mono ?_; rintro e w' ⟨rfl, rfl⟩)
    | (go_at_call 13; refine ((hN2 _).out).mono ?_; rintro e w' ⟨rfl, rfl⟩)
    | (go_at_call 14; refine ((hA _).out).mono ?_; rintro e w4 ⟨rfl, hb4⟩))
  go_ret
  exact ⟨by simp, (below_drewN hbw3 m).trans (hb4.mono (by have := hbw3.size; simp; omega))⟩

theorem normal_nan : normalN nanBits = nanBits := by decide +kernel
set_option maxRecDepth 100000 in
set_option maxHeartbeats 2000000 in
theorem limitsNormal_any (v : Int) (w : World) (hv0 : 0 ≤ v) (hv1 : v < 18446744073709551616) :
    Calls Try.prog 5 #[.int .u64 v] w fun e w' => e = .returned (.bool true) ∧ Below w.heap.size w w' := by
  have hN := fun (x : Int) (W : World) => Lib.hid (normal_any x W)
  have hA := fun (W : World) => Lib.hid (limAwake_any W)
  have HT := Lib.hid (nan_tests v hv0 hv1)
  have HN : Hid (normalN v = if nanN v.toNat = true ∧ v ≠ stale then nanBits else v) := rfl
  by_cases hs : v = stale
  · have hst : (v == (9218868437227405314 : Int)) = true := by rw [hs]; rfl
    have hst2 : (v != (9218868437227405314 : Int)) = false := by rw [hs]; rfl
    have HV : normalN v = v := by rw [HN.out, if_neg (fun h => h.2 hs)]
    have hN1 := fun (W : World) => Lib.hid (normal_any v W)
    rw [HV] at hN1
    clear hs HV HT HN hN
    cases e1 : (bits .and .u64 (v / 4503599627370496) 2047 == 2047) <;> cases e2 : (IntKind.u64.wrap (v * 4096) != 0)
    all_goals
      go_enter Try.func5, Try.ntmps5
      go_wp2_with (first
        | (go_at_call 12; refine ((hN1 _).out).mono ?_; rintro e w' ⟨rfl, rfl⟩)
        | (go_at_call 14; refine ((hA _).out).mono ?_; rintro e w4 ⟨rfl, hb4⟩))
      go_ret
      exact ⟨by simp, hb4⟩
  · have hst : (v == (9218868437227405314 : Int)) = false := by rw [beq_eq_false_iff_ne]; exact hs
    have hst2 : (v != (9218868437227405314 : Int)) = true := by rw [bne_iff_ne]; exact hs
    cases e1 : (bits .and .u64 (v / 4503599627370496) 2047 == 2047) <;> cases e2 : (IntKind.u64.wrap (v * 4096) != 0)
    case neg.true.true =>
      have HV : normalN v = nanBits := by rw [HN.out, HT.out, e1, e2, if_pos ⟨rfl, hs⟩]
      have hN1 := fun (W : World) => Lib.hid (normal_any v W)
      rw [HV] at hN1
      have hN2 := fun (W : World) => Lib.hid (normal_any nanBits W)
      rw [normal_nan] at hN2
      clear hs HV HT HN hN
      unfold nanBits at hN1 hN2
      go_enter Try.func5, Try.ntmps5
      go_wp2_with fail
      refine ((hN1 _).out).mono ?_
      rintro e w' ⟨rfl, rfl⟩
      go_wp2_with (first
        | (go_at_call 12; refine ((hN2 _).out).mono ?_; rintro e w' ⟨rfl, rfl⟩)
        | (go_at_call 14; refine ((hA _).out).mono ?_; rintro e w4 ⟨rfl, hb4⟩))
      all_goals (go_ret; exact ⟨by simp, hb4⟩)
    all_goals
      have HV : normalN v = v := by rw [HN.out, HT.out, e1, e2]; simp
      have hN1 := fun (W : World) => Lib.hid (normal_any v W)
      rw [HV] at hN1
      clear hs HV HT HN hN
      go_enter Try.func5, Try.ntmps5
      go_wp2_with (first
        | (go_at_call 12; refine ((hN1 _).out).mono ?_; rintro e w' ⟨rfl, rfl⟩)
        | (go_at_call 14; refine ((hA _).out).mono ?_; rintro e w4 ⟨rfl, hb4⟩))
      go_ret
      exact ⟨by simp, hb4⟩
end Go.Proofs.Ytpoefknaaohmhaa
