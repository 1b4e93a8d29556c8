/- ParseRows: without brackets a tighter operation goes first, and of one row the left one. -/
import Derived.Test.YtdikmklijpcjdaaParA
import Derived.Test.YtdikmklijpcjdaaPRows
import Derived.Test.YtdikmklijpcjdaaLow
namespace Go.Proofs.Ytdikmklijpcjdaa
open Go.RowKit

def rowR (op : Int) : Int := if op = 12 then 1 else if op = 11 ∨ op = 13 then 2 else if 5 ≤ op ∧ op ≤ 10 then 3 else if op = 1 ∨ op = 2 then 4 else 5
theorem rowR_k : ((List.range 13).all fun i => decide (rowR ((i : Int) + 1) = rowK ((i : Int) + 1) + 1)) = true := by kernel_rfl
set_option maxHeartbeats 1000000 in
theorem rowR_any (op : Int) (w : World) : Calls Try.prog 19 #[.int .i64 op] w fun e w' => e = .returned (.int .i64 (rowR op)) ∧ w = w' := by
  have HT : Hid (rowR op = if op = 12 then 1 else if op = 11 ∨ op = 13 then 2 else if 5 ≤ op ∧ op ≤ 10 then 3 else if op = 1 ∨ op = 2 then 4 else 5) := rfl
  generalize rowR op = r at *
  have h12 : (op == 12) = decide (op = 12) := rfl
  have h11 : (op == 11) = decide (op = 11) := rfl
  have h13 : (op == 13) = decide (op = 13) := rfl
  have h1 : (op == 1) = decide (op = 1) := rfl
  have h2 : (op == 2) = decide (op = 2) := rfl
  go_enter Try.func19, Try.ntmps19
  by_cases c12 : op = 12
  · subst c12
    go_wp2; go_ret
    exact ⟨ret_int HT.out.symm, rfl⟩
  by_cases c11 : op = 11
  · subst c11
    go_wp2; go_ret
    exact ⟨ret_int HT.out.symm, rfl⟩
  by_cases c13 : op = 13
  · subst c13
    go_wp2; go_ret
    exact ⟨ret_int HT.out.symm, rfl⟩
  by_cases c1 : op = 1
  · subst c1
    go_wp2; go_ret
    exact ⟨ret_int HT.out.symm, rfl⟩
  by_cases c2 : op = 2
  · subst c2
    go_wp2; go_ret
    exact ⟨ret_int HT.out.symm, rfl⟩
  rw [decide_eq_false c12] at h12
  rw [decide_eq_false c11] at h11
  rw [decide_eq_false c13] at h13
  rw [decide_eq_false c1] at h1
  rw [decide_eq_false c2] at h2
  have HT := HT.out
  rw [if_neg c12, if_neg (by omega)] at HT
  by_cases c5 : 5 ≤ op
  · by_cases c10 : op ≤ 10
    · rw [if_pos ⟨c5, c10⟩] at HT
      subst HT
      clear c12 c11 c13 c1 c2
      go_wp2; go_ret
      exact ⟨rfl, rfl⟩
    · rw [if_neg (by omega), if_neg (by omega)] at HT
      subst HT
      clear c12 c11 c13 c1 c2
      go_wp2; go_ret
      exact ⟨rfl, rfl⟩
  · rw [if_neg (by omega), if_neg (by omega)] at HT
    subst HT
    clear c12 c11 c13 c1 c2
    go_wp2; go_ret
    exact ⟨rfl, rfl⟩
/-- The operations' words, without the first, that is none. -/
def opsR : List ByteArray := opsL.drop 1
set_option maxHeartbeats 1000000 in
theorem opsR_any (w : World) : Calls Try.prog 17 #[] w (WordsOut opsR 13 w) := by
  go_enter Try.func17, Try.ntmps17
  go_wp2_with fail
  go_ret
  exact ⟨rfl, Rd.new w (textsC_sz _) _ rfl, (Below.refl _ _).alloc (Nat.le_refl _) _⟩
theorem opsR_at : ∀ i, i < 13 → ∃ x, opsR[i]? = some x ∧ x.size ≤ 6 ∧ opsL.getD (i + 1) ByteArray.empty = x := by
  have h : ((List.range 13).all fun i => decide (opsR[i]? = some (opsL.getD (i + 1) ByteArray.empty)) && decide ((opsL.getD (i + 1) ByteArray.empty).size ≤ 6)) = true := by kernel_rfl
  intro i hi
  have h := List.all_eq_true.1 h i (List.mem_range.2 hi)
  rw [Bool.and_eq_true] at h
  exact ⟨_, of_decide_eq_true h.1, of_decide_eq_true h.2, rfl⟩
theorem two_new' (w : World) (c d : List Value) (e : TypeId) : Blk (((w.alloc (.cells c.toArray e)).alloc (.cells d.toArray e)).drew) w.heap.size e c ∧ Blk (((w.alloc (.cells c.toArray e)).alloc (.cells d.toArray e)).drew) (w.heap.size + 1) e d ∧ Below w.heap.size w (((w.alloc (.cells c.toArray e)).alloc (.cells d.toArray e)).drew) := by
  have h1 := (Blk.new w e c).alloc (.cells d.toArray e)
  have h2 := Blk.new (w.alloc (.cells c.toArray e)) e d
  rw [World.size_alloc] at h2
  exact ⟨h1, h2, (((Below.refl w.heap.size w).alloc (Nat.le_refl _) _).alloc (by simp) _).drew⟩
/-- The words newly made: two of them, and how far memory goes. -/
theorem opsR_two {i k : Nat} {x y : ByteArray} (hx : opsR[i]? = some x) (hy : opsR[k]? = some y) (w : World) : Calls Try.prog 17 #[] w fun e w' => e = .returned (.slice (some ⟨w.heap.size, 0, none⟩) 13 13) ∧
    w'.cell? ⟨w.heap.size, i, none⟩ = some (.string x) ∧ w'.cell? ⟨w.heap.size, k, none⟩ = some (.string y) ∧ w.heap.size < w'.heap.size ∧ Below w.heap.size w w' := by
  refine (opsR_any w).mono ?_
  rintro e w' ⟨rfl, hr, hb⟩
  obtain ⟨b, o, e1, _, c1⟩ := hr.at1 (textsC_at hx)
  obtain ⟨b2, o2, e2, _, c2⟩ := hr.at1 (textsC_at hy)
  injection e1 with e1
  injection e1 with e3 e4
  injection e2 with e2
  injection e2 with e5 e6
  subst e3 e4 e5 e6
  rw [Nat.zero_add] at c1 c2
  exact ⟨rfl, c1, c2, rd_size (l := opsR) rfl hr, hb⟩
theorem tmod_low {x : Int} (h : 0 ≤ x) : ∃ i : Nat, i < 13 ∧ x.tmod 13 = i := by
  refine ⟨(x % 13).toNat, by omega, ?_⟩
  rw [Int.tmod_eq_emod_of_nonneg h]
  omega
set_option maxRecDepth 100000 in
set_option maxHeartbeats 4000000 in
theorem parseRows_any (p q : Int) (w : World) : Calls Try.prog 7 #[.int .i64 p, .int .i64 q] w fun e w' => e = .returned (.bool true) ∧ Below w.heap.size w w' := by
  obtain ⟨i, hi, hi2⟩ := tmod_low (lowI_nn p).1
  obtain ⟨k, hk, hk2⟩ := tmod_low (lowI_nn q).1
  obtain ⟨x, hx, hxs, hxe⟩ := opsR_at i hi
  obtain ⟨y, hy, hys, hye⟩ := opsR_at k hk
  have HA := Lib.hid (low_any p w)
  have HB := Lib.hid (low_any q w)
  have HC := Lib.hid (opsR_two hx hy)
  obtain ⟨na, nb, n2, n3, n4, hpr, hrow⟩ := three_told hi hk
  have hthr : threeB i k = (⟨#[97, 32]⟩ : ByteArray) ++ x ++ ⟨#[32, 98, 32]⟩ ++ y ++ ⟨#[32, 99]⟩ := by rw [threeB, hxe, hye]
  have hthz : ((⟨#[97, 32]⟩ : ByteArray) ++ x ++ ⟨#[32, 98, 32]⟩ ++ y ++ ⟨#[32, 99]⟩).size ≤ maxLen := by
    simp only [ByteArray.size_append, maxLen]
    have z1 : (⟨#[97, 32]⟩ : ByteArray).size = 2 := rfl
    have z2 : (⟨#[32, 98, 32]⟩ : ByteArray).size = 3 := rfl
    have z3 : (⟨#[32, 99]⟩ : ByteArray).size = 2 := rfl
    omega
  have HP := fun (W : World) => Lib.hid (parse_any _ W hthz (fun _ _ h => lexR_err h))
  rw [← hthr] at HP
  generalize (parseR (threeB i k)).2.1 = at_ at hpr
  rw [hpr, hthr] at HP
  have hrI := List.all_eq_true.1 rowR_k i (List.mem_range.2 hi)
  have hrK := List.all_eq_true.1 rowR_k k (List.mem_range.2 hk)
  simp only [decide_eq_true_eq] at hrI hrK
  have HR := fun (op : Int) (W : World) => Lib.hid (rowR_any op W)
  have HRow := Lib.hid hrow
  generalize rowK ((i : Int) + 1) = ri at *
  generalize rowK ((k : Int) + 1) = rk at *
  clear hpr hthr hthz hxe hye hrow
  have hiI : (0 : Int) ≤ (i : Int) := by omega
  have hiJ : (i : Int) < 13 := by omega
  have hkI : (0 : Int) ≤ (k : Int) := by omega
  have hkJ : (k : Int) < 13 := by omega
  have hz1 : ¬ 9223372036854775807 < 2 + x.size := by omega
  have hz2 : ¬ 9223372036854775807 < 2 + x.size + 3 := by omega
  have hz3 : ¬ 9223372036854775807 < 2 + x.size + 3 + y.size := by omega
  have hz4 : ¬ 9223372036854775807 < 2 + x.size + 3 + y.size + 2 := by omega
  go_enter Try.func7, Try.ntmps7
  go_wp2_with fail
  refine (HA.out).mono ?_
  rintro e w1 ⟨rfl, rfl⟩
  go_wp2_with fail
  refine (HB.out).mono ?_
  rintro e w1 ⟨rfl, rfl⟩
  go_upto_region 2 with fail
  clear HA HB hi2 hk2
  go_cut [7, 8, 9] (fun v7 v8 v9 wx => ∃ A c, v7 = .slice A 5 c ∧ v8 = .int .i64 at_ ∧ v9 = .int .i64 0 ∧ OwnNods wx w.heap.size A 5 c [na, nb, n2, n3, n4] ∧ Below w.heap.size w wx)
  case first =>
    go_wp2_with fail
    go_region_with ((first
      | (go_at_call 17; refine (HC.out _).mono ?_; rintro e4 w4 ⟨rfl, a4, b4, s4, hb4⟩; have a4 : w4.cell? ⟨w3.heap.size, i, none⟩ = some (.string x) := a4; have b4 : w4.cell? ⟨w3.heap.size, k, none⟩ = some (.string y) := b4; have a5 := (hb4.cell (p := ⟨w.heap.size, i, none⟩) s3).trans a3; have b5 := (hb4.cell (p := ⟨w.heap.size, k, none⟩) s3).trans b3)
      | (go_at_call 17; refine (HC.out _).mono ?_; rintro e3 w3 ⟨rfl, a3, b3, s3, hb3⟩; have a3 : w3.cell? ⟨w.heap.size, i, none⟩ = some (.string x) := a3; have b3 : w3.cell? ⟨w.heap.size, k, none⟩ = some (.string y) := b3)
      | (go_at_call 10; refine ((HP _).out).mono ?_; rintro e5 w5 ⟨⟨A, c, h1, hO⟩, hb5⟩; have h1 : e5 = .returned (.tuple #[.slice A 5 c, .int .i64 at_, .int .i64 0]) := h1; subst h1)))
    all_goals
      clear a3 b3 a4 b4 a5 b5
      have hs5 : w.heap.size ≤ w4.heap.size := by have : w.drew.heap.size = w.heap.size := rfl; omega
      have HB := ((((Below.refl w.heap.size w).drew).trans hb3).trans (hb4.mono (by have : w.drew.heap.size = w.heap.size := rfl; omega))).trans (hb5.mono hs5)
      go_wp2_with fail
      go_meet
      exact ⟨A, c, rfl, rfl, rfl, hO.lower hs5, HB⟩
  case rest =>
    clear HP HC
    obtain ⟨A, c, rfl, rfl, rfl, hO, hb⟩ := hcut
    generalize wc = W0 at *
    have hr := hO.rd
    obtain ⟨b, o, Am, cm, An, cn, e1, hbb, p0, p1, p2, p3, p4, p5, p6, p7, p8, p9, _⟩ := hr.at_ (k := 2) rfl
    subst e1
    obtain ⟨b2, o2, Bm, dm, Bn, dn, e1, _, q0, q1, q2, q3, q4, q5, q6, q7, q8, q9, _⟩ := hr.at_ (k := 4) rfl
    injection e1 with e1
    injection e1 with e1 e2
    subst e1 e2
    obtain ⟨b2, o2, Cm, em, Cn, en, e1, _, r0, r1, r2, r3, r4, r5, r6, r7, r8, r9, _⟩ := hr.at_ (k := 3) rfl
    injection e1 with e1
    injection e1 with e1 e2
    subst e1 e2
    clear hr hO
    have hsz := hb.size
    have HB := Lib.hid hb
    clear hb
    go_upto_region 5 with fail
    go_cut [10, 11] (fun v10 v11 wx => ∃ f g, v10 = .pointer (some ⟨f, 0, none⟩) ∧ v11 = .pointer (some ⟨g, 0, none⟩) ∧ f ≠ g ∧ W0.heap.size ≤ f ∧ W0.heap.size ≤ g ∧ Blk wx f 37 (nodC n2 Am cm An cn) ∧ Blk wx g 37 (nodC n4 Bm dm Bn dn) ∧ Below W0.heap.size W0 wx)
    case first =>
      go_wp2_with fail
      go_region
      all_goals go_wp2_with fail
      all_goals go_meet
      · obtain ⟨k1, k2, k3⟩ := two_new' W0 (nodC n2 Am cm An cn) (nodC n4 Bm dm Bn dn) 37
        exact ⟨_, _, rfl, rfl, by omega, by omega, by omega, k1, k2, k3⟩
      · obtain ⟨k1, k2, k3⟩ := two_new' W0 (nodC n4 Bm dm Bn dn) (nodC n2 Am cm An cn) 37
        exact ⟨_, _, rfl, rfl, by omega, by omega, by omega, k2, k1, k3⟩
    case rest =>
      obtain ⟨f, g, rfl, rfl, hfg, hwf, hwg, bF, bG, hbx⟩ := hcut
      have x2 := (hbx.cell (p := ⟨b, o + 20, none⟩) hbb).trans p0
      have y0 := (hbx.cell (p := ⟨b, o + 30, none⟩) hbb).trans r0
      have y1 := (hbx.cell (p := ⟨b, o + 30 + 1, none⟩) hbb).trans r1
      have y2 := (hbx.cell (p := ⟨b, o + 30 + 2, none⟩) hbb).trans r2
      have y3 := (hbx.cell (p := ⟨b, o + 30 + 3, none⟩) hbb).trans r3
      have y4 := (hbx.cell (p := ⟨b, o + 30 + 4, none⟩) hbb).trans r4
      have y5 := (hbx.cell (p := ⟨b, o + 30 + 5, none⟩) hbb).trans r5
      have y6 := (hbx.cell (p := ⟨b, o + 30 + 6, none⟩) hbb).trans r6
      have y7 := (hbx.cell (p := ⟨b, o + 30 + 7, none⟩) hbb).trans r7
      have y8 := (hbx.cell (p := ⟨b, o + 30 + 8, none⟩) hbb).trans r8
      have y9 := (hbx.cell (p := ⟨b, o + 30 + 9, none⟩) hbb).trans r9
      have p0' := p0
      have r0' := r0
      clear p0 p1 p2 p3 p4 p5 p6 p7 p8 p9 q0 q1 q2 q3 q4 q5 q6 q7 q8 q9 r0 r1 r2 r3 r4 r5 r6 r7 r8 r9
      have BX := Lib.hid hbx
      have g1 := bG.cell (j := 1) rfl
      have f0 := bF.cell (j := 0) rfl
      have f1 := bF.cell (j := 1) rfl
      have f2 := bF.cell (j := 2) rfl
      have f3 := bF.cell (j := 3) rfl
      have f4 := bF.cell (j := 4) rfl
      have f5 := bF.cell (j := 5) rfl
      have f6 := bF.cell (j := 6) rfl
      have f7 := bF.cell (j := 7) rfl
      have f8 := bF.cell (j := 8) rfl
      have f9 := bF.cell (j := 9) rfl
      have BF := Lib.hid bF
      have BG := Lib.hid bG
      have fF := bF.frozen
      clear hbx bF bG
      rcases HRow.out with ⟨h1, h2, h3, h4⟩ | ⟨h1, h2, h3, h4⟩
      · have hgt : ri + 1 < rk + 1 := by omega
        have hgtb : decide (rk + 1 > ri + 1) = true := decide_eq_true hgt
        clear h1 HRow
        go_upto_region 7 with (go_at_call 19; refine ((HR _ _).out).mono ?_; rintro e w7 ⟨rfl, rfl⟩)
        go_upto_region 8 with fail
        generalize hW : World.setCell _ _ _ = W7
        have hN7 : Blk W7 f 37 (nodC n3 Cm em Cn en) ∧ Blk W7 g 37 (nodC n4 Bm dm Bn dn) ∧ Below W0.heap.size W0 W7 := by
          rw [← hW, ← h2]
          exact ⟨((((((((((BF.out.set 0 _).set 1 _).set 2 _).set 3 _).set 4 _).set 5 _).set 6 _).set 7 _).set 8 _).set 9 _), ((((((((((BG.out.other (a := ⟨f, 0, none⟩) (Ne.symm hfg) _).other (a := ⟨f, 1, none⟩) (Ne.symm hfg) _).other (a := ⟨f, 2, none⟩) (Ne.symm hfg) _).other (a := ⟨f, 3, none⟩) (Ne.symm hfg) _).other (a := ⟨f, 4, none⟩) (Ne.symm hfg) _).other (a := ⟨f, 5, none⟩) (Ne.symm hfg) _).other (a := ⟨f, 6, none⟩) (Ne.symm hfg) _).other (a := ⟨f, 7, none⟩) (Ne.symm hfg) _).other (a := ⟨f, 8, none⟩) (Ne.symm hfg) _).other (a := ⟨f, 9, none⟩) (Ne.symm hfg) _), ((((((((((BX.out.setCell (p := ⟨f, 0, none⟩) hwf _).setCell (p := ⟨f, 1, none⟩) hwf _).setCell (p := ⟨f, 2, none⟩) hwf _).setCell (p := ⟨f, 3, none⟩) hwf _).setCell (p := ⟨f, 4, none⟩) hwf _).setCell (p := ⟨f, 5, none⟩) hwf _).setCell (p := ⟨f, 6, none⟩) hwf _).setCell (p := ⟨f, 7, none⟩) hwf _).setCell (p := ⟨f, 8, none⟩) hwf _).setCell (p := ⟨f, 9, none⟩) hwf _)⟩
        obtain ⟨kF, kG, kX⟩ := hN7
        have x2' := (kX.cell (p := ⟨b, o + 20, none⟩) hbb).trans p0'
        have f1' := kF.cell (j := 1) rfl
        have g1' := kG.cell (j := 1) rfl
        have HB2 := Lib.hid (HB.out.trans (kX.mono hsz))
        clear hW x2 y0 y1 y2 y3 y4 y5 y6 y7 y8 y9 f0 f1 f2 f3 f4 f5 f6 f7 f8 f9 g1 fF BF BG BX kF kG kX
        go_wp2_with (first | (go_at_call 19; refine ((HR _ _).out).mono ?_; rintro e w7 ⟨rfl, rfl⟩) | (go_at_call 13; refine (pawake_any _).mono ?_; rintro e w9 ⟨rfl, hb9⟩))
        go_ret
        exact ⟨rfl, HB2.out.trans (hb9.mono HB2.out.size)⟩
      · have hgt : ¬ ri + 1 < rk + 1 := by omega
        have HB2 := Lib.hid (HB.out.trans (BX.out.mono hsz))
        have z0 := (BX.out.cell (p := ⟨b, o + 30, none⟩) hbb).trans r0'
        clear h1 HRow y0 y1 y2 y3 y4 y5 y6 y7 y8 y9 f0 f2 f3 f4 f5 f6 f7 f8 f9 fF BF BG BX
        go_wp2_with (first | (go_at_call 19; refine ((HR _ _).out).mono ?_; rintro e w7 ⟨rfl, rfl⟩) | (go_at_call 13; refine (pawake_any _).mono ?_; rintro e w9 ⟨rfl, hb9⟩))
        go_ret
        exact ⟨rfl, HB2.out.trans (hb9.mono HB2.out.size)⟩
end Go.Proofs.Ytdikmklijpcjdaa
