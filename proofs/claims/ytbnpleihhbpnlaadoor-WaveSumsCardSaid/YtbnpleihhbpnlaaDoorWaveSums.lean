/- WaveSums: a spectrum's first part is the floats' sum; Parseval's sum, and mirrors, within a rounding. -/
import Derived.Test.YtbnpleihhbpnlaaDoorSumsP
import Derived.Test.YtbnpleihhbpnlaaDoorWavW
import Derived.Test.YtbnpleihhbpnlaaDoorBlk
import Derived.Test.YtbnpleihhbpnlaaDoorOpenInts
namespace Go.Proofs.YtbnpleihhbpnlaaDoor
open Go.RowKit

/-- The words so far, in new memory. -/
def WrdAt (f : Nat → Int) (w : World) (k : Nat) (v : Value) (w' : World) : Prop := ∃ A c, v = .slice A k c ∧ Own w' w.heap.size 26 1 A k c (wrdC (wX f k)) ∧ Below w.heap.size w w'
set_option maxRecDepth 100000 in
set_option maxHeartbeats 4000000 in
theorem waveSums_any (ws : List Int) (A : Option Addr) (m c B : Nat) (sz : Int) (w : World) (hF : FloatMem w) (hr : Rd w B 1 A (intC ws)) (hl : ws.length = m) (hm : m ≤ maxLen) (hB : B ≤ w.heap.size) (_ : -9223372036854775808 ≤ sz ∧ sz < 9223372036854775808) :
    Calls Tryd.prog 3 #[.slice A m c, .int .i64 sz] w fun e w' => e = .returned (.bool true) ∧ Below w.heap.size w w' := by
  unfold maxLen at hm
  obtain ⟨i, n, hi, hi4, hn4, hn⟩ := size_of sz
  have h8 := size_le hn
  have hiI : (i : Int) < 4 := by omega
  have HLow := fun W => Lib.hid (low_any sz W)
  have hc0 : (w.alloc (.cells #[.int .i64 1, .int .i64 2, .int .i64 4, .int .i64 8] 3)).cell? ⟨w.heap.size, i, none⟩ = some (.int .i64 n) :=
    (Blk.new w 3 [.int .i64 1, .int .i64 2, .int .i64 4, .int .i64 8]).cell (by
      have := congrArg (Option.map (fun z => Value.int .i64 z)) hn4
      rw [← List.getElem?_map] at this
      exact this)
  have HS := Lib.hid (sums_of ws hn)
  have HF := Lib.hid hF
  have Hr := Lib.hid hr
  have Hl := Lib.hid hl
  have Hn := Lib.hid hn
  generalize lowI sz = L at *
  have hfc := fltI_eq
  have htb := tobits
  have hfb := frombits
  clear hF hr hl hn hn4
  go_enter Tryd.func3, Tryd.ntmps3
  go_wp2_with (go_at_call 7; refine ((HLow _).out).mono ?_; rintro e w' ⟨rfl, rfl⟩)
  clear hc0
  go_loopw [9, 6, 7, 8] (fun i v s q wr => ∃ k : Nat, i = .int .i64 k ∧ k ≤ n ∧ s = .float .f64 (sumF (fun i => fltI (wkI ws i)) k) ∧ q = .float .f64 (sqF (fun i => fltI (wkI ws i)) k) ∧ Hid (WrdAt (wkI ws) w k v wr)) (fun i _ _ _ _ => n - (intOf i).toNat)
  case atStart => exact ⟨0, rfl, by omega, rfl, rfl, none, 0, rfl, Own.nil_ (by omega), (Below.refl _ _).alloc (Nat.le_refl _) _⟩
  case round =>
    obtain ⟨k, rfl, hk, rfl, rfl, HW⟩ := hrel
    obtain ⟨A2, c2, rfl, ho, hb⟩ := HW.out
    by_cases hlt : k < n
    · have hltI : (k : Int) < (n : Int) := by omega
      have n1 := HS.out.sum (k + 1) (by omega)
      have n2 := HS.out.sq (k + 1) (by omega)
      have r1 := fun t W => run_num (P := Tryd.prog) (op := .add) (x := sumF (fun i => fltI (wkI ws i)) k) (y := fltI (wkI ws k)) n1 t W
      have r3 := fun t W => run_num (P := Tryd.prog) (op := .add) (x := sqF (fun i => fltI (wkI ws i)) k) (y := opF .mul (fltI (wkI ws k)) (fltI (wkI ws k))) n2 t W
      have r2 := fun t W => run_num (P := Tryd.prog) (op := .mul) (x := fltI (wkI ws k)) (y := fltI (wkI ws k)) (num_args (op := .add) n2).2 t W
      have e1 : opF .add (sumF (fun i => fltI (wkI ws i)) k) (fltI (wkI ws k)) = sumF (fun i => fltI (wkI ws i)) (k + 1) := rfl
      have e3 : opF .add (sqF (fun i => fltI (wkI ws i)) k) (opF .mul (fltI (wkI ws k)) (fltI (wkI ws k))) = sqF (fun i => fltI (wkI ws i)) (k + 1) := rfl
      rw [e1] at r1
      rw [e3] at r3
      have HOw := Lib.hid ho
      have Hb := Lib.hid hb
      have hcase : (∃ z b0 o0, k < m ∧ A = some ⟨b0, o0, none⟩ ∧ wr.cell? ⟨b0, o0 + k, none⟩ = some (.int .i64 z) ∧ Int.tmod z 1000 = wkI ws k) ∨ (¬ k < m ∧ (0 : Int) = wkI ws k) := by
        by_cases hkm : k < m
        · left
          obtain ⟨z, hz⟩ := get_lt Hl hkm
          obtain ⟨b0, o0, hA, _, hcell⟩ := ((Hr.out).below (hb.mono hB)).at1 (intC_at hz)
          exact ⟨z, b0, o0, hkm, hA, hcell, (wkI_at hz).symm⟩
        · right; exact ⟨hkm, (wkI_no (by rw [Hl.out]; exact hkm)).symm⟩
      clear n1 n2 e1 e3 ho hb HW
      generalize hs0 : sumF (fun i => fltI (wkI ws i)) k = s0 at *
      generalize hs1 : sumF (fun i => fltI (wkI ws i)) (k + 1) = s1 at *
      generalize hq0 : sqF (fun i => fltI (wkI ws i)) k = q0 at *
      generalize hq1 : sqF (fun i => fltI (wkI ws i)) (k + 1) = q1 at *
      have Hs1 := Lib.hid hs1
      have Hq1 := Lib.hid hq1
      clear hs0 hs1 hq0 hq1
      rcases hcase with ⟨z, b0, o0, hkm, rfl, hcell, hz⟩ | ⟨hkm, hz⟩
      · have hkmI : (k : Int) < (m : Int) := by omega
        go_wp2_with (first
          | (at_builtin; (refine wpList_append_ex _ rfl (.tmp 45) (.tmp 48) _ rfl eiU64 rfl (HOw.out.alloc _) rfl (Rd.new (xs := wrdC [fltI (wkI ws k)]) wr (wrdC_all _) _ rfl) rfl (wrdC_one _) (by simp only [maxLen]; omega) (by omega) (by have := Hb.out.size; simp; omega) ?_; intro A3 c3 w3 ho3 hg3 hat3 hb3))
          | simp only [r1, r2, r3, hfc])
        go_roundw
        case rel => exact ⟨k + 1, by go_num, by omega, by rw [Hs1.out], by rw [Hq1.out], A3, c3, rfl, by rw [wX_add, wrdC_append]; exact ho3, Hb.out.trans (((Below.refl _ _).alloc Hb.out.size _).trans hb3)⟩
        case measure => simp [intOf]; omega
      · have hkmI : ¬ (k : Int) < (m : Int) := by omega
        have r0 : (Value.int .i64 0) = .int .i64 (wkI ws k) := by rw [hz]
        rw [← hz] at r1 r2 r3
        have HOz := Lib.hid hz
        clear hz r0
        go_wp2_with (first
          | (at_builtin; (refine wpList_append_ex _ rfl (.tmp 45) (.tmp 48) _ rfl eiU64 rfl (HOw.out.alloc _) rfl (Rd.new (xs := wrdC [fltI 0]) wr (wrdC_all _) _ rfl) rfl (wrdC_one _) (by simp only [maxLen]; omega) (by omega) (by have := Hb.out.size; simp; omega) ?_; intro A3 c3 w3 ho3 hg3 hat3 hb3))
          | simp only [r1, r2, r3, hfc])
        go_roundw
        case rel => exact ⟨k + 1, by go_num, by omega, by rw [Hs1.out], by rw [Hq1.out], A3, c3, rfl, by rw [wX_add, wrdC_append, ← HOz.out]; exact ho3, Hb.out.trans (((Below.refl _ _).alloc Hb.out.size _).trans hb3)⟩
        case measure => simp [intOf]; omega
    · have hkn : k = n := by omega
      subst hkn
      clear hlt hk HW
      have h0 : 0 < k := by rcases Hn.out with rfl | rfl | rfl | rfl <;> decide
      have HSp := Lib.hid (spectrum_any (wX (wkI ws) k) A2 k c2 wr.heap.size wr Hn.out (wX_len _ _) ho.rd (Nat.le_refl _))
      have HRd := Lib.hid ho.rd
      have Hb := Lib.hid hb
      clear ho hb
      go_upto_region 15 with ((go_at_call 9; refine (HSp.out).mono ?_; rintro e w2 ⟨A3, c3, A4, c4, rfl, hT⟩))
      have hb2 : Below wr.heap.size wr w2 := hT.2.2.2
      have HPw := Lib.hid (power_any (wX (wkI ws) k) A2 k c2 wr.heap.size w2 Hn.out (wX_len _ _) (HRd.out.below hb2) hb2.size)
      have HT := Lib.hid hT
      clear HSp hT hb2
      go_upto_region 16 with ((go_at_call 10; refine (HPw.out).mono ?_; rintro e w3 ⟨rfl, hb3⟩))
      have hT3 := HT.out.after hb3
      have hb4 := Hb.out.trans (hT3.2.2.2.mono Hb.out.size)
      obtain ⟨b1, o1, rfl, _, hre⟩ := rd_cells hT3.1.rd (by rw [specR_len]; exact h0)
      obtain ⟨b2, o2, rfl, _, him⟩ := rd_cells hT3.2.1.rd (by rw [specI_len]; exact h0)
      replace hre := Lib.hid (fun j hj => hre j _ (spec_at HS.out.small (j := j) hj).1)
      replace him := Lib.hid (fun j hj => him j _ (spec_at HS.out.small (j := j) hj).2)
      have HG := Lib.hid (sums_g HS.out)
      have HA := fun d => Lib.hid (awake_any (w3.drewN d) ((HF.out.below hb4).drewN d))
      have Hb4 := Lib.hid hb4
      clear HT hT3 hb3 hb4 Hb HRd HPw HS
      generalize lineR (xg (wX (wkI ws) k)) k = R at *
      generalize lineI (xg (wX (wkI ws) k)) k = I at *
      generalize sumF (fun i => fltI (wkI ws i)) k = S at *
      generalize sqF (fun i => fltI (wkI ws i)) k = Q at *
      generalize powerV (wX (wkI ws) k) k = p at *
      have c0 := hre.out 0 h0
      have c1 := him.out 0 h0
      have e0 := HG.out.first
      have e1 := HG.out.zero
      have h0I : (0 : Int) < (k : Int) := by omega
      rw [Nat.add_zero] at c0 c1
      go_wp2_with fail
      clear c0 c1 e0 e1
      have hab := fun x (hx : x < 18446744073709551616) W => Lib.hid (absM_any x W hx)
      go_loopw [18, 17] (fun i v wx => ∃ j q : Nat, i = .int .i64 j ∧ j ≤ k ∧ v = .float .f64 (allF R I j) ∧ wx = w3.drewN q) (fun i _ _ => k - (intOf i).toNat)
      case atStart => exact ⟨0, 0, rfl, by omega, rfl, rfl⟩
      case round =>
        obtain ⟨j, q, rfl, hj, rfl, rfl⟩ := hrel
        by_cases hlt : j < k
        · have hltI : (j : Int) < (k : Int) := by omega
          obtain ⟨jj, hjj⟩ : ∃ jj, (k - j) % k = jj := ⟨_, rfl⟩
          have hjk : jj < k := by rw [← hjj]; exact Nat.mod_lt _ h0
          have hjkI : (jj : Int) < (k : Int) := by omega
          have ht1 : IntKind.i64.wrap ((k : Int) - (j : Int)) = (k : Int) - (j : Int) := by rw [IntKind.wrap_i64]; omega
          have ht2 : Int.tmod ((k : Int) - (j : Int)) (k : Int) = (jj : Int) := by
            rw [← hjj, show (k : Int) - (j : Int) = ((k - j : Nat) : Int) from by omega, Int.ofNat_tmod]
          have hk0 : ¬ (k : Int) = 0 := by omega
          have hk1 : ¬ k = 0 := by omega
          have hj1 : IntKind.i64.wrap ((j : Int) + 1) = ((j + 1 : Nat) : Int) := by rw [IntKind.wrap_i64]; omega
          have c0 := hre.out j hlt
          have c1 := him.out j hlt
          have c2 := hre.out jj hjk
          have c3 := him.out jj hjk
          have g1 := HG.out.subm j hlt
          have g2 := HG.out.addm j hlt
          rw [hjj] at g1 g2
          have hall : opF .add (opF .add (allF R I j) (opF .mul (R j) (R j))) (opF .mul (I j) (I j)) = allF R I (j + 1) := rfl
          have v1 := HG.out.alln (j + 1) (by omega)
          rw [← hall] at v1
          have v2 := (num_args (op := .add) v1).1
          have r1 := fun t W => run_num (P := Tryd.prog) v1 t W
          have r2 := fun t W => run_num (P := Tryd.prog) v2 t W
          have r3 := fun t W => run_num (P := Tryd.prog) (num_args (op := .add) v2).2 t W
          have r4 := fun t W => run_num (P := Tryd.prog) (num_args (op := .add) v1).2 t W
          have r5 := fun t W => run_num (P := Tryd.prog) (HG.out.subn j jj) t W
          have r6 := fun t W => run_num (P := Tryd.prog) (HG.out.addn j jj) t W
          rw [hall] at r1
          have B1 := fun W => hab _ (opF_lt .sub (R j) (R jj)) W
          have B2 := fun W => hab _ (opF_lt .add (I j) (I jj)) W
          have Hall := Lib.hid hall
          clear hall v1 v2 hjj
          generalize R j = x0 at *
          generalize I j = y0 at *
          generalize R jj = x1 at *
          generalize I jj = y1 at *
          go_wp2_with fail
          go_quiet (fail)
          go_wp2_with fail
          go_quiet (fail)
          go_wp2_with (first
            | (go_at_call 12; first | (with_reducible refine ((B1 _).out).mono ?_; rintro e w' ⟨rfl, rfl⟩) | (with_reducible refine ((B2 _).out).mono ?_; rintro e w' ⟨rfl, rfl⟩))
            | simp only [r1, r2, r3, r4, r5, r6])
          go_roundw
          case rel => exact ⟨j + 1, _, by go_num, by omega, rfl, by first | rfl | (simp only [World.drewN_drewN]; rfl)⟩
          case measure => simp [intOf]; omega
        · have hjn : j = k := by omega
          subst hjn
          have v1 := HG.out.parsa
          have v2 := HG.out.parsb
          have g1 := HG.out.pars
          have g2 := HG.out.pow
          have hfk := fltI_eq (j : Int)
          have r1 := fun t W => run_num (P := Tryd.prog) v1 t W
          have r2 := fun t W => run_num (P := Tryd.prog) (num_args (op := .sub) v1).2 t W
          have r3 := fun t W => run_num (P := Tryd.prog) v2 t W
          have r4 := fun t W => run_num (P := Tryd.prog) (num_args (op := .mul) v2).2 t W
          have B1 := fun W => hab _ (opF_lt .sub (allF R I j) (opF .mul (fltI j) Q)) W
          clear v1 v2 hlt
          generalize allF R I j = a0 at *
          go_wp2_with (first
            | (go_at_call 12; refine ((B1 _).out).mono ?_; rintro e w' ⟨rfl, rfl⟩)
            | (go_at_call 13; refine ((HA _).out).mono ?_; rintro e w' ⟨rfl, hb5⟩)
            | simp only [r1, r2, r3, r4, hfc])
          go_ret
          exact ⟨rfl, (below_drewN Hb4.out q).trans (hb5.mono Hb4.out.size)⟩
end Go.Proofs.YtbnpleihhbpnlaaDoor
