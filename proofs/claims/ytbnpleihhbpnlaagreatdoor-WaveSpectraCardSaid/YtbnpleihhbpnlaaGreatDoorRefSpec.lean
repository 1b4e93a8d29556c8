/- The document's spectrum and power. -/
import Derived.Test.YtbnpleihhbpnlaaGreatDoorWavG
import Derived.Test.YtbnpleihhbpnlaaGreatDoorWavX
import Derived.Test.YtbnpleihhbpnlaaGreatDoorWavL
import Derived.Deep.DeepCutAuto
namespace Go.Proofs.YtbnpleihhbpnlaaGreatDoor
open Go.RowKit

theorem twi_int {n k : Nat} (hn : sizeN n) (hk : k < n) : ∃ q i : Nat, Int.tdiv 8 (n : Int) = (q : Int) ∧ IntKind.i64.wrap (q : Int) = (q : Int) ∧ IntKind.i64.wrap ((k : Int) * (q : Int)) = (i : Int) ∧ i < 8 ∧ k * (8 / n) = i := by
  have h8 := size_le hn
  have hlt : k * (8 / n) < 8 := by rcases hn with rfl | rfl | rfl | rfl <;> omega
  have hq8 : 8 / n ≤ 8 := Nat.div_le_self 8 n
  have hw8 : ∀ q : Nat, q ≤ 8 → IntKind.i64.wrap (q : Int) = (q : Int) := fun q h => by rw [IntKind.wrap_i64]; omega
  refine ⟨8 / n, k * (8 / n), ?_, hw8 _ hq8, ?_, hlt, rfl⟩
  · rw [show (8 : Int) = ((8 : Nat) : Int) from rfl, Int.ofNat_tdiv]
  · rw [← Int.natCast_mul]
    generalize k * (8 / n) = z at *
    rw [IntKind.wrap_i64]; omega
theorem fl_at (w : World) (f : Nat → Nat) (cs : Array Value) (T : TypeId) (hc : cs.toList = ((List.range 8).map fun i => [Value.float .f64 (f i)]).flatten) {i : Nat} (hi : i < 8) : (w.alloc (.cells cs T)).cell? ⟨w.heap.size, i, none⟩ = some (.float .f64 (f i)) := by
  have hrd : Rd (w.alloc (.cells cs T)) (w.heap.size + 1) 1 (some ⟨w.heap.size, 0, none⟩) ((List.range 8).map fun i => [Value.float .f64 (f i)]) :=
    Rd.new w (by intro x hx; obtain ⟨_, _, rfl⟩ := List.mem_map.1 hx; rfl) _ hc
  obtain ⟨b, o, h1, _, h2⟩ := hrd.at1 (k := i) (v0 := .float .f64 (f i)) (by rw [List.getElem?_map, List.getElem?_range hi]; rfl)
  injection h1 with h1
  injection h1 with e1 e2 e3
  subst e1 e2
  rw [Nat.zero_add] at h2
  exact h2
theorem rtw_int {n j k : Nat} (hn : sizeN n) (hj : j < n) (hk : k < n) : ∃ m : Nat, IntKind.i64.wrap ((j : Int) * (k : Int)) = (j : Int) * (k : Int) ∧ Int.tmod ((j : Int) * (k : Int)) (n : Int) = (m : Int) ∧ m < n ∧ m * (8 / n) = twk n j k := by
  have h8 := size_le hn
  have hjk : j * k ≤ 8 * 8 := Nat.mul_le_mul (by omega) (by omega)
  refine ⟨j * k % n, ?_, ?_, Nat.mod_lt _ (by omega), rfl⟩
  · rw [← Int.natCast_mul, IntKind.wrap_i64]; omega
  · rw [← Int.natCast_mul, Int.ofNat_tmod]
def rtA : Array Value := #[.float .f64 4607182418800017408, .float .f64 4604544271217802189, .float .f64 0, .float .f64 (negW 4604544271217802189), .float .f64 13830554455654793216, .float .f64 (negW 4604544271217802189), .float .f64 0, .float .f64 4604544271217802189]
def rtB : Array Value := #[.float .f64 0, .float .f64 (negW 4604544271217802189), .float .f64 13830554455654793216, .float .f64 (negW 4604544271217802189), .float .f64 0, .float .f64 4604544271217802189, .float .f64 4607182418800017408, .float .f64 4604544271217802189]
set_option maxRecDepth 100000 in
set_option maxHeartbeats 2000000 in
theorem rtwiddle_any (n k : Nat) (w : World) (hn : sizeN n) (hk : k < n) :
    Calls Tryz.prog 38 #[.int .i64 n, .int .i64 k] w fun e w' => e = .returned (.tuple #[.float .f64 (twR (k * (8 / n))), .float .f64 (twI (k * (8 / n)))]) ∧ Below w.heap.size w w' := by
  have HO := fun v W => Lib.hid (f21_any v W)
  have HN := run_neg
  obtain ⟨q, i, a1, a2, a3, h8, hi⟩ := twi_int hn hk
  have hn0 : ¬ (n : Int) = 0 := by rcases hn with rfl | rfl | rfl | rfl <;> decide
  have hn1 : ¬ n = 0 := by omega
  have h8I : (i : Int) < 8 := by omega
  have c1 : ((w.alloc (.cells rtA 29)).alloc (.cells rtB 29)).cell? ⟨w.heap.size, i, none⟩ = some (.float .f64 (twR i)) :=
    cell_below (fl_at w twR rtA 29 (by kernel_rfl) h8) ((Below.refl _ _).alloc (Nat.le_refl _) _)
  have c2 : ((w.alloc (.cells rtA 29)).alloc (.cells rtB 29)).cell? ⟨w.heap.size + 1, i, none⟩ = some (.float .f64 (twI i)) := by
    have := fl_at (w.alloc (.cells rtA 29)) twI rtB 29 (by kernel_rfl) h8
    simpa using this
  unfold rtA rtB at c1 c2
  have hb : Below w.heap.size w ((w.alloc (.cells rtA 29)).alloc (.cells rtB 29)) := ((Below.refl _ _).alloc (Nat.le_refl _) _).alloc (by simp) _
  have HB := Lib.hid hb
  rw [hi]
  have Hi := Lib.hid hi
  clear hn hk hi hb
  go_enter Tryz.func38, Tryz.ntmps38
  go_wp2_with (first | (go_at_call 16; refine ((HO _ _).out).mono ?_; rintro e w' ⟨rfl, rfl⟩) | simp only [HN])
  go_quiet (fail)
  go_wp2_with fail
  go_ret2
  exact ⟨rfl, below_drewN HB.out _⟩
/-- The inner loop: k words are done. -/
def RLin (xs : List Nat) (n j : Nat) (w : World) (k re im : Nat) (w' : World) : Prop := EqN re (lineRk xs n j k) ∧ EqN im (lineIk xs n j k) ∧ Below w.heap.size w w'
theorem rlin_add {xs : List Nat} {n j k re im x : Nat} {w w' w1 : World} (h : RLin xs n j w k re im w') (hx : xs[k]? = some x) (hb : Below w'.heap.size w' w1) {W1 W2 W3 W4 : World} {d : Nat} :
    Hid (RLin xs n j w (k + 1) (rawF .add re (rawF .mul x (twR (twk n j k)) W1) W2) (rawF .add im (rawF .mul x (twI (twk n j k)) W3) W4) (w1.drewN d)) := by
  obtain ⟨h1, h2, h4⟩ := h
  have hg : xg xs k = x := by unfold xg; rw [List.getD_eq_getElem?_getD, hx]; rfl
  refine ⟨?_, ?_, below_drewN (h4.trans (hb.mono h4.size)) d⟩
  · rw [lineRk_add, hg]
    exact eqN_op h1 (eqN_op (EqN.rfl_ _) (EqN.rfl_ _))
  · rw [lineIk_add, hg]
    exact eqN_op h2 (eqN_op (EqN.rfl_ _) (EqN.rfl_ _))
set_option maxRecDepth 100000 in
set_option maxHeartbeats 4000000 in
theorem rspectrum_any (xs : List Nat) (A : Option Addr) (n c B : Nat) (w : World) (hn : sizeN n) (hl : xs.length = n) (hr : Rd w B 1 A (wrdC xs)) (hB : B ≤ w.heap.size) :
    Calls Tryz.prog 20 #[.slice A n c] w (SpecOut xs n w) := by
  have HO := fun v W => Lib.hid (f21_any v W)
  have HT := fun v W => Lib.hid (b21_any v W)
  have hA := fun t x y W => run_float (P := Tryz.prog) .add rfl t x y W
  have hM := fun t x y W => run_float (P := Tryz.prog) .mul rfl t x y W
  have h8 := size_le hn
  have hne : ((n : Int) != 1 && (n : Int) != 2 && (n : Int) != 4 && (n : Int) != 8) = false := by rcases hn with rfl | rfl | rfl | rfl <;> decide
  have hnz : ¬ (n : Int) = 0 := by rcases hn with rfl | rfl | rfl | rfl <;> decide
  have hnz1 : ¬ n = 0 := by omega
  have Hl := Lib.hid hl
  have Hr := Lib.hid hr
  have Hn := Lib.hid hn
  have hcase : ((n : Int) != 1) = false ∨ ((n : Int) != 1) = true ∧ (((n : Int) != 2) = false ∨ ((n : Int) != 2) = true ∧ (((n : Int) != 4) = false ∨ ((n : Int) != 4) = true ∧ ((n : Int) != 8) = false)) := by
    rcases hn with rfl | rfl | rfl | rfl <;> decide
  clear hl hr hn hne
  go_enter Tryz.func20, Tryz.ntmps20
  go_upto_region 2 with fail
  go_cut [29] (fun v wx => v = .bool false ∧ wx = w)
  case first =>
    rcases hcase with h1 | ⟨h1, h2 | ⟨h2, h3 | ⟨h3, h4⟩⟩⟩
    all_goals
      go_wp2_with fail
      go_meet
      exact ⟨rfl, rfl⟩
  case rest =>
    obtain ⟨rfl, rfl⟩ := hcut
    clear hcase
    go_wp2_with fail
    go_loopw [8, 6, 7] (fun i v1 v2 wr => ∃ k : Nat, i = .int .i64 k ∧ k ≤ n ∧ Hid (SpecAt xs n wc k v1 v2 wr)) (fun i _ _ _ => n - (intOf i).toNat)
    case atStart => exact ⟨0, rfl, by omega, none, 0, none, 0, rfl, rfl, Two.start wc⟩
    case round =>
      obtain ⟨j, rfl, hj, HS⟩ := hrel
      obtain ⟨A1, c1, A2, c2, rfl, rfl, hT⟩ := HS.out
      have HTwo := Lib.hid hT
      have hRw := (Hr.out).below (hT.2.2.2.mono hB)
      by_cases hlt : j < n
      · have hltI : (j : Int) < (n : Int) := by omega
        have HRw := Lib.hid hRw
        clear hT HS hRw
        generalize wr = wr0 at *
        go_wp2_with fail
        go_loopw [11, 9, 10] (fun i v1 v2 wx => ∃ k re im : Nat, i = .int .i64 k ∧ v1 = .float .f64 re ∧ v2 = .float .f64 im ∧ k ≤ n ∧ Hid (RLin xs n j wr0 k re im wx)) (fun i _ _ _ => n - (intOf i).toNat)
        case atStart => exact ⟨0, 0, 0, rfl, rfl, rfl, by omega, EqN.rfl_ _, EqN.rfl_ _, Below.refl _ _⟩
        case round =>
          obtain ⟨k, re, im, rfl, rfl, rfl, hk, HL⟩ := hrel
          by_cases hkt : k < n
          · have hktI : (k : Int) < (n : Int) := by omega
            obtain ⟨x, hx⟩ := get_lt Hl hkt
            obtain ⟨b0, o0, rfl, hb0, hc0⟩ := ((HRw.out).below (HL.out.2.2.mono (Nat.le_trans hB (HTwo.out.2.2.2.size)))).at1 (wrdC_at hx)
            obtain ⟨mm, a1, a2, a3, a4⟩ := rtw_int Hn.out hlt hkt
            have Htw := fun W => Lib.hid (rtwiddle_any n mm W Hn.out a3)
            have Hx := Lib.hid hx
            have Ha4 := Lib.hid a4
            have hk1 : IntKind.i64.wrap ((k : Int) + 1) = ((k + 1 : Nat) : Int) := by rw [IntKind.wrap_i64]; omega
            clear hx a3 a4
            go_wp2_with (first
              | (go_at_call 38; refine ((Htw _).out).mono ?_; rintro e w1 ⟨rfl, hb1⟩; have hc1 := cell_below hc0 hb1; have Hb1 := Lib.hid hb1; clear hb1 hc0)
              | (go_at_call 16; refine ((HO _ _).out).mono ?_; rintro e w' ⟨rfl, rfl⟩)
              | simp only [hA, hM])
            go_roundw
            case rel => exact ⟨k + 1, _, _, by go_num, rfl, rfl, by omega, by rw [Ha4.out]; exact rlin_add HL.out Hx.out Hb1.out⟩
            case measure => simp [intOf]; omega
          · have hkn : k = n := by omega
            subst hkn
            have HT1 := Lib.hid (HTwo.out.after HL.out.2.2)
            have hre := Lib.hid (eqN_toN.1 HL.out.1)
            have him := Lib.hid (eqN_toN.1 HL.out.2.1)
            clear hkt hk HL
            go_wp2_with (first
              | (go_at_call 15; refine ((HT _ _).out).mono ?_; rintro e w' ⟨rfl, rfl⟩)
              | (at_builtin; (refine wpList_append_ex _ rfl (.tmp 68) (.tmp 71) _ rfl eiU64 rfl (HT1.out.alloc _).1 rfl (Rd.new (xs := wrdC [toN re]) wr (wrdC_all _) _ rfl) rfl (wrdC_one _) (by simp only [maxLen]; omega) (by omega) (by have := HT1.out.2.2.2.size; simp; omega) ?_; intro A3 c3 w3 ho3 hg3 hat3 hb3; have HT3 := Lib.hid ((HT1.out.alloc _).grow ho3 hg3 hat3 hb3); clear ho3 hg3 hat3 hb3))
              | (at_builtin; (refine wpList_append_ex _ rfl (.tmp 73) (.tmp 76) _ rfl eiU64 rfl (HT3.out.alloc _).swap.1 rfl (Rd.new (xs := wrdC [toN im]) w3 (wrdC_all _) _ rfl) rfl (wrdC_one _) (by simp only [maxLen]; omega) (by omega) (by have := HT3.out.2.2.2.size; simp; omega) ?_; intro A4 c4 w4 ho4 hg4 hat4 hb4; have HT4 := Lib.hid ((HT3.out.alloc _).swap.grow ho4 hg4 hat4 hb4).swap; clear ho4 hg4 hat4 hb4)))
            go_roundw
            case rel => exact ⟨j + 1, by go_num, by omega, A3, c3, A4, c4, rfl, rfl, by rw [specR_add, specI_add]; rw [hre.out, him.out] at HT4; exact HT4.out⟩
            case measure => simp [intOf]; omega
      · have hkn : j = n := by omega
        subst hkn
        clear HS hRw
        go_wp2_with fail
        go_ret3
        exact ⟨A1, c1, A2, c2, rfl, hT⟩
end Go.Proofs.YtbnpleihhbpnlaaGreatDoor
