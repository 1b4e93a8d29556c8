/- ParseSelects: a select's name, matchers, span and offset come to just its node. -/
import Derived.Test.YtdikmklijpcjdaaParA
import Derived.Test.YtdikmklijpcjdaaPSel
import Derived.Test.YtdikmklijpcjdaaRefK
import Derived.Test.YtdikmklijpcjdaaLowP
import Derived.Test.YtdikmklijpcjdaaNodE
namespace Go.Proofs.Ytdikmklijpcjdaa
open Go.RowKit

theorem digs_zero (f : Nat) (acc : List UInt8) : digs f 0 acc = acc := by cases f <;> rfl
theorem digs_succ {f m : Nat} (h : m ≠ 0) (acc : List UInt8) : digs (f + 1) m acc = digs f (m / 10) (UInt8.ofNat (48 + m % 10) :: acc) := by rw [digs, if_neg h]
set_option maxHeartbeats 1000000 in
set_option maxRecDepth 100000 in
theorem text_any (n : Nat) (h1 : 1 ≤ n) (h2 : n ≤ 1000) (w : World) : Calls Try.prog 21 #[.int .i64 n] w fun e w' => e = .returned (.string (mkB (digT n))) ∧ Below w.heap.size w w' := by
  go_enter Try.func21, Try.ntmps21
  go_wp2_with fail
  go_loopw [0, 3, 4] (fun v0 v3 v4 wr => ∃ (f m : Nat) (acc : List UInt8) (fst : Bool), v0 = .int .i64 m ∧ v3 = .string (mkB acc) ∧ v4 = .bool fst ∧ (fst = true → 1 ≤ m) ∧ m < 10 ^ f ∧ f ≤ 5 ∧ m ≤ 1000 ∧ acc.length ≤ 5 - f ∧ Hid (digs f m acc = digT n) ∧ Below w.heap.size w wr) (fun v0 _ _ _ => (intOf v0).toNat)
  case atStart => exact ⟨5, n, [], true, rfl, rfl, rfl, fun _ => h1, by omega, by omega, h2, by simp, rfl, Below.refl _ _⟩
  case round =>
    obtain ⟨f, m, acc, fst, rfl, rfl, rfl, hf1, hm, hf5, hmk, hal, HD, hb⟩ := hrel
    by_cases h0 : m = 0
    · subst h0
      have hff : fst = false := by
        cases fst with
        | false => rfl
        | true => have := hf1 rfl; omega
      subst hff
      rw [digs_zero] at HD
      go_wp2_with fail
      go_ret
      exact ⟨by rw [← HD.out]; rfl, hb⟩
    · obtain ⟨f, rfl⟩ : ∃ g, f = g + 1 := ⟨f - 1, by
        cases f with
        | zero => simp at hm; omega
        | succ f => rfl⟩
      have hm0 : (0 : Int) < (m : Int) := by omega
      have hmI : (m : Int) ≤ 1000 := by omega
      have HD2 : Hid (digs f (m / 10) (UInt8.ofNat (48 + m % 10) :: acc) = digT n) := by show _ = _; rw [← digs_succ h0]; exact HD.out
      have hsz := hb.size
      have hBB := Lib.hid hb
      obtain ⟨q, hq⟩ : ∃ q, q = m % 10 := ⟨_, rfl⟩
      obtain ⟨r, hr⟩ : ∃ r, r = m / 10 := ⟨_, rfl⟩
      rw [← hq, ← hr] at HD2
      have htm : (m : Int).tmod 10 = (q : Int) := by rw [Int.tmod_eq_emod_of_nonneg (by omega)]; omega
      have htd : (m : Int).tdiv 10 = (r : Int) := by rw [Int.tdiv_eq_ediv_of_nonneg (by omega)]; omega
      have hq9 : q < 10 := by omega
      have hqI : (q : Int) < 10 := by omega
      have hrm : r < m := by omega
      have hrI : (r : Int) ≤ 1000 := by omega
      have hwr : IntKind.i64.wrap (r : Int) = (r : Int) := by rw [IntKind.wrap_i64] <;> omega
      have hrf : r < 10 ^ f := by rw [Nat.pow_succ] at hm; omega
      have hw1 : IntKind.i64.wrap (48 + (q : Int)) = 48 + (q : Int) := by rw [IntKind.wrap_i64] <;> omega
      have hw8 : IntKind.u8.wrap (48 + (q : Int)) = 48 + (q : Int) := by rw [IntKind.wrap_u8] <;> omega
      have hBz : (mkB acc).size ≤ 5 := by show acc.toArray.size ≤ 5; simp; omega
      have hBz1 : ¬ 9223372036854775807 < 1 + (mkB acc).size := by omega
      obtain ⟨B, hB⟩ : ∃ B, B = mkB acc := ⟨_, rfl⟩
      rw [← hB] at hBz hBz1 ⊢
      have HBE := Lib.hid hB
      have hD : ((UInt8.ofNat (48 + q)).toNat : Int) = 48 + (q : Int) := by rw [UInt8.toNat_ofNat']; omega
      have hcv : ∀ W : World, (convert 65 9 (.slice (some ⟨W.heap.size, 0, none⟩) 1 1)).run Try.prog (W.alloc (.cells #[.int .u8 (48 + (q : Int))] 5)) = .ok (.string (mkB [UInt8.ofNat (48 + q)])) (W.alloc (.cells #[.int .u8 (48 + (q : Int))] 5)) := by
        intro W
        rw [← hD]
        exact run_conv_rd (P := Try.prog) (Rd.byte (UInt8.ofNat (48 + q)) rfl) 65 5 9 Try.underlying65 Try.underlying5 Try.underlying9 1 1 rfl (fun _ => .inr ⟨_, _, rfl⟩)
      have hxs : (mkB [UInt8.ofNat (48 + q)]).size = 1 := rfl
      have hal2 : (UInt8.ofNat (48 + q) :: acc).length ≤ 5 - f := by simp only [List.length_cons]; omega
      have HAL := Lib.hid hal2
      have HRF := Lib.hid hrf
      have HRM := Lib.hid hrm
      have HF := Lib.hid hf5
      have hJ : mkB [UInt8.ofNat (48 + q)] ++ B = mkB (UInt8.ofNat (48 + q) :: acc) := by rw [hB]; apply WideShapes.bytes_inj; simp [mkB, ByteArray.data_append]
      have HJ := Lib.hid hJ
      clear hal2 hrf hrm hf5 hJ hD
      generalize mkB [UInt8.ofNat (48 + q)] = DB at *
      clear hb HD hq hr hB h0 hm hf1 hal
      cases fst with
      | false =>
        go_wp2_with fail
        go_roundw
        case rel => exact ⟨f, r, _, false, by go_num, by rw [HJ.out], rfl, by simp, HRF.out, by have := HF.out; omega, by have := HRM.out; omega, HAL.out, HD2, hBB.out.alloc hsz _⟩
        case measure => have := HRM.out; simp [intOf]; omega
      | true =>
        go_wp2_with fail
        go_roundw
        case rel => exact ⟨f, r, _, false, by go_num, by rw [HJ.out], rfl, by simp, HRF.out, by have := HF.out; omega, by have := HRM.out; omega, HAL.out, HD2, hBB.out.alloc hsz _⟩
        case measure => have := HRM.out; simp [intOf]; omega
theorem tmod_n {x : Int} (n : Nat) (hn : 0 < n) (h : 0 ≤ x) : ∃ i : Nat, i < n ∧ x.tmod n = i := by
  refine ⟨(x % n).toNat, ?_, ?_⟩
  · have := Int.emod_lt_of_pos x (show (0 : Int) < n by omega)
    have := Int.emod_nonneg x (show (n : Int) ≠ 0 by omega)
    omega
  · rw [Int.tmod_eq_emod_of_nonneg h]
    have := Int.emod_nonneg x (show (n : Int) ≠ 0 by omega)
    omega
theorem lo_yes {c : UInt8} (h : loB c = true) : ¬ (c.toNat : Int) < 97 ∧ ¬ 122 < (c.toNat : Int) := by simp [loB] at h; omega
theorem lo_no {c : UInt8} (h : loB c = false) : (c.toNat : Int) < 97 ∨ (¬ (c.toNat : Int) < 97 ∧ 122 < (c.toNat : Int)) := by simp [loB] at h; omega
theorem va_yes {c : UInt8} (h : vaB c = true) : ¬ (c.toNat : Int) < 32 ∧ ((c.toNat : Int) == 34) = false ∧ ((c.toNat : Int) == 92) = false := by
  simp only [vaB, Bool.not_eq_true', Bool.or_eq_false_iff, decide_eq_false_iff_not] at h
  refine ⟨by omega, ?_, ?_⟩ <;> (rw [beq_eq_false_iff_ne]; omega)
theorem va_no {c : UInt8} (h : vaB c = false) : (c.toNat : Int) < 32 ∨ (¬ (c.toNat : Int) < 32 ∧ ((c.toNat : Int) == 34) = true) ∨ (¬ (c.toNat : Int) < 32 ∧ ((c.toNat : Int) == 34) = false ∧ ((c.toNat : Int) == 92) = true) := by
  simp only [vaB, Bool.not_eq_false', Bool.or_eq_true, decide_eq_true_eq] at h
  by_cases h1 : c.toNat < 32
  · exact .inl (by omega)
  · by_cases h2 : c.toNat = 34
    · exact .inr (.inl ⟨by omega, by rw [beq_iff_eq]; omega⟩)
    · exact .inr (.inr ⟨by omega, by rw [beq_eq_false_iff_ne]; omega, by rw [beq_iff_eq]; omega⟩)
theorem mat_size {k : Nat} (hk : k < 4) : (matT k).size ≤ 2 := (lex_mat hk 0 []).choose_spec.choose_spec.2.2.1
theorem mat_cell {k : Nat} (hk : k < 4) (X : World) : (X.alloc (.cells #[.string ⟨#[61]⟩, .string ⟨#[33, 61]⟩, .string ⟨#[61, 126]⟩, .string ⟨#[33, 126]⟩] 9)).cell? ⟨X.heap.size, k, none⟩ = some (.string (matT k)) := by
  have hb := Blk.new X 9 [.string ⟨#[61]⟩, .string ⟨#[33, 61]⟩, .string ⟨#[61, 126]⟩, .string ⟨#[33, 126]⟩]
  have : k = 0 ∨ k = 1 ∨ k = 2 ∨ k = 3 := by omega
  rcases this with rfl | rfl | rfl | rfl
  · exact hb.cell (j := 0) rfl
  · exact hb.cell (j := 1) rfl
  · exact hb.cell (j := 2) rfl
  · exact hb.cell (j := 3) rfl
theorem sel_text {W V T : ByteArray} {k m : Nat} (hT : T.data.toList = digT m) : Hid ((W ++ ⟨#[123, 32]⟩ ++ W ++ matT k ++ ⟨#[34]⟩ ++ V ++ ⟨#[34, 32, 125, 91]⟩ ++ T ++ ⟨#[115, 93]⟩).data.toList = selL W.data.toList V.data.toList k m 0) := by
  show _ = _
  simp [selL, backT, ByteArray.data_append, hT]
theorem selL_back (W V : List UInt8) (k m b : Nat) : selL W V k m b = selL W V k m 0 ++ backT b := by simp [selL, backT]
/-- The node, its offset as one number. -/
def nodZ (W V : ByteArray) (k w z : Nat) : Nod := selN 3 [⟨1, sNameN, W⟩, ⟨(k : Int) + 1, W, V⟩] w (z : Int)
theorem nodZ_eq {W V : ByteArray} {k w b z : Nat} (h : z = b * 3600) : nodK W V k w b = nodZ W V k w z := by rw [h]; rfl
theorem nodZ_set (W V : ByteArray) (k m z : Nat) (A : Option Addr) (c : Nat) : (nodC (nodZ W V k m 0) A c none 0).set 5 (.int .i64 (z : Int)) = nodC (nodZ W V k m z) A c none 0 := rfl
theorem nodZ_mat (W V : ByteArray) (k m z y : Nat) : (nodZ W V k m z).mat = (nodZ W V k m y).mat := rfl
/-- The matchers and the node, newly made. -/
theorem two_sel (w : World) (W V : ByteArray) (k m : Nat) : ∃ W4 : World, ((w.alloc (.cells #[.int .i64 1, .string sNameN, .string W, .int .i64 ((k : Int) + 1), .string W, .string V] 45)).alloc (.cells #[.int .i64 3, .int .i64 0, .string ByteArray.empty, .slice (some ⟨w.heap.size, 0, none⟩) 2 2, .int .i64 m, .int .i64 0, .int .i64 0, .slice none 0 0, .bool false, .int .i64 0] 37)) = W4 ∧
    Blk W4 (w.heap.size + 1) 37 (nodC (nodZ W V k m 0) (some ⟨w.heap.size, 0, none⟩) 2 none 0) ∧ Rd W4 (w.heap.size + 1) 3 (some ⟨w.heap.size, 0, none⟩) (matsC (nodZ W V k m 0).mat) ∧ Below w.heap.size w W4 := by
  refine ⟨_, rfl, ?_, ?_, ((Below.refl _ _).alloc (Nat.le_refl _) _).alloc (by simp) _⟩
  · have := Blk.new (w.alloc (.cells #[.int .i64 1, .string sNameN, .string W, .int .i64 ((k : Int) + 1), .string W, .string V] 45)) 37 (nodC (nodZ W V k m 0) (some ⟨w.heap.size, 0, none⟩) 2 none 0)
    rw [World.size_alloc] at this
    exact this
  · exact (Rd.new w (sz := 3) (xs := matsC (nodZ W V k m 0).mat) (matsC_sz _) #[.int .i64 1, .string sNameN, .string W, .int .i64 ((k : Int) + 1), .string W, .string V] rfl).below ((Below.refl _ _).alloc (by simp) _)
theorem selL_le {W V : List UInt8} {k m : Nat} (hk : k < 4) (hW : W.length ≤ 60) (hV : V.length ≤ 200) (hm : (digT m).length ≤ 4) : (selL W V k m 0).length ≤ 400 := by
  obtain ⟨_, _, _, _, h2, _, _⟩ := lex_mat hk 0 []
  rw [Lib.size_eq] at h2
  simp only [selL, backT, List.length_append, List.length_cons, if_true, List.length_nil]
  omega
set_option maxRecDepth 100000 in
set_option maxHeartbeats 8000000 in
theorem parseSelects_any (W V : ByteArray) (q1 q2 q3 : Int) (w : World) (hW0 : W.size ≤ 140737488351232) (hV0 : V.size ≤ 140737488351232) : Calls Try.prog 8 #[.string W, .string V, .int .i64 q1, .int .i64 q2, .int .i64 q3] w fun e w' => e = .returned (.bool true) ∧ Below w.heap.size w w' := by
  obtain ⟨k, hk, hk2⟩ := tmod_n 4 (by decide) (lowI_nn q1).1
  obtain ⟨d, hd, hd2⟩ := tmod_n 1000 (by decide) (lowI_nn q2).1
  obtain ⟨b, hb3, hb2⟩ := tmod_n 3 (by decide) (lowI_nn q3).1
  have HL := fun (q : Int) (W : World) => Lib.hid (low_any q W)
  have HK2 := Lib.hid hk2
  have HD2 := Lib.hid hd2
  have HB2 := Lib.hid hb2
  clear hk2 hd2 hb2
  go_enter Try.func8, Try.ntmps8
  go_wp2_with fail
  go_loop [11] (fun i => ∃ j : Nat, j ≤ W.size ∧ i = .int .i64 j ∧ Hid (∀ i (hi : i < W.size), i < j → loB W[i] = true)) (fun i => W.size - (intOf i).toNat)
  case atStart => exact ⟨0, by omega, rfl, fun j _ hj => by omega⟩
  case round =>
    obtain ⟨j, hj, rfl, hall⟩ := hrel
    by_cases hlt : j < W.size
    · have hltI : (j : Int) < (W.size : Int) := by omega
      have hj0 : (0 : Int) ≤ (j : Int) := by omega
      cases hc : loB W[j] with
      | true =>
        have hall2 := nall_step hlt hc hall
        obtain ⟨c1, c2⟩ := lo_yes hc
        clear hc hall
        go_wp2_with fail
        go_round
        case rel => exact ⟨j + 1, by omega, by go_num, hall2⟩
        case measure => simp [intOf]; omega
      | false =>
        have hcl := lo_no hc
        clear hc hall
        rcases hcl with c1 | ⟨c1, c2⟩
        · go_wp2_with fail
          refine (pawake_any _).mono ?_
          rintro e w9 ⟨rfl, hb9⟩
          go_wp2_with fail
          go_ret
          exact ⟨rfl, hb9⟩
        · go_wp2_with fail
          refine (pawake_any _).mono ?_
          rintro e w9 ⟨rfl, hb9⟩
          go_wp2_with fail
          go_ret
          exact ⟨rfl, hb9⟩
    · have hje : j = W.size := by omega
      subst hje
      have HW : Hid (W.data.toList.all loB = true) := nall_true hall.out
      have hltI : ¬ ((W.size : Nat) : Int) < (W.size : Int) := by omega
      clear hall hlt hj
      by_cases h1 : 1 ≤ W.size
      · have hwe : W.toList.isEmpty = false := isEmpty_no h1
        by_cases h60 : W.size ≤ 60
        · have h60I : ¬ (60 : Int) < (W.size : Int) := by omega
          have HKp := fun (X : World) => Lib.hid (rKept_any W X)
          cases hkp : keptB W with
          | true =>
            rw [hkp] at HKp
            go_wp2_with fail
            refine ((HKp _).out).mono ?_
            rintro e w1 ⟨rfl, hb1⟩
            have HB1 := Lib.hid hb1
            clear hb1
            go_wp2_with fail
            refine (pawake_any _).mono ?_
            rintro e w9 ⟨rfl, hb9⟩
            go_wp2_with fail
            go_ret
            exact ⟨rfl, HB1.out.trans (hb9.mono HB1.out.size)⟩
          | false =>
            rw [hkp] at HKp
            have HKB := Lib.hid hkp
            go_wp2_with fail
            refine ((HKp _).out).mono ?_
            rintro e w1 ⟨rfl, hb1⟩
            have HB1 := Lib.hid hb1
            clear hb1 hkp HKp
            by_cases h200 : V.size ≤ 200
            · have h200I : ¬ (200 : Int) < (V.size : Int) := by omega
              go_wp2_with fail
              go_loop [12] (fun i => ∃ j : Nat, j ≤ V.size ∧ i = .int .i64 j ∧ Hid (∀ i (hi : i < V.size), i < j → vaB V[i] = true)) (fun i => V.size - (intOf i).toNat)
              case atStart => exact ⟨0, by omega, rfl, fun j _ hj => by omega⟩
              case round =>
                obtain ⟨j, hj, rfl, hall⟩ := hrel
                by_cases hlt : j < V.size
                · have hltI : (j : Int) < (V.size : Int) := by omega
                  have hj0 : (0 : Int) ≤ (j : Int) := by omega
                  cases hc : vaB V[j] with
                  | true =>
                    have hall2 := nall_step hlt hc hall
                    obtain ⟨c1, c2, c3⟩ := va_yes hc
                    clear hc hall
                    go_wp2_with fail
                    go_round
                    case rel => exact ⟨j + 1, by omega, by go_num, hall2⟩
                    case measure => simp [intOf]; omega
                  | false =>
                    have hcl := va_no hc
                    clear hc hall
                    rcases hcl with c1 | ⟨c1, c2⟩ | ⟨c1, c2, c3⟩
                    · go_wp2_with fail
                      refine (pawake_any _).mono ?_
                      rintro e w9 ⟨rfl, hb9⟩
                      go_wp2_with fail
                      go_ret
                      exact ⟨rfl, HB1.out.trans (hb9.mono HB1.out.size)⟩
                    · go_wp2_with fail
                      refine (pawake_any _).mono ?_
                      rintro e w9 ⟨rfl, hb9⟩
                      go_wp2_with fail
                      go_ret
                      exact ⟨rfl, HB1.out.trans (hb9.mono HB1.out.size)⟩
                    · go_wp2_with fail
                      refine (pawake_any _).mono ?_
                      rintro e w9 ⟨rfl, hb9⟩
                      go_wp2_with fail
                      go_ret
                      exact ⟨rfl, HB1.out.trans (hb9.mono HB1.out.size)⟩
                · have hje : j = V.size := by omega
                  subst hje
                  have HV : Hid (V.data.toList.all vaB = true) := nall_true hall.out
                  have hltI : ¬ ((V.size : Nat) : Int) < (V.size : Int) := by omega
                  clear hall hlt hj
                  have hk2 : (lowI q1).tmod 4 = (k : Int) := HK2.out
                  have hd2 : (lowI q2).tmod 1000 = (d : Int) := HD2.out
                  have hb2 : (lowI q3).tmod 3 = (b : Int) := HB2.out
                  have hkI : (k : Int) < 4 := by omega
                  have hdI : (d : Int) < 1000 := by omega
                  have hbI : (b : Int) < 3 := by omega
                  have hwd : IntKind.i64.wrap (1 + (d : Int)) = ((1 + d : Nat) : Int) := by rw [IntKind.wrap_i64] <;> omega
                  go_upto_region 14 with (go_at_call 16; refine ((HL _ _).out).mono ?_; rintro e w2 ⟨rfl, rfl⟩)
                  clear hk2 hd2 hb2 hwd
                  obtain ⟨m, hm⟩ : ∃ m, m = 1 + d := ⟨_, rfl⟩
                  rw [show (1 + (d : Int)) = (m : Int) from by omega]
                  have hm1 : 1 ≤ m := by omega
                  have hm2 : m ≤ 1000 := by omega
                  have HT := fun (X : World) => Lib.hid (text_any m hm1 hm2 X)
                  have hs1 := HB1.out.size
                  have hdl : (mkB (digT m)).size ≤ 4 := by
                    obtain ⟨_, _, _, h4⟩ := numOk_at (List.all_eq_true.1 num_w (m - 1) (List.mem_range.2 (by omega)))
                    rw [show m - 1 + 1 = m from by omega] at h4
                    exact h4
                  obtain ⟨T, hTe⟩ : ∃ T, T = mkB (digT m) := ⟨_, rfl⟩
                  have hTd : Hid (T.data.toList = digT m) := by show _ = _; rw [hTe]; simp [mkB]
                  rw [← hTe] at HT hdl
                  clear hTe hm
                  have hmz := mat_size hk
                  have hz1 : ¬ 9223372036854775807 < W.size + 2 := by omega
                  have hz2 : ¬ 9223372036854775807 < W.size + 2 + W.size := by omega
                  have hz3 : ¬ 9223372036854775807 < W.size + 2 + W.size + (matT k).size := by omega
                  have hz4 : ¬ 9223372036854775807 < W.size + 2 + W.size + (matT k).size + 1 := by omega
                  have hz5 : ¬ 9223372036854775807 < W.size + 2 + W.size + (matT k).size + 1 + V.size := by omega
                  have hz6 : ¬ 9223372036854775807 < W.size + 2 + W.size + (matT k).size + 1 + V.size + 4 := by omega
                  have hz7 : ¬ 9223372036854775807 < W.size + 2 + W.size + (matT k).size + 1 + V.size + 4 + T.size := by omega
                  have hz8 : ¬ 9223372036854775807 < W.size + 2 + W.size + (matT k).size + 1 + V.size + 4 + T.size + 2 := by omega
                  go_cut [16] (fun v wx => ∃ S, v = .string S ∧ Hid (S.data.toList = selL W.data.toList V.data.toList k m 0) ∧ Below w1.heap.size w1 wx)
                  case first =>
                    have hcell : ∀ X : World, (X.alloc (.cells #[.string ⟨#[61]⟩, .string ⟨#[33, 61]⟩, .string ⟨#[61, 126]⟩, .string ⟨#[33, 126]⟩] 9)).cell? ⟨X.heap.size, k, none⟩ = some (.string (matT k)) := fun X => mat_cell hk X
                    have hk0 : (0 : Int) ≤ (k : Int) := by omega
                    go_wp2_with fail
                    go_region_with ((first
                      | (go_at_call 21; refine ((HT _).out).mono ?_; rintro e4 w4 ⟨rfl, hb4⟩; have B4 := ((Below.refl w1.heap.size w1).drew.alloc (Nat.le_refl _) (.cells #[.string ⟨#[61]⟩, .string ⟨#[33, 61]⟩, .string ⟨#[61, 126]⟩, .string ⟨#[33, 126]⟩] 9)).trans (hb4.mono (by simp)); have m4 : w4.cell? ⟨w1.heap.size, k, none⟩ = _ := (hb4.cell (p := ⟨w1.drew.heap.size, k, none⟩) (by simp)).trans (hcell w1.drew))
                      | (go_at_call 21; refine ((HT _).out).mono ?_; rintro e4 w4 ⟨rfl, hb4⟩; have B4 := (Below.refl w1.heap.size w1).drew.trans hb4)))
                    all_goals
                      go_wp2_with fail
                      go_meet
                      refine ⟨_, rfl, sel_text hTd.out, ?_⟩
                      first
                      | exact B4
                      | exact B4.alloc B4.size _
                  case rest =>
                    obtain ⟨S, rfl, HS, hbS⟩ := hcut
                    have hSz : S.size ≤ 400 := by
                      have := selL_le hk (W := W.data.toList) (V := V.data.toList) (m := m) (by rw [← Lib.size_eq]; exact h60) (by rw [← Lib.size_eq]; exact h200) (by rw [← hTd.out, ← Lib.size_eq]; exact hdl)
                      rw [Lib.size_eq, HS.out]
                      exact this
                    have HbS := Lib.hid hbS
                    have hsS := hbS.size
                    clear hbS HT hTd hdl hmz hz1 hz2 hz3 hz4 hz5 hz6 hz7 hz8
                    have hwk : IntKind.i64.wrap ((k : Int) + 1) = (k : Int) + 1 := by rw [IntKind.wrap_i64] <;> omega
                    go_upto_region 16 with fail
                    obtain ⟨W4, hW4, b4, r4, hb4⟩ := two_sel wc W V k m
                    change Code.wp _ _ _ _ ((wc.alloc (.cells #[.int .i64 1, .string sNameN, .string W, .int .i64 ((k : Int) + 1), .string W, .string V] 45)).alloc (.cells #[.int .i64 3, .int .i64 0, .string ByteArray.empty, .slice (some ⟨wc.heap.size, 0, none⟩) 2 2, .int .i64 m, .int .i64 0, .int .i64 0, .slice none 0 0, .bool false, .int .i64 0] 37))
                    rw [hW4]
                    clear hW4 hwk
                    have B4 := Lib.hid b4
                    have R4 := Lib.hid r4
                    have HB4 := Lib.hid hb4
                    clear b4 r4 hb4
                    generalize hMd : wc.heap.size = M at *
                    obtain ⟨z, hz⟩ : ∃ z, z = b * 3600 := ⟨_, rfl⟩
                    have hzI : (z : Int) = (b : Int) * 3600 := by omega
                    have HZ := Lib.hid hz
                    have hz9 : z ≤ 7200 := by omega
                    go_upto_if 119 with fail
                    go_cut [16] (fun v wx => ∃ S2, v = .string S2 ∧ Hid (S2.data.toList = selL W.data.toList V.data.toList k m b) ∧ Hid (Blk wx (M + 1) 37 (nodC (nodZ W V k m z) (some ⟨M, 0, none⟩) 2 none 0)) ∧ Hid (Rd wx (M + 1) 3 (some ⟨M, 0, none⟩) (matsC (nodZ W V k m z).mat)) ∧ Hid (Below M wc wx))
                    case first =>
                      by_cases h0 : b = 0
                      · have hz0 : z = 0 := by omega
                        subst h0
                        subst hz0
                        clear hz hzI HZ hz9
                        go_wp2_with fail
                        go_meet
                        exact ⟨S, rfl, HS, B4, R4, HB4⟩
                      · have hb0 : (0 : Int) < (b : Int) := by omega
                        have HT2 := fun (X : World) => Lib.hid (text_any b (by omega) (by omega) X)
                        obtain ⟨T2, hTe⟩ : ∃ T, T = mkB (digT b) := ⟨_, rfl⟩
                        have hTd2 : Hid (T2.data.toList = digT b) := by show _ = _; rw [hTe]; simp [mkB]
                        have hT2z : T2.size ≤ 4 := by
                          obtain ⟨_, _, _, h4⟩ := numOk_at (List.all_eq_true.1 num_b (b - 1) (List.mem_range.2 (by omega)))
                          rw [show b - 1 + 1 = b from by omega] at h4
                          rw [hTe]
                          exact h4
                        rw [← hTe] at HT2
                        have hz1 : ¬ 9223372036854775807 < S.size + 8 := by omega
                        have hz2 : ¬ 9223372036854775807 < S.size + 8 + T2.size := by omega
                        have hz3 : ¬ 9223372036854775807 < S.size + 8 + T2.size + 1 := by omega
                        have hwb : IntKind.i64.wrap ((b : Int) * 3600) = (z : Int) := by rw [IntKind.wrap_i64] <;> omega
                        clear hz hzI
                        have hlN := B4.out.lt
                        clear hTe
                        go_wp2_with (go_at_call 21; refine ((HT2 _).out).mono ?_; rintro e6 w6 ⟨rfl, hb6⟩; have b6 := B4.out.below hb6 hlN; have n5 := b6.cell (j := 5) rfl; have fN := b6.frozen)
                        go_meet
                        refine ⟨_, rfl, ?_, ?_, ?_, ?_⟩
                        · show _ = _
                          rw [selL_back, ← HS.out, backT, if_neg h0, ← hTd2.out]
                          simp [ByteArray.data_append, offL]
                        · have hs := b6.set 5 (.int .i64 (z : Int))
                          rw [nodZ_set] at hs
                          exact hs
                        · rw [nodZ_mat W V k m z 0]
                          exact (R4.out.below (hb6.mono (Nat.le_of_lt hlN))).below ((Below.refl (M + 1) w6).setCell (p := ⟨M + 1, 5, none⟩) (Nat.le_refl _) _)
                        · exact (HB4.out.trans (hb6.mono (by omega))).setCell (p := ⟨M + 1, 5, none⟩) (by show M ≤ M + 1; omega) _
                    case rest =>
                      obtain ⟨S2, rfl, HS2, B5, R5, HB5⟩ := hcut
                      generalize wc = w5 at *
                      have hS2z : S2.size ≤ 1000 := by
                        have hb9 : (backT b).length ≤ 20 := by
                          have : b = 0 ∨ b = 1 ∨ b = 2 := by omega
                          rcases this with rfl | rfl | rfl <;> decide
                        rw [Lib.size_eq, HS2.out, selL_back, ← HS.out, List.length_append, ← Lib.size_eq]
                        omega
                      have P1 := sel_law HW.out h1 h60 HKB.out HV.out h200 hk hm1 hm2 hb3 HS2.out (by omega)
                      rw [nodZ_eq HZ.out] at P1
                      clear hz hzI HZ hz9
                      have hSm : S2.size ≤ maxLen := by unfold maxLen; omega
                      have H5 := Lib.hid (parse_any S2 w5 hSm (fun _ _ h => lexR_err h))
                      rw [P1] at H5
                      have P2 := bad_law (s := W ++ ⟨#[123, 49, 125]⟩) HW.out h1 h60 HKB.out (by simp [ByteArray.data_append])
                      have hWz : (W ++ (⟨#[123, 49, 125]⟩ : ByteArray)).size ≤ maxLen := by
                        rw [ByteArray.size_append, show (⟨#[123, 49, 125]⟩ : ByteArray).size = 3 from rfl]
                        unfold maxLen; omega
                      have H6 := fun (X : World) => Lib.hid (parse_any (W ++ ⟨#[123, 49, 125]⟩) X hWz (fun _ _ h => lexR_err h))
                      rw [P2] at H6
                      generalize hnd : nodZ W V k m z = nd at *
                      have HML : Hid (nd.mat.length = 2) := by show _ = _; rw [← hnd]; rfl
                      have HNL : Hid (nd.names = []) := by show _ = _; rw [← hnd]; rfl
                      clear P1 P2 HS HS2 B4 R4 HB4 HL hnd
                      have hz1 : ¬ 9223372036854775807 < W.size + 3 := by omega
                      have hwW : IntKind.i64.wrap ((W.size : Int) + 1) = (W.size : Int) + 1 := by rw [IntKind.wrap_i64] <;> omega
                      go_wp2_with fail
                      refine (H5.out).mono ?_
                      rintro e w7 ⟨⟨A7, c7, h7, hO7⟩, hb7⟩
                      have h7 : e = .returned (.tuple #[.slice A7 1 c7, .int .i64 0, .int .i64 0]) := h7
                      subst h7
                      go_wp2_with fail
                      refine ((H6 _).out).mono ?_
                      rintro e w8 ⟨⟨A8, c8, h8, hO8⟩, hb8⟩
                      have h8 : e = .returned (.tuple #[.slice A8 0 c8, .int .i64 ((W.size : Int) + 1), .int .i64 181]) := h8
                      subst h8
                      have hlN := B5.out.lt
                      have hs7 := hb7.size
                      have hs8 := hb8.size
                      have hb78 := hb7.trans (hb8.mono hs7)
                      have b8 := B5.out.below hb78 hlN
                      have hba : Below w8.heap.size w8 (w8.alloc (.cells (nodC nd (some ⟨M, 0, none⟩) 2 none 0).toArray 37)) := (Below.refl _ _).alloc (Nat.le_refl _) _
                      have r1 := (hO7.rd.below hb8).below (hba.mono hs8)
                      have r2 : RdNods (w8.alloc (.cells (nodC nd (some ⟨M, 0, none⟩) 2 none 0).toArray 37)) (w8.heap.size + 1) (some ⟨w8.heap.size, 0, none⟩) [nd] := by
                        refine ⟨[nodC nd (some ⟨M, 0, none⟩) 2 none 0], Rd.new w8 (by simp [nodC]) _ (by simp), rfl, fun i y hy => ?_⟩
                        cases i with
                        | succ i => simp at hy
                        | zero =>
                          simp at hy
                          subst hy
                          exact ⟨_, rfl, some ⟨M, 0, none⟩, 2, none, 0, rfl, ((R5.out.below (hb78.mono (by omega))).below (hba.mono (by omega))).more (by omega), by rw [HNL.out]; exact Rd.nil_, by rw [HML.out]; exact Nat.le_refl _, by simp [maxLen], by rw [HNL.out]; exact Nat.le_refl _, by simp [maxLen]⟩
                      have hSn := sameNodes_any [nd] [nd] A7 (some ⟨w8.heap.size, 0, none⟩) 1 1 c7 1 w7.heap.size (w8.heap.size + 1) _ r1 r2 (by rw [World.size_alloc]; omega) (by rw [World.size_alloc]; exact Nat.le_refl _) rfl rfl (by simp [maxLen]) (by simp [maxLen])
                      rw [decide_eq_true rfl] at hSn
                      have HSn := Lib.hid hSn
                      have HB8 := Lib.hid (((HB1.out.trans (HbS.out.mono hs1)).trans (HB5.out.mono (by omega))).trans (hb78.mono (by omega)))
                      have HBa := Lib.hid (hba)
                      have e0 := b8.cell (j := 0) rfl
                      have e1 := b8.cell (j := 1) rfl
                      have e2 := b8.cell (j := 2) rfl
                      have e3 := b8.cell (j := 3) rfl
                      have e4 := b8.cell (j := 4) rfl
                      have e5 := b8.cell (j := 5) rfl
                      have e6 := b8.cell (j := 6) rfl
                      have e7 := b8.cell (j := 7) rfl
                      have e8 := b8.cell (j := 8) rfl
                      have e9 := b8.cell (j := 9) rfl
                      clear H5 H6 B5 R5 HB5 b8 r1 r2 hSn hba hO7 hO8 hb7 hb8 hb78 HML HNL HbS
                      go_wp2_with fail
                      refine (HSn.out).mono ?_
                      rintro e w9 ⟨rfl, hb9⟩
                      have HB9 := Lib.hid ((HB8.out.trans (HBa.out.mono HB8.out.size)).trans (hb9.mono (by rw [World.size_alloc]; have := HB8.out.size; omega)))
                      clear hb9 HSn HBa e0 e1 e2 e3 e4 e5 e6 e7 e8 e9
                      go_wp2_with fail
                      refine (pawake_any _).mono ?_
                      rintro e w10 ⟨rfl, hb10⟩
                      go_wp2_with fail
                      go_ret
                      exact ⟨rfl, HB9.out.trans (hb10.mono HB9.out.size)⟩
            · have h200I : (200 : Int) < (V.size : Int) := by omega
              go_wp2_with fail
              refine (pawake_any _).mono ?_
              rintro e w9 ⟨rfl, hb9⟩
              go_wp2_with fail
              go_ret
              exact ⟨rfl, HB1.out.trans (hb9.mono HB1.out.size)⟩
        · have h60I : (60 : Int) < (W.size : Int) := by omega
          go_wp2_with fail
          refine (pawake_any _).mono ?_
          rintro e w9 ⟨rfl, hb9⟩
          go_wp2_with fail
          go_ret
          exact ⟨rfl, hb9⟩
      · have hwe : W.toList.isEmpty = true := isEmpty_yes h1
        go_wp2_with fail
        refine (pawake_any _).mono ?_
        rintro e w9 ⟨rfl, hb9⟩
        go_wp2_with fail
        go_ret
        exact ⟨rfl, hb9⟩
end Go.Proofs.Ytdikmklijpcjdaa
