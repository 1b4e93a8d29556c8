/- The document's writer: names, brackets, values. -/
import Derived.Test.YtakfnojiaakfpaaGreatDoorRShwA
import Derived.Test.YtakfnojiaakfpaaGreatDoorTailP
namespace Go.Proofs.YtakfnojiaakfpaaGreatDoor
open Go.RowKit
theorem joinT_snoc : ∀ {l : List ByteArray} (x : ByteArray), l ≠ [] → joinT (l ++ [x]) = joinT l ++ sCommaB ++ x
  | [], _, h => absurd rfl h
  | [a], x, _ => rfl
  | a :: b :: r, x, _ => by
    have ih := joinT_snoc (l := b :: r) x (by simp)
    show a ++ sCommaB ++ joinT ((b :: r) ++ [x]) = a ++ sCommaB ++ joinT (b :: r) ++ sCommaB ++ x
    rw [ih]
    simp only [ByteArray.append_assoc]
theorem joinT_upto : ∀ (l : List ByteArray) (k : Nat), (joinT (l.take k)).size ≤ (joinT l).size
  | l, 0 => by simp [joinT]
  | [], k + 1 => by simp [joinT]
  | [a], k + 1 => by simp [joinT]
  | a :: b :: r, 1 => by
    show a.size ≤ (a ++ sCommaB ++ joinT (b :: r)).size
    rw [ByteArray.size_append, ByteArray.size_append]
    omega
  | a :: b :: r, k + 2 => by
    have ih := joinT_upto (b :: r) (k + 1)
    show (a ++ sCommaB ++ joinT ((b :: r).take (k + 1))).size ≤ (a ++ sCommaB ++ joinT (b :: r)).size
    rw [ByteArray.size_append, ByteArray.size_append, ByteArray.size_append, ByteArray.size_append]
    omega
set_option maxHeartbeats 1000000 in
theorem rlist_any (l : List ByteArray) (A : Option Addr) (n c B : Nat) (w : World) (hr : Rd w B 1 A (textsC l)) (hn : l.length = n) (hN : n ≤ 140737488355328) (_ : B ≤ w.heap.size) (hz : (joinT l).size ≤ 1099511627776) :
    Calls Tryz.prog 39 #[.slice A n c] w fun e w' => e = .returned (.string (namesT l)) ∧ w = w' := by
  have HN := Lib.hid hn
  have HR := Lib.hid hr
  clear hn hr
  go_enter Tryz.func39, Tryz.ntmps39
  go_wp2_with fail
  go_loop [4, 3] (fun i v => ∃ (k : Nat) (s : ByteArray), i = .int .i64 k ∧ v = .string s ∧ k ≤ n ∧ Hid (s = (⟨#[40]⟩ : ByteArray) ++ joinT (l.take k))) (fun i _ => n - (intOf i).toNat)
  case atStart => exact ⟨0, _, rfl, rfl, by omega, rfl⟩
  case round =>
    obtain ⟨k, s, rfl, rfl, hk, HS⟩ := hrel
    have hk0 : (0 : Int) ≤ k := by omega
    have hs : s.size ≤ 1099511627778 := by
      have := joinT_upto l k
      rw [HS.out, ByteArray.size_append]
      show 1 + _ ≤ _
      omega
    by_cases hlt : k < n
    · have hltI : (k : Int) < n := by omega
      obtain ⟨x, hx⟩ := get_lt HN hlt
      obtain ⟨b, o, rfl, hb, m0⟩ := HR.out.at1 (textsC_at hx)
      have htk := take_snoc hx
      have hxs : x.size ≤ 1099511627776 := by
        have h1 := joinT_upto l (k + 1)
        rw [htk] at h1
        by_cases h0 : l.take k = []
        · rw [h0] at h1
          have : (joinT ([] ++ [x])).size = x.size := rfl
          omega
        · rw [joinT_snoc x h0, ByteArray.size_append] at h1
          omega
      have HTK := Lib.hid htk
      clear htk hx
      by_cases h0 : 0 < k
      · have h0I : (0 : Int) < k := by omega
        have HS2 : Hid (s ++ (⟨#[44, 32]⟩ : ByteArray) ++ x = (⟨#[40]⟩ : ByteArray) ++ joinT (l.take (k + 1))) := by
          show _ = _
          rw [HTK.out, joinT_snoc x (by
            intro h
            have := congrArg List.length h
            rw [List.length_take, HN.out] at this
            simp at this
            omega), HS.out]
          simp only [ByteArray.append_assoc]
          rfl
        have hsz : (s ++ (⟨#[44, 32]⟩ : ByteArray)).size ≤ 1099511627780 := by rw [ByteArray.size_append]; show _ + 2 ≤ _; omega
        clear HS
        go_wp2_with fail
        go_round
        case rel => exact ⟨k + 1, _, by go_num, by rw [HS2.out], by omega, rfl⟩
        case measure => simp [intOf]; omega
      · have h0I : ¬ (0 : Int) < k := by omega
        have hk00 : k = 0 := by omega
        have HS2 : Hid (s ++ x = (⟨#[40]⟩ : ByteArray) ++ joinT (l.take (k + 1))) := by
          show _ = _
          rw [HTK.out, HS.out, hk00]
          rfl
        clear HS hk00
        go_wp2_with fail
        go_round
        case rel => exact ⟨k + 1, _, by go_num, by rw [HS2.out], by omega, rfl⟩
        case measure => simp [intOf]; omega
    · have hltI : ¬ (k : Int) < n := by omega
      have HS2 : Hid (s ++ (⟨#[41]⟩ : ByteArray) = namesT l) := by
        show _ = _
        rw [HS.out, List.take_of_length_le (by rw [HN.out]; omega)]
        rfl
      go_wp2_with fail
      go_ret
      exact ⟨ret_string HS2.out, rfl⟩
set_option maxHeartbeats 1000000 in
theorem rclean_any (s : ByteArray) (w : World) (hs : s.size ≤ 1000000) : Calls Tryz.prog 18 #[.string s] w fun e w' => e = .returned (.bool (cleanB s)) ∧ w = w' := by
  go_enter Tryz.func18, Tryz.ntmps18
  go_wp2_with fail
  go_loop [3] (fun i => ∃ p : Nat, p ≤ s.size ∧ i = .int .i64 p ∧ Hid (∀ j (hj : j < s.size), j < p → byteOk s[j] = true)) (fun i => s.size - (intOf i).toNat)
  case atStart => exact ⟨0, by omega, rfl, fun j _ hj => by omega⟩
  case round =>
    obtain ⟨p, hp, rfl, HA3⟩ := hrel
    have hp0 : (0 : Int) ≤ p := by omega
    by_cases hlt3 : p < s.size
    · have hltI3 : (p : Int) < (s.size : Int) := by omega
      cases hc : byteOk s[p] with
      | true =>
        have hA4 := clean_step hlt3 hc HA3
        simp only [byteOk, Bool.or_eq_true, decide_eq_true_eq] at hc
        by_cases h32 : 32 ≤ s[p].toNat
        · have g1 : ¬ (s[p].toNat : Int) < 32 := by omega
          clear hc
          go_wp2_with fail
          go_round
          case rel => exact ⟨p + 1, by omega, by go_num, hA4⟩
          case measure => simp [intOf]; omega
        · have g1 : (s[p].toNat : Int) < 32 := by omega
          have g2 : (s[p].toNat : Int) = 10 := by omega
          clear hc
          go_wp2_with fail
          go_round
          case rel => exact ⟨p + 1, by omega, by go_num, hA4⟩
          case measure => simp [intOf]; omega
      | false =>
        have HF := Lib.hid (clean_no hlt3 hc)
        simp only [byteOk, Bool.or_eq_false_iff, decide_eq_false_iff_not] at hc
        have g1 : (s[p].toNat : Int) < 32 := by omega
        have g2 : ¬ (s[p].toNat : Int) = 10 := by omega
        clear hc
        go_wp2_with fail
        go_ret
        exact ⟨ret_bool HF.out.symm, rfl⟩
    · have hltI3 : ¬ (p : Int) < (s.size : Int) := by omega
      have HC := Lib.hid (clean_all fun j hj => HA3.out j hj (by omega))
      go_wp2_with fail
      go_ret
      exact ⟨ret_bool HC.out.symm, rfl⟩
set_option maxRecDepth 100000 in
set_option maxHeartbeats 4000000 in
theorem rspanT_any (v : Int) (w : World) (h0 : 1 ≤ v) (h1 : v < 2147483648) :
    Calls Tryz.prog 77 #[.int .i64 v] w fun e w' => e = .returned (.string (spanT v)) ∧ Below w.heap.size w w' := by
  go_enter Tryz.func77, Tryz.ntmps77
  go_upto_region 2 with fail
  generalize hW : World.alloc _ _ = W1
  have HX : Hid (Blk W1 w.heap.size 2 [.int .i64 86400, .int .i64 3600, .int .i64 60, .int .i64 1]) := by show Blk _ _ _ _; rw [← hW]; exact Blk.new _ _ _
  have HB : Hid (Below w.heap.size w W1) := by show Below _ _ _; rw [← hW]; exact (Below.refl _ _).alloc (Nat.le_refl _) _
  clear hW
  have hbs0 := HB.out.size
  go_wp2_with fail
  go_loop [4] (fun i => ∃ k : Nat, k ≤ 3 ∧ i = .int .i64 k ∧ Hid (SpanSt v k)) (fun i => 4 - (intOf i).toNat)
  case atStart => exact ⟨0, by omega, rfl, ⟨fun h => by omega, fun h => by omega, fun h => by omega⟩⟩
  case round =>
    obtain ⟨k, hk, rfl, HS⟩ := hrel
    rcases (by omega : k = 0 ∨ k = 1 ∨ k = 2 ∨ k = 3) with rfl | rfl | rfl | rfl
    · have p0 := HX.out.cell (j := 0) rfl
      by_cases hd : v % 86400 = 0
      ·
        have hT : Hid (spanT v = decT (v / 86400) ++ (⟨#[100]⟩ : ByteArray)) := by
          have hs := HS.out
          unfold SpanSt at hs
          show _ = _
          unfold spanT
          rw [if_pos hd]
          rfl
        have hb : ((v % 86400 == 0) : Bool) = true := by simp [hd]
        have hq0 : 0 < v / 86400 := by omega
        have hq1 : v / 86400 < 2147483648 := by omega
        obtain ⟨m, hm⟩ : ∃ m : Nat, v / 86400 = (m : Int) := ⟨(v / 86400).toNat, by omega⟩
        have HD := fun W : World => Lib.hid (rdecimal_any m (by omega) (by omega) W)
        have hsz := decT_size (v := (m : Int)) (by omega)
        rw [hm] at hT
        go_upto_region 6 with fail
        apply wp_region_later_allocP (.cells #[.string ⟨#[100]⟩, .string ⟨#[104]⟩, .string ⟨#[109]⟩, .string ⟨#[115]⟩] 9) [0, 1, 2, 3, 4, 5, 6, 8] 7 24 [9, 10] [11, 12] (fun b => .slice (some ⟨b, 0, none⟩) 4 4) (by kernel_rfl) (by kernel_rfl) rfl rfl (by rfl) (fun _ h => by rw [h]; rfl)
        case hAl =>
          intro a w K hK
          unfold wpOp
          refine Or.inl ?_
          go_simp
          exact hK
        case h =>
          intro V hV
          have hbV := hV.below
          have hXV := HX.out.below hbV HX.out.lt
          have x0 := later_cell hXV (j := 0) rfl
          simp only [pickL, List.getElem?_cons_succ, List.getElem?_cons_zero]
          unfold LatC
          repeat (go_big_quiet_step ((go_at_call 111; exact later_call (HD _).out)))
          refine wpQuiet_nil ?_
          rfl
        case hM =>
          intro b V hV hbk
          have hK : Blk V b 9 [.string ⟨#[100]⟩, .string ⟨#[104]⟩, .string ⟨#[109]⟩, .string ⟨#[115]⟩] := hbk
          have k0 := later_cell hK (j := 0) rfl
          clear hK hbk
          simp only [pickL, List.getElem?_cons_succ, List.getElem?_cons_zero]
          unfold LatC
          go_simp
          go_big_quiet_step (fail)
          go_big_quiet_step (fail)
          refine wpQuiet_nil ?_
          rfl
        case hT =>
          intro w' b hb hbk hbs
          simp only [pickL, List.getElem?_cons_succ, List.getElem?_cons_zero]
          go_wp2_with fail
          go_ret
          exact ⟨ret_string hT.out.symm, HB.out.trans (hb.mono hbs0)⟩
      · have hb : ((v % 86400 == 0) : Bool) = false := by simp [hd]
        have hs2 : Hid (SpanSt v (0 + 1)) := by
          have hs := HS.out
          unfold SpanSt at hs
          refine ⟨fun h => ?_, fun h => ?_, fun h => ?_⟩ <;> first | exact hd | exact hs.1 (by omega) | exact hs.2.1 (by omega) | (exfalso; omega)
        go_wp2_with fail
        go_round
        case rel => exact ⟨0 + 1, by omega, by go_num, hs2⟩
        case measure => simp [intOf]
    · have p0 := HX.out.cell (j := 1) rfl
      by_cases hd : v % 3600 = 0
      ·
        have hT : Hid (spanT v = decT (v / 3600) ++ (⟨#[104]⟩ : ByteArray)) := by
          have hs := HS.out
          unfold SpanSt at hs
          show _ = _
          unfold spanT
          rw [if_neg (hs.1 (by decide)), if_pos hd]
          rfl
        have hb : ((v % 3600 == 0) : Bool) = true := by simp [hd]
        have hq0 : 0 < v / 3600 := by omega
        have hq1 : v / 3600 < 2147483648 := by omega
        obtain ⟨m, hm⟩ : ∃ m : Nat, v / 3600 = (m : Int) := ⟨(v / 3600).toNat, by omega⟩
        have HD := fun W : World => Lib.hid (rdecimal_any m (by omega) (by omega) W)
        have hsz := decT_size (v := (m : Int)) (by omega)
        rw [hm] at hT
        go_upto_region 6 with fail
        apply wp_region_later_allocP (.cells #[.string ⟨#[100]⟩, .string ⟨#[104]⟩, .string ⟨#[109]⟩, .string ⟨#[115]⟩] 9) [0, 1, 2, 3, 4, 5, 6, 8] 7 24 [9, 10] [11, 12] (fun b => .slice (some ⟨b, 0, none⟩) 4 4) (by kernel_rfl) (by kernel_rfl) rfl rfl (by rfl) (fun _ h => by rw [h]; rfl)
        case hAl =>
          intro a w K hK
          unfold wpOp
          refine Or.inl ?_
          go_simp
          exact hK
        case h =>
          intro V hV
          have hbV := hV.below
          have hXV := HX.out.below hbV HX.out.lt
          have x0 := later_cell hXV (j := 1) rfl
          simp only [pickL, List.getElem?_cons_succ, List.getElem?_cons_zero]
          unfold LatC
          repeat (go_big_quiet_step ((go_at_call 111; exact later_call (HD _).out)))
          refine wpQuiet_nil ?_
          rfl
        case hM =>
          intro b V hV hbk
          have hK : Blk V b 9 [.string ⟨#[100]⟩, .string ⟨#[104]⟩, .string ⟨#[109]⟩, .string ⟨#[115]⟩] := hbk
          have k0 := later_cell hK (j := 1) rfl
          clear hK hbk
          simp only [pickL, List.getElem?_cons_succ, List.getElem?_cons_zero]
          unfold LatC
          go_simp
          go_big_quiet_step (fail)
          go_big_quiet_step (fail)
          refine wpQuiet_nil ?_
          rfl
        case hT =>
          intro w' b hb hbk hbs
          simp only [pickL, List.getElem?_cons_succ, List.getElem?_cons_zero]
          go_wp2_with fail
          go_ret
          exact ⟨ret_string hT.out.symm, HB.out.trans (hb.mono hbs0)⟩
      · have hb : ((v % 3600 == 0) : Bool) = false := by simp [hd]
        have hs2 : Hid (SpanSt v (1 + 1)) := by
          have hs := HS.out
          unfold SpanSt at hs
          refine ⟨fun h => ?_, fun h => ?_, fun h => ?_⟩ <;> first | exact hd | exact hs.1 (by omega) | exact hs.2.1 (by omega) | (exfalso; omega)
        go_wp2_with fail
        go_round
        case rel => exact ⟨1 + 1, by omega, by go_num, hs2⟩
        case measure => simp [intOf]
    · have p0 := HX.out.cell (j := 2) rfl
      by_cases hd : v % 60 = 0
      ·
        have hT : Hid (spanT v = decT (v / 60) ++ (⟨#[109]⟩ : ByteArray)) := by
          have hs := HS.out
          unfold SpanSt at hs
          show _ = _
          unfold spanT
          rw [if_neg (hs.1 (by decide)), if_neg (hs.2.1 (by decide)), if_pos hd]
          rfl
        have hb : ((v % 60 == 0) : Bool) = true := by simp [hd]
        have hq0 : 0 < v / 60 := by omega
        have hq1 : v / 60 < 2147483648 := by omega
        obtain ⟨m, hm⟩ : ∃ m : Nat, v / 60 = (m : Int) := ⟨(v / 60).toNat, by omega⟩
        have HD := fun W : World => Lib.hid (rdecimal_any m (by omega) (by omega) W)
        have hsz := decT_size (v := (m : Int)) (by omega)
        rw [hm] at hT
        go_upto_region 6 with fail
        apply wp_region_later_allocP (.cells #[.string ⟨#[100]⟩, .string ⟨#[104]⟩, .string ⟨#[109]⟩, .string ⟨#[115]⟩] 9) [0, 1, 2, 3, 4, 5, 6, 8] 7 24 [9, 10] [11, 12] (fun b => .slice (some ⟨b, 0, none⟩) 4 4) (by kernel_rfl) (by kernel_rfl) rfl rfl (by rfl) (fun _ h => by rw [h]; rfl)
        case hAl =>
          intro a w K hK
          unfold wpOp
          refine Or.inl ?_
          go_simp
          exact hK
        case h =>
          intro V hV
          have hbV := hV.below
          have hXV := HX.out.below hbV HX.out.lt
          have x0 := later_cell hXV (j := 2) rfl
          simp only [pickL, List.getElem?_cons_succ, List.getElem?_cons_zero]
          unfold LatC
          repeat (go_big_quiet_step ((go_at_call 111; exact later_call (HD _).out)))
          refine wpQuiet_nil ?_
          rfl
        case hM =>
          intro b V hV hbk
          have hK : Blk V b 9 [.string ⟨#[100]⟩, .string ⟨#[104]⟩, .string ⟨#[109]⟩, .string ⟨#[115]⟩] := hbk
          have k0 := later_cell hK (j := 2) rfl
          clear hK hbk
          simp only [pickL, List.getElem?_cons_succ, List.getElem?_cons_zero]
          unfold LatC
          go_simp
          go_big_quiet_step (fail)
          go_big_quiet_step (fail)
          refine wpQuiet_nil ?_
          rfl
        case hT =>
          intro w' b hb hbk hbs
          simp only [pickL, List.getElem?_cons_succ, List.getElem?_cons_zero]
          go_wp2_with fail
          go_ret
          exact ⟨ret_string hT.out.symm, HB.out.trans (hb.mono hbs0)⟩
      · have hb : ((v % 60 == 0) : Bool) = false := by simp [hd]
        have hs2 : Hid (SpanSt v (2 + 1)) := by
          have hs := HS.out
          unfold SpanSt at hs
          refine ⟨fun h => ?_, fun h => ?_, fun h => ?_⟩ <;> first | exact hd | exact hs.1 (by omega) | exact hs.2.1 (by omega) | (exfalso; omega)
        go_wp2_with fail
        go_round
        case rel => exact ⟨2 + 1, by omega, by go_num, hs2⟩
        case measure => simp [intOf]
    · have p0 := HX.out.cell (j := 3) rfl
      obtain ⟨m, hm⟩ : ∃ m : Nat, v = (m : Int) := ⟨v.toNat, by omega⟩
      subst hm
      have hT : Hid (spanT (m : Int) = decT (m : Int) ++ (⟨#[115]⟩ : ByteArray)) := by
        have hs := HS.out
        unfold SpanSt at hs
        show _ = _
        unfold spanT
        rw [if_neg (hs.1 (by decide)), if_neg (hs.2.1 (by decide)), if_neg (hs.2.2 (by decide))]
        rfl
      have HD := fun W : World => Lib.hid (rdecimal_any m (by omega) (by omega) W)
      have hsz := decT_size (v := (m : Int)) (by omega)
      go_upto_region 6 with fail
      apply wp_region_later_allocP (.cells #[.string ⟨#[100]⟩, .string ⟨#[104]⟩, .string ⟨#[109]⟩, .string ⟨#[115]⟩] 9) [0, 1, 2, 3, 4, 5, 6, 8] 7 24 [9, 10] [11, 12] (fun b => .slice (some ⟨b, 0, none⟩) 4 4) (by kernel_rfl) (by kernel_rfl) rfl rfl (by rfl) (fun _ h => by rw [h]; rfl)
      case hAl =>
        intro a w K hK
        unfold wpOp
        refine Or.inl ?_
        go_simp
        exact hK
      case h =>
        intro V hV
        have hbV := hV.below
        have hXV := HX.out.below hbV HX.out.lt
        have x0 := later_cell hXV (j := 3) rfl
        simp only [pickL, List.getElem?_cons_succ, List.getElem?_cons_zero]
        unfold LatC
        repeat (go_big_quiet_step ((go_at_call 111; exact later_call (HD _).out)))
        refine wpQuiet_nil ?_
        rfl
      case hM =>
        intro b V hV hbk
        have hK : Blk V b 9 [.string ⟨#[100]⟩, .string ⟨#[104]⟩, .string ⟨#[109]⟩, .string ⟨#[115]⟩] := hbk
        have k0 := later_cell hK (j := 3) rfl
        clear hK hbk
        simp only [pickL, List.getElem?_cons_succ, List.getElem?_cons_zero]
        unfold LatC
        go_simp
        go_big_quiet_step (fail)
        go_big_quiet_step (fail)
        refine wpQuiet_nil ?_
        rfl
      case hT =>
        intro w' b hb hbk hbs
        simp only [pickL, List.getElem?_cons_succ, List.getElem?_cons_zero]
        go_wp2_with fail
        go_ret
        exact ⟨ret_string hT.out.symm, HB.out.trans (hb.mono hbs0)⟩
end Go.Proofs.YtakfnojiaakfpaaGreatDoor
