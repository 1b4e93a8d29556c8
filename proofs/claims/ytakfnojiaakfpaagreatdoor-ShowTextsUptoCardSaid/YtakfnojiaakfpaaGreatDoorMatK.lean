/- May matchers be: the program's and the document's answer. -/
import Derived.Test.YtakfnojiaakfpaaGreatDoorNodS
import Derived.Test.YtakfnojiaakfpaaGreatDoorName
namespace Go.Proofs.YtakfnojiaakfpaaGreatDoor
open Go.RowKit

def kindB (k : Int) : Bool := decide (1 ≤ k) && decide (k ≤ 4)
def matB (m : Mat) : Bool := kindB m.kind && nameB m.name && decide (m.val.size ≤ 256)
def matCode (ms : List Mat) : Int := if 8 < ms.length then 41 else if ms.all matB then 0 else 40
theorem matCode_long {ms : List Mat} {n : Nat} (hn : ms.length = n) (h : 8 < n) : matCode ms = 41 := by rw [matCode, if_pos (by omega)]
theorem matCode_bad {ms : List Mat} {n k : Nat} {m : Mat} (hn : ms.length = n) (h : ¬ 8 < n) (hk : ms[k]? = some m) (hm : matB m = false) : matCode ms = 40 := by
  rw [matCode, if_neg (by omega), if_neg]
  intro ha
  have := List.all_eq_true.1 ha m (List.mem_of_getElem? hk)
  rw [hm] at this; cases this
theorem matCode_ok {ms : List Mat} {n : Nat} (hn : ms.length = n) (h : ¬ 8 < n) (ha : ∀ j m, j < n → ms[j]? = some m → matB m = true) : matCode ms = 0 := by
  rw [matCode, if_neg (by omega), if_pos]
  rw [List.all_eq_true]
  intro m hm
  obtain ⟨j, hj, rfl⟩ := List.getElem_of_mem hm
  exact ha j _ (by omega) (List.getElem?_eq_getElem hj)
theorem mat_step {ms : List Mat} {k : Nat} {m : Mat} (h : Hid (∀ j x, j < k → ms[j]? = some x → matB x = true)) (hk : ms[k]? = some m) (hm : matB m = true) : Hid (∀ j x, j < k + 1 → ms[j]? = some x → matB x = true) := by
  intro j x hj hx
  by_cases e : j = k
  · subst e; rw [hk] at hx; injection hx with hx; subst hx; exact hm
  · exact h.out j x (by omega) hx
set_option maxHeartbeats 400000 in
theorem kind_any (k : Int) (w : World) : Calls Tryz.prog 103 #[.int .i64 k] w fun e w' => e = .returned (.bool (kindB k)) ∧ w = w' := by
  by_cases h : 1 ≤ k
  · have HT : Hid (kindB k = decide (k ≤ 4)) := by show _ = _; rw [kindB, decide_eq_true h]; rfl
    go_enter Tryz.func103, Tryz.ntmps103
    go_wp2
    go_ret
    exact ⟨ret_bool HT.out.symm, rfl⟩
  · have HT : Hid (kindB k = false) := by show _ = _; rw [kindB, decide_eq_false h]; rfl
    go_enter Tryz.func103, Tryz.ntmps103
    go_wp2
    go_ret
    exact ⟨ret_bool HT.out.symm, rfl⟩
set_option maxHeartbeats 400000 in
theorem lname_any (s : ByteArray) (w : World) (hs : s.size ≤ maxLen) : Calls Tryz.prog 104 #[.string s] w fun e w' => e = .returned (.bool (nameB s)) ∧ w = w' := by
  have H := fun W => Lib.hid (name1_any s W hs)
  go_enter Tryz.func104, Tryz.ntmps104
  go_wp2_with (go_at_call 121; refine ((H _).out).mono ?_; rintro e w' ⟨rfl, rfl⟩)
  go_ret
  exact ⟨rfl, rfl⟩
def MatCode (ms : List Mat) (w : World) (e : Ending) (w' : World) : Prop := e = .returned (.int .i64 (matCode ms)) ∧ Below w.heap.size w w'
set_option maxRecDepth 100000 in
set_option maxHeartbeats 2000000 in
theorem matCheck_any (ms : List Mat) (A : Option Addr) (n c B : Nat) (w : World) (hr : Rd w B 3 A (matsC ms)) (hn : ms.length = n) (hB : B ≤ w.heap.size) (hml : n ≤ maxLen) (hv : ∀ m ∈ ms, m.name.size ≤ maxLen) :
    Calls Tryz.prog 65 #[.slice A n c] w (MatCode ms w) := by
  unfold maxLen at hml
  have HN := Lib.hid hn
  have HV := Lib.hid hv
  by_cases hbig : 8 < n
  · have hI : (8 : Int) < n := by omega
    have HT := Lib.hid (matCode_long hn hbig)
    clear hn hbig hv
    go_enter Tryz.func65, Tryz.ntmps65
    go_wp2
    go_ret
    exact ⟨ret_int (by rw [HT.out]), Below.refl _ _⟩
  · have hI : ¬ (8 : Int) < n := by omega
    clear hn hv
    go_enter Tryz.func65, Tryz.ntmps65
    go_wp2
    go_loopw [10] (fun i wr => ∃ k : Nat, k ≤ n ∧ i = .int .i64 k ∧ Hid (∀ j x, j < k → ms[j]? = some x → matB x = true) ∧ Below w.heap.size w wr) (fun i _ => n - (intOf i).toNat)
    case atStart => exact ⟨0, by omega, rfl, fun j x h => by omega, Below.refl _ _⟩
    case round =>
      obtain ⟨k, hk, rfl, HA, hb⟩ := hrel
      have hk0 : (0 : Int) ≤ k := by omega
      have hbs := hb.size
      by_cases hlt : k < n
      · have hltI : (k : Int) < n := by omega
        obtain ⟨m, hm⟩ := get_lt HN hlt
        obtain ⟨b, o, hA, hbl, p0, p1, p2⟩ := (hr.below (hb.mono hB)).at_mat hm
        subst hA
        have hbl2 : b < wr.heap.size := by omega
        have HM := Lib.hid hm
        have hns := HV.out m (List.mem_of_getElem? hm)
        have HK := fun W => Lib.hid (kind_any m.kind W)
        have HNm := fun W => Lib.hid (lname_any m.name W hns)
        have hcase : matB m = (kindB m.kind && nameB m.name && decide (m.val.size ≤ 256)) := rfl
        clear hm hns
        cases h1 : kindB m.kind with
        | false =>
          rw [h1] at HK hcase
          have HT := Lib.hid (matCode_bad HN.out hbig HM.out hcase)
          clear h1 hcase
          go_wp2_with (go_at_call 103; refine ((HK _).out).mono ?_; rintro e w' ⟨rfl, rfl⟩)
          go_ret
          exact ⟨ret_int (by rw [HT.out]), hb.alloc hbs _⟩
        | true =>
          rw [h1] at HK hcase
          cases h2 : nameB m.name with
          | false =>
            rw [h2] at HNm hcase
            have HT := Lib.hid (matCode_bad HN.out hbig HM.out hcase)
            clear h1 h2 hcase
            go_wp2_with (first | (go_at_call 103; refine ((HK _).out).mono ?_; rintro e w' ⟨rfl, rfl⟩) | (go_at_call 104; refine ((HNm _).out).mono ?_; rintro e w' ⟨rfl, rfl⟩))
            go_ret
            exact ⟨ret_int (by rw [HT.out]), hb.alloc hbs _⟩
          | true =>
            rw [h2] at HNm hcase
            by_cases h3 : m.val.size ≤ 256
            · have h3I : ¬ (256 : Int) < m.val.size := by omega
              have HA2 := mat_step HA HM.out (hcase.trans (by simp [h3]))
              clear h1 h2 h3 hcase HA
              go_wp2_with (first | (go_at_call 103; refine ((HK _).out).mono ?_; rintro e w' ⟨rfl, rfl⟩) | (go_at_call 104; refine ((HNm _).out).mono ?_; rintro e w' ⟨rfl, rfl⟩))
              go_roundw
              case rel => exact ⟨k + 1, by omega, by go_num, HA2, hb.alloc hbs _⟩
              case measure => simp [intOf]; omega
            · have h3I : (256 : Int) < m.val.size := by omega
              have HT := Lib.hid (matCode_bad HN.out hbig HM.out (hcase.trans (by simp [h3])))
              clear h1 h2 h3 hcase
              go_wp2_with (first | (go_at_call 103; refine ((HK _).out).mono ?_; rintro e w' ⟨rfl, rfl⟩) | (go_at_call 104; refine ((HNm _).out).mono ?_; rintro e w' ⟨rfl, rfl⟩))
              go_ret
              exact ⟨ret_int (by rw [HT.out]), hb.alloc hbs _⟩
      · have hltI : ¬ (k : Int) < n := by omega
        have HT := Lib.hid (matCode_ok HN.out hbig (fun j m hj hm => HA.out j m (by omega) hm))
        go_wp2
        go_ret
        exact ⟨ret_int (by rw [HT.out]), hb⟩
set_option maxRecDepth 100000 in
set_option maxHeartbeats 2000000 in
theorem rmatCheck_any (ms : List Mat) (A : Option Addr) (n c B : Nat) (w : World) (hr : Rd w B 3 A (matsC ms)) (hn : ms.length = n) (hml : n ≤ maxLen) (hv : ∀ m ∈ ms, m.name.size ≤ maxLen) :
    Calls Tryz.prog 34 #[.slice A n c] w fun e w' => e = .returned (.int .i64 (matCode ms)) ∧ w = w' := by
  unfold maxLen at hml
  have HN := Lib.hid hn
  have HV := Lib.hid hv
  by_cases hbig : 8 < n
  · have hI : (8 : Int) < n := by omega
    have HT := Lib.hid (matCode_long hn hbig)
    clear hn hbig hv
    go_enter Tryz.func34, Tryz.ntmps34
    go_wp2
    go_ret
    exact ⟨ret_int (by rw [HT.out]), rfl⟩
  · have hI : ¬ (8 : Int) < n := by omega
    clear hn hv
    go_enter Tryz.func34, Tryz.ntmps34
    go_wp2
    go_loop [3] (fun i => ∃ k : Nat, k ≤ n ∧ i = .int .i64 k ∧ Hid (∀ j x, j < k → ms[j]? = some x → matB x = true)) (fun i => n - (intOf i).toNat)
    case atStart => exact ⟨0, by omega, rfl, fun j x h => by omega⟩
    case round =>
      obtain ⟨k, hk, rfl, HA⟩ := hrel
      have hk0 : (0 : Int) ≤ k := by omega
      by_cases hlt : k < n
      · have hltI : (k : Int) < n := by omega
        obtain ⟨m, hm⟩ := get_lt HN hlt
        obtain ⟨b, o, hA, hbl, p0, p1, p2⟩ := hr.at_mat hm
        subst hA
        have HM := Lib.hid hm
        have hns := HV.out m (List.mem_of_getElem? hm)
        have HNm := fun W => Lib.hid (name2_any m.name W hns)
        have hcase : matB m = (kindB m.kind && nameB m.name && decide (m.val.size ≤ 256)) := rfl
        clear hm hns
        by_cases h1 : m.kind < 1
        · have HT := Lib.hid (matCode_bad HN.out hbig HM.out (hcase.trans (by simp [kindB]; omega)))
          clear hcase
          go_wp2_with fail
          go_ret
          exact ⟨ret_int (by rw [HT.out]), rfl⟩
        by_cases h1' : 4 < m.kind
        · have HT := Lib.hid (matCode_bad HN.out hbig HM.out (hcase.trans (by simp [kindB]; omega)))
          clear hcase
          go_wp2_with fail
          go_ret
          exact ⟨ret_int (by rw [HT.out]), rfl⟩
        have hkb : kindB m.kind = true := by simp [kindB]; omega
        rw [hkb] at hcase
        clear hkb
        cases h2 : nameB m.name with
        | false =>
          rw [h2] at HNm hcase
          have HT := Lib.hid (matCode_bad HN.out hbig HM.out hcase)
          clear h2 hcase
          go_wp2_with (go_at_call 74; refine ((HNm _).out).mono ?_; rintro e w' ⟨rfl, rfl⟩)
          go_ret
          exact ⟨ret_int (by rw [HT.out]), rfl⟩
        | true =>
          rw [h2] at HNm hcase
          by_cases h3 : m.val.size ≤ 256
          · have h3I : ¬ (256 : Int) < m.val.size := by omega
            have HA2 := mat_step HA HM.out (hcase.trans (by simp [h3]))
            clear h2 h3 hcase HA
            go_wp2_with (go_at_call 74; refine ((HNm _).out).mono ?_; rintro e w' ⟨rfl, rfl⟩)
            go_round
            case rel => exact ⟨k + 1, by omega, by go_num, HA2⟩
            case measure => simp [intOf]; omega
          · have h3I : (256 : Int) < m.val.size := by omega
            have HT := Lib.hid (matCode_bad HN.out hbig HM.out (hcase.trans (by simp [h3])))
            clear h2 h3 hcase
            go_wp2_with (go_at_call 74; refine ((HNm _).out).mono ?_; rintro e w' ⟨rfl, rfl⟩)
            go_ret
            exact ⟨ret_int (by rw [HT.out]), rfl⟩
      · have hltI : ¬ (k : Int) < n := by omega
        have HT := Lib.hid (matCode_ok HN.out hbig (fun j m hj hm => HA.out j m (by omega) hm))
        go_wp2
        go_ret
        exact ⟨ret_int (by rw [HT.out]), rfl⟩
end Go.Proofs.YtakfnojiaakfpaaGreatDoor
