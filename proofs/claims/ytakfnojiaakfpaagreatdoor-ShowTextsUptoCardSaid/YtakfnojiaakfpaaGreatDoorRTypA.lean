/- Types of trees: small functions of the document's answer. -/
import Derived.Test.YtakfnojiaakfpaaGreatDoorTypSrc
import Derived.Test.YtakfnojiaakfpaaGreatDoorRefLexN
namespace Go.Proofs.YtakfnojiaakfpaaGreatDoor
open Go.RowKit
set_option maxHeartbeats 400000 in
theorem rspan_any (v l : Int) (w : World) : Calls Tryz.prog 73 #[.int .i64 v, .int .i64 l] w fun e w' => e = .returned (.bool (spanB v l)) ∧ w = w' := by
  go_enter Tryz.func73, Tryz.ntmps73
  go_wp2
  all_goals
    go_ret
    refine ⟨ret_bool ?_, rfl⟩
    simp only [spanB]
    first | (simp; done) | (simp; omega) | (rw [Bool.eq_iff_iff]; simp; omega)
set_option maxHeartbeats 1000000 in
theorem rparts_any (k : Int) (w : World) : Calls Tryz.prog 32 #[.int .i64 k] w fun e w' => e = .returned (.int .i64 (partsN k)) ∧ w = w' := by
  by_cases h1 : k = 1
  · subst h1
    go_enter Tryz.func32, Tryz.ntmps32
    go_wp2; go_ret; exact ⟨rfl, rfl⟩
  by_cases h2 : k = 2
  · subst h2
    go_enter Tryz.func32, Tryz.ntmps32
    go_wp2; go_ret; exact ⟨rfl, rfl⟩
  by_cases h3 : k = 3
  · subst h3
    go_enter Tryz.func32, Tryz.ntmps32
    go_wp2; go_ret; exact ⟨rfl, rfl⟩
  by_cases h4 : k = 4
  · subst h4
    go_enter Tryz.func32, Tryz.ntmps32
    go_wp2; go_ret; exact ⟨rfl, rfl⟩
  by_cases h5 : k = 5
  · subst h5
    go_enter Tryz.func32, Tryz.ntmps32
    go_wp2; go_ret; exact ⟨rfl, rfl⟩
  by_cases h6 : k = 6
  · subst h6
    go_enter Tryz.func32, Tryz.ntmps32
    go_wp2; go_ret; exact ⟨rfl, rfl⟩
  by_cases h7 : k = 7
  · subst h7
    go_enter Tryz.func32, Tryz.ntmps32
    go_wp2; go_ret; exact ⟨rfl, rfl⟩
  · have HT : Hid (partsN k = -1) := by show _ = _; rw [partsN, if_neg (by omega), if_neg h6, if_neg (by omega)]
    have e1 : (k == 1) = false := by rw [beq_eq_false_iff_ne]; exact h1
    have e2 : (k == 2) = false := by rw [beq_eq_false_iff_ne]; exact h2
    have e3 : (k == 3) = false := by rw [beq_eq_false_iff_ne]; exact h3
    have e4 : (k == 4) = false := by rw [beq_eq_false_iff_ne]; exact h4
    have e5 : (k == 5) = false := by rw [beq_eq_false_iff_ne]; exact h5
    have e6 : (k == 6) = false := by rw [beq_eq_false_iff_ne]; exact h6
    have e7 : (k == 7) = false := by rw [beq_eq_false_iff_ne]; exact h7
    clear h1 h2 h3 h4 h5 h6 h7
    go_enter Tryz.func32, Tryz.ntmps32
    go_wp2
    go_ret
    exact ⟨ret_int HT.out.symm, rfl⟩
set_option maxHeartbeats 1000000 in
theorem rnames_any (l : List ByteArray) (A : Option Addr) (n c B : Nat) (w : World) (hr : Rd w B 1 A (textsC l)) (hn : l.length = n) (hm : n ≤ maxLen) (hv : ∀ s ∈ l, s.size ≤ maxLen) :
    Calls Tryz.prog 71 #[.slice A n c] w fun e w' => e = .returned (.bool (l.all nameB)) ∧ w = w' := by
  unfold maxLen at hm
  have HV := Lib.hid hv
  have HN := Lib.hid hn
  clear hv hn
  go_enter Tryz.func71, Tryz.ntmps71
  go_wp2
  go_loop [3] (fun i => ∃ k : Nat, k ≤ n ∧ i = .int .i64 k ∧ Hid (∀ j s, j < k → l[j]? = some s → nameB s = true)) (fun i => n - (intOf i).toNat)
  case atStart => exact ⟨0, by omega, rfl, fun j s h => by omega⟩
  case round =>
    obtain ⟨k, hk, rfl, HA⟩ := hrel
    have hk0 : (0 : Int) ≤ k := by omega
    by_cases hlt : k < n
    · have hltI : (k : Int) < n := by omega
      obtain ⟨s, hs⟩ := get_lt HN hlt
      obtain ⟨b, o, hA, hbl, p0⟩ := hr.at1 (textsC_at hs)
      subst hA
      have HS := Lib.hid hs
      have HNm := fun W => Lib.hid (name2_any s W (HV.out s (List.mem_of_getElem? hs)))
      clear hs
      cases h1 : nameB s with
      | false =>
        rw [h1] at HNm
        have HT : Hid (l.all nameB = false) := by show _ = _; rw [List.all_eq_false]; exact ⟨s, List.mem_of_getElem? HS.out, by simp [h1]⟩
        clear h1
        go_wp2_with (go_at_call 74; refine ((HNm _).out).mono ?_; rintro e w' ⟨rfl, rfl⟩)
        go_ret
        exact ⟨ret_bool HT.out.symm, rfl⟩
      | true =>
        rw [h1] at HNm
        have HA2 := names_step HA HS.out h1
        clear h1 HA
        go_wp2_with (go_at_call 74; refine ((HNm _).out).mono ?_; rintro e w' ⟨rfl, rfl⟩)
        go_round
        case rel => exact ⟨k + 1, by omega, by go_num, HA2⟩
        case measure => simp [intOf]; omega
    · have hltI : ¬ (k : Int) < n := by omega
      have HT : Hid (l.all nameB = true) := by
        show _ = _
        rw [List.all_eq_true]
        intro s hs
        obtain ⟨j, hj, rfl⟩ := List.getElem_of_mem hs
        exact HA.out j _ (by have := HN.out; omega) (List.getElem?_eq_getElem hj)
      go_wp2
      go_ret
      exact ⟨ret_bool HT.out.symm, rfl⟩
end Go.Proofs.YtakfnojiaakfpaaGreatDoor
