/- Whether a text may be a label's name: tidewrackref3.Name. -/
import Derived.Test.YtakfnojiaakfpaaGreatDoorProg
import Derived.Test.YtakfnojiaakfpaaGreatDoorNameC
namespace Go.Proofs.YtakfnojiaakfpaaGreatDoor
open Go.RowKit

set_option maxHeartbeats 1000000 in
theorem name2_any (s : ByteArray) (w : World) (hs : s.size ≤ maxLen) :
    Calls Tryz.prog 74 #[.string s] w fun e w' => e = .returned (.bool (nameB s)) ∧ w = w' := by
  unfold maxLen at hs
  by_cases h : 1 ≤ s.size ∧ s.size ≤ 64
  · obtain ⟨h1, h2⟩ := h
    have he : s.toList.isEmpty = false := isEmpty_no h1
    cases h0 : dchar s[0] with
    | true =>
      have HT := Lib.hid (name_digit h1 h0)
      obtain ⟨h3, h4⟩ := dchar_yes h0
      clear h0
      go_enter Tryz.func74, Tryz.ntmps74
      go_wp2
      go_ret
      exact ⟨ret_bool HT.out.symm, rfl⟩
    | false =>
      have hcl := first_cls h0
      have H0 := Lib.hid h0
      clear h0
      have hf : (¬ 48 ≤ (s[0].toNat : Int) ∧ (s[0].toNat : Int) < 48) ∨ (48 ≤ (s[0].toNat : Int) ∧ ¬ (s[0].toNat : Int) ≤ 57 ∧ 57 < (s[0].toNat : Int)) := by omega
      clear hcl
      rcases hf with ⟨f1, f2⟩ | ⟨f1, f2, f3⟩
      all_goals
        go_enter Tryz.func74, Tryz.ntmps74
        go_wp2
        go_loop [3] (fun i => ∃ k : Nat, k ≤ s.size ∧ i = .int .i64 k ∧ Hid (∀ j (hj : j < s.size), j < k → nchar s[j] = true)) (fun i => s.size - (intOf i).toNat)
        case atStart => exact ⟨0, by omega, rfl, fun j _ hj => by omega⟩
        case round =>
          clear f1 f2
          obtain ⟨k, hk, rfl, hall⟩ := hrel
          by_cases hlt : k < s.size
          · have hltI : (k : Int) < (s.size : Int) := by omega
            cases hc : nchar s[k] with
            | true =>
              have hcl := yes_cls hc
              have hall2 := nall_step hlt hc hall
              clear hc hall
              rcases hcl with hcl | hcl | hcl | hcl
              · obtain ⟨c0, c1, c2, c3, c4, c5, c6, c7, c8, c9, c10, c11, c12, c13⟩ := cls1 hcl
                clear hcl
                go_wp2
                go_round
                case rel => exact ⟨k + 1, by omega, by go_num, hall2⟩
                case measure => simp [intOf]; omega
              · obtain ⟨c0, c1, c2, c3, c4, c5, c6, c7, c8, c9, c10, c11, c12, c13⟩ := cls3 hcl
                clear hcl
                go_wp2
                go_round
                case rel => exact ⟨k + 1, by omega, by go_num, hall2⟩
                case measure => simp [intOf]; omega
              · obtain ⟨c0, c1, c2, c3, c4, c5, c6, c7, c8, c9, c10, c11, c12, c13⟩ := cls5 hcl
                clear hcl
                go_wp2
                go_round
                case rel => exact ⟨k + 1, by omega, by go_num, hall2⟩
                case measure => simp [intOf]; omega
              · obtain ⟨c0, c1, c2, c3, c4, c5, c6, c7, c8, c9, c10, c11, c12, c13⟩ := cls7 hcl
                clear hcl
                go_wp2
                go_round
                case rel => exact ⟨k + 1, by omega, by go_num, hall2⟩
                case measure => simp [intOf]; omega
            | false =>
              have hcl := no_cls hc
              have hc2 := Lib.hid (name_false hlt hc)
              clear hc hall
              rcases hcl with hcl | hcl | hcl | hcl | hcl
              · obtain ⟨c0, c1, c2, c3, c4, c5, c6, c7, c8, c9, c10, c11, c12, c13⟩ := cls0 hcl
                clear hcl
                go_wp2
                go_ret
                exact ⟨ret_bool hc2.out.symm, rfl⟩
              · obtain ⟨c0, c1, c2, c3, c4, c5, c6, c7, c8, c9, c10, c11, c12, c13⟩ := cls2 hcl
                clear hcl
                go_wp2
                go_ret
                exact ⟨ret_bool hc2.out.symm, rfl⟩
              · obtain ⟨c0, c1, c2, c3, c4, c5, c6, c7, c8, c9, c10, c11, c12, c13⟩ := cls4 hcl
                clear hcl
                go_wp2
                go_ret
                exact ⟨ret_bool hc2.out.symm, rfl⟩
              · obtain ⟨c0, c1, c2, c3, c4, c5, c6, c7, c8, c9, c10, c11, c12, c13⟩ := cls6 hcl
                clear hcl
                go_wp2
                go_ret
                exact ⟨ret_bool hc2.out.symm, rfl⟩
              · obtain ⟨c0, c1, c2, c3, c4, c5, c6, c7, c8, c9, c10, c11, c12, c13⟩ := cls8 hcl
                clear hcl
                go_wp2
                go_ret
                exact ⟨ret_bool hc2.out.symm, rfl⟩
          · have hks : k = s.size := by omega
            have HT := Lib.hid (name_true h1 h2 H0.out (by rw [hks] at hall; exact hall))
            clear hks
            go_wp2
            go_ret
            exact ⟨ret_bool HT.out.symm, rfl⟩
  · have HT := Lib.hid (name_len h)
    by_cases h1 : 1 ≤ s.size
    · have he : s.toList.isEmpty = false := isEmpty_no h1
      have h2 : ¬ (s.size : Int) ≤ 64 := by omega
      have h3 : (64 : Int) < s.size := by omega
      clear h
      go_enter Tryz.func74, Tryz.ntmps74
      go_wp2
      go_ret
      exact ⟨ret_bool HT.out.symm, rfl⟩
    · have he : s.toList.isEmpty = true := isEmpty_yes h1
      have h2 : (s.size : Int) < 1 := by omega
      clear h
      go_enter Tryz.func74, Tryz.ntmps74
      go_wp2
      go_ret
      exact ⟨ret_bool HT.out.symm, rfl⟩
end Go.Proofs.YtakfnojiaakfpaaGreatDoor
