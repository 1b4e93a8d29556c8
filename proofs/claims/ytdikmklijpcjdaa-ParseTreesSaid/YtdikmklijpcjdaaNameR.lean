/- Whether a text may be a label's name: tidewrackref3.Name. -/
import Derived.Test.YtdikmklijpcjdaaNameB
import Derived.Test.YtdikmklijpcjdaaProg
namespace Go.Proofs.Ytdikmklijpcjdaa
section
/-! ## NameC -/
open Go.RowKit
theorem cls0 {n : Int} (h : 0 ≤ n ∧ n ≤ 47) : n < 48 ∧ ¬ 48 ≤ n ∧ n < 65 ∧ ¬ 65 ≤ n ∧ n < 97 ∧ ¬ 97 ≤ n ∧ n ≤ 57 ∧ ¬ 57 < n ∧ n ≤ 90 ∧ ¬ 90 < n ∧ n ≤ 122 ∧ ¬ 122 < n ∧ (n == 95) = false ∧ (n != 95) = true := by
  refine ⟨?_, ?_, ?_, ?_, ?_, ?_, ?_, ?_, ?_, ?_, ?_, ?_, ?_, ?_⟩
  all_goals first | omega | (rw [beq_eq_false_iff_ne]; omega) | (rw [bne_iff_ne]; omega) | (rw [beq_iff_eq]; omega) | (rw [bne_eq_false_iff_eq]; omega)
theorem cls1 {n : Int} (h : 48 ≤ n ∧ n ≤ 57) : 48 ≤ n ∧ ¬ n < 48 ∧ n < 65 ∧ ¬ 65 ≤ n ∧ n < 97 ∧ ¬ 97 ≤ n ∧ n ≤ 57 ∧ ¬ 57 < n ∧ n ≤ 90 ∧ ¬ 90 < n ∧ n ≤ 122 ∧ ¬ 122 < n ∧ (n == 95) = false ∧ (n != 95) = true := by
  refine ⟨?_, ?_, ?_, ?_, ?_, ?_, ?_, ?_, ?_, ?_, ?_, ?_, ?_, ?_⟩
  all_goals first | omega | (rw [beq_eq_false_iff_ne]; omega) | (rw [bne_iff_ne]; omega) | (rw [beq_iff_eq]; omega) | (rw [bne_eq_false_iff_eq]; omega)
theorem cls2 {n : Int} (h : 58 ≤ n ∧ n ≤ 64) : 48 ≤ n ∧ ¬ n < 48 ∧ n < 65 ∧ ¬ 65 ≤ n ∧ n < 97 ∧ ¬ 97 ≤ n ∧ 57 < n ∧ ¬ n ≤ 57 ∧ n ≤ 90 ∧ ¬ 90 < n ∧ n ≤ 122 ∧ ¬ 122 < n ∧ (n == 95) = false ∧ (n != 95) = true := by
  refine ⟨?_, ?_, ?_, ?_, ?_, ?_, ?_, ?_, ?_, ?_, ?_, ?_, ?_, ?_⟩
  all_goals first | omega | (rw [beq_eq_false_iff_ne]; omega) | (rw [bne_iff_ne]; omega) | (rw [beq_iff_eq]; omega) | (rw [bne_eq_false_iff_eq]; omega)
theorem cls3 {n : Int} (h : 65 ≤ n ∧ n ≤ 90) : 48 ≤ n ∧ ¬ n < 48 ∧ 65 ≤ n ∧ ¬ n < 65 ∧ n < 97 ∧ ¬ 97 ≤ n ∧ 57 < n ∧ ¬ n ≤ 57 ∧ n ≤ 90 ∧ ¬ 90 < n ∧ n ≤ 122 ∧ ¬ 122 < n ∧ (n == 95) = false ∧ (n != 95) = true := by
  refine ⟨?_, ?_, ?_, ?_, ?_, ?_, ?_, ?_, ?_, ?_, ?_, ?_, ?_, ?_⟩
  all_goals first | omega | (rw [beq_eq_false_iff_ne]; omega) | (rw [bne_iff_ne]; omega) | (rw [beq_iff_eq]; omega) | (rw [bne_eq_false_iff_eq]; omega)
theorem cls4 {n : Int} (h : 91 ≤ n ∧ n ≤ 94) : 48 ≤ n ∧ ¬ n < 48 ∧ 65 ≤ n ∧ ¬ n < 65 ∧ n < 97 ∧ ¬ 97 ≤ n ∧ 57 < n ∧ ¬ n ≤ 57 ∧ 90 < n ∧ ¬ n ≤ 90 ∧ n ≤ 122 ∧ ¬ 122 < n ∧ (n == 95) = false ∧ (n != 95) = true := by
  refine ⟨?_, ?_, ?_, ?_, ?_, ?_, ?_, ?_, ?_, ?_, ?_, ?_, ?_, ?_⟩
  all_goals first | omega | (rw [beq_eq_false_iff_ne]; omega) | (rw [bne_iff_ne]; omega) | (rw [beq_iff_eq]; omega) | (rw [bne_eq_false_iff_eq]; omega)
theorem cls5 {n : Int} (h : 95 ≤ n ∧ n ≤ 95) : 48 ≤ n ∧ ¬ n < 48 ∧ 65 ≤ n ∧ ¬ n < 65 ∧ n < 97 ∧ ¬ 97 ≤ n ∧ 57 < n ∧ ¬ n ≤ 57 ∧ 90 < n ∧ ¬ n ≤ 90 ∧ n ≤ 122 ∧ ¬ 122 < n ∧ (n == 95) = true ∧ (n != 95) = false := by
  refine ⟨?_, ?_, ?_, ?_, ?_, ?_, ?_, ?_, ?_, ?_, ?_, ?_, ?_, ?_⟩
  all_goals first | omega | (rw [beq_eq_false_iff_ne]; omega) | (rw [bne_iff_ne]; omega) | (rw [beq_iff_eq]; omega) | (rw [bne_eq_false_iff_eq]; omega)
theorem cls6 {n : Int} (h : 96 ≤ n ∧ n ≤ 96) : 48 ≤ n ∧ ¬ n < 48 ∧ 65 ≤ n ∧ ¬ n < 65 ∧ n < 97 ∧ ¬ 97 ≤ n ∧ 57 < n ∧ ¬ n ≤ 57 ∧ 90 < n ∧ ¬ n ≤ 90 ∧ n ≤ 122 ∧ ¬ 122 < n ∧ (n == 95) = false ∧ (n != 95) = true := by
  refine ⟨?_, ?_, ?_, ?_, ?_, ?_, ?_, ?_, ?_, ?_, ?_, ?_, ?_, ?_⟩
  all_goals first | omega | (rw [beq_eq_false_iff_ne]; omega) | (rw [bne_iff_ne]; omega) | (rw [beq_iff_eq]; omega) | (rw [bne_eq_false_iff_eq]; omega)
theorem cls7 {n : Int} (h : 97 ≤ n ∧ n ≤ 122) : 48 ≤ n ∧ ¬ n < 48 ∧ 65 ≤ n ∧ ¬ n < 65 ∧ 97 ≤ n ∧ ¬ n < 97 ∧ 57 < n ∧ ¬ n ≤ 57 ∧ 90 < n ∧ ¬ n ≤ 90 ∧ n ≤ 122 ∧ ¬ 122 < n ∧ (n == 95) = false ∧ (n != 95) = true := by
  refine ⟨?_, ?_, ?_, ?_, ?_, ?_, ?_, ?_, ?_, ?_, ?_, ?_, ?_, ?_⟩
  all_goals first | omega | (rw [beq_eq_false_iff_ne]; omega) | (rw [bne_iff_ne]; omega) | (rw [beq_iff_eq]; omega) | (rw [bne_eq_false_iff_eq]; omega)
theorem cls8 {n : Int} (h : 123 ≤ n ∧ n ≤ 255) : 48 ≤ n ∧ ¬ n < 48 ∧ 65 ≤ n ∧ ¬ n < 65 ∧ 97 ≤ n ∧ ¬ n < 97 ∧ 57 < n ∧ ¬ n ≤ 57 ∧ 90 < n ∧ ¬ n ≤ 90 ∧ 122 < n ∧ ¬ n ≤ 122 ∧ (n == 95) = false ∧ (n != 95) = true := by
  refine ⟨?_, ?_, ?_, ?_, ?_, ?_, ?_, ?_, ?_, ?_, ?_, ?_, ?_, ?_⟩
  all_goals first | omega | (rw [beq_eq_false_iff_ne]; omega) | (rw [bne_iff_ne]; omega) | (rw [beq_iff_eq]; omega) | (rw [bne_eq_false_iff_eq]; omega)

theorem yes_cls {c : UInt8} (h : nchar c = true) : (48 ≤ (c.toNat : Int) ∧ (c.toNat : Int) ≤ 57) ∨ (65 ≤ (c.toNat : Int) ∧ (c.toNat : Int) ≤ 90) ∨ (95 ≤ (c.toNat : Int) ∧ (c.toNat : Int) ≤ 95) ∨ (97 ≤ (c.toNat : Int) ∧ (c.toNat : Int) ≤ 122) := by
  have := nchar_yes h; omega
theorem no_cls {c : UInt8} (h : nchar c = false) : (0 ≤ (c.toNat : Int) ∧ (c.toNat : Int) ≤ 47) ∨ (58 ≤ (c.toNat : Int) ∧ (c.toNat : Int) ≤ 64) ∨ (91 ≤ (c.toNat : Int) ∧ (c.toNat : Int) ≤ 94) ∨ (96 ≤ (c.toNat : Int) ∧ (c.toNat : Int) ≤ 96) ∨ (123 ≤ (c.toNat : Int) ∧ (c.toNat : Int) ≤ 255) := by
  have h1 := nchar_no h; have h2 := c.toNat_lt; omega
theorem first_cls {c : UInt8} (h : dchar c = false) : (0 ≤ (c.toNat : Int) ∧ (c.toNat : Int) ≤ 47) ∨ (58 ≤ (c.toNat : Int) ∧ (c.toNat : Int) ≤ 255) := by
  have h1 := dchar_no h; have h2 := c.toNat_lt; omega
end
section
/-! ## NameL -/
open Go.RowKit

set_option maxHeartbeats 1000000 in
theorem name1_any (s : ByteArray) (w : World) (hs : s.size ≤ maxLen) :
    Calls Try.prog 93 #[.string s] w fun e w' => e = .returned (.bool (nameB s)) ∧ w = w' := by
  unfold maxLen at hs
  by_cases h : 1 ≤ s.size ∧ s.size ≤ 64
  · obtain ⟨h1, h2⟩ := h
    have he : s.toList.isEmpty = false := isEmpty_no h1
    cases h0 : dchar s[0] with
    | true =>
      have HT := Lib.hid (name_digit h1 h0)
      obtain ⟨h3, h4⟩ := dchar_yes h0
      clear h0
      go_enter Try.func93, Try.ntmps93
      go_wp2
      go_ret
      exact ⟨ret_bool HT.out.symm, rfl⟩
    | false =>
      have hcl := first_cls h0
      have H0 := Lib.hid h0
      clear h0
      have hf : (¬ 48 ≤ (s[0].toNat : Int) ∧ (s[0].toNat : Int) < 48) ∨ (48 ≤ (s[0].toNat : Int) ∧ ¬ (s[0].toNat : Int) ≤ 57 ∧ 57 < (s[0].toNat : Int)) := by omega
      clear hcl
      rcases hf with ⟨f1, f2⟩ | ⟨f1, f2, f3⟩
      all_goals
        go_enter Try.func93, Try.ntmps93
        go_wp2
        go_loop [3] (fun i => ∃ k : Nat, k ≤ s.size ∧ i = .int .i64 k ∧ Hid (∀ j (hj : j < s.size), j < k → nchar s[j] = true)) (fun i => s.size - (intOf i).toNat)
        case atStart => exact ⟨0, by omega, rfl, fun j _ hj => by omega⟩
        case round =>
          clear f1 f2
          obtain ⟨k, hk, rfl, hall⟩ := hrel
          by_cases hlt : k < s.size
          · have hltI : (k : Int) < (s.size : Int) := by omega
            cases hc : nchar s[k] with
            | true =>
              have hcl := yes_cls hc
              have hall2 := nall_step hlt hc hall
              clear hc hall
              rcases hcl with hcl | hcl | hcl | hcl
              · obtain ⟨c0, c1, c2, c3, c4, c5, c6, c7, c8, c9, c10, c11, c12, c13⟩ := cls1 hcl
                clear hcl
                go_wp2
                go_round
                case rel => exact ⟨k + 1, by omega, by go_num, hall2⟩
                case measure => simp [intOf]; omega
              · obtain ⟨c0, c1, c2, c3, c4, c5, c6, c7, c8, c9, c10, c11, c12, c13⟩ := cls3 hcl
                clear hcl
                go_wp2
                go_round
                case rel => exact ⟨k + 1, by omega, by go_num, hall2⟩
                case measure => simp [intOf]; omega
              · obtain ⟨c0, c1, c2, c3, c4, c5, c6, c7, c8, c9, c10, c11, c12, c13⟩ := cls5 hcl
                clear hcl
                go_wp2
                go_round
                case rel => exact ⟨k + 1, by omega, by go_num, hall2⟩
                case measure => simp [intOf]; omega
              · obtain ⟨c0, c1, c2, c3, c4, c5, c6, c7, c8, c9, c10, c11, c12, c13⟩ := cls7 hcl
                clear hcl
                go_wp2
                go_round
                case rel => exact ⟨k + 1, by omega, by go_num, hall2⟩
                case measure => simp [intOf]; omega
            | false =>
              have hcl := no_cls hc
              have hc2 := Lib.hid (name_false hlt hc)
              clear hc hall
              rcases hcl with hcl | hcl | hcl | hcl | hcl
              · obtain ⟨c0, c1, c2, c3, c4, c5, c6, c7, c8, c9, c10, c11, c12, c13⟩ := cls0 hcl
                clear hcl
                go_wp2
                go_ret
                exact ⟨ret_bool hc2.out.symm, rfl⟩
              · obtain ⟨c0, c1, c2, c3, c4, c5, c6, c7, c8, c9, c10, c11, c12, c13⟩ := cls2 hcl
                clear hcl
                go_wp2
                go_ret
                exact ⟨ret_bool hc2.out.symm, rfl⟩
              · obtain ⟨c0, c1, c2, c3, c4, c5, c6, c7, c8, c9, c10, c11, c12, c13⟩ := cls4 hcl
                clear hcl
                go_wp2
                go_ret
                exact ⟨ret_bool hc2.out.symm, rfl⟩
              · obtain ⟨c0, c1, c2, c3, c4, c5, c6, c7, c8, c9, c10, c11, c12, c13⟩ := cls6 hcl
                clear hcl
                go_wp2
                go_ret
                exact ⟨ret_bool hc2.out.symm, rfl⟩
              · obtain ⟨c0, c1, c2, c3, c4, c5, c6, c7, c8, c9, c10, c11, c12, c13⟩ := cls8 hcl
                clear hcl
                go_wp2
                go_ret
                exact ⟨ret_bool hc2.out.symm, rfl⟩
          · have hks : k = s.size := by omega
            have HT := Lib.hid (name_true h1 h2 H0.out (by rw [hks] at hall; exact hall))
            clear hks
            go_wp2
            go_ret
            exact ⟨ret_bool HT.out.symm, rfl⟩
  · have HT := Lib.hid (name_len h)
    by_cases h1 : 1 ≤ s.size
    · have he : s.toList.isEmpty = false := isEmpty_no h1
      have h2 : ¬ (s.size : Int) ≤ 64 := by omega
      have h3 : (64 : Int) < s.size := by omega
      clear h
      go_enter Try.func93, Try.ntmps93
      go_wp2
      go_ret
      exact ⟨ret_bool HT.out.symm, rfl⟩
    · have he : s.toList.isEmpty = true := isEmpty_yes h1
      have h2 : (s.size : Int) < 1 := by omega
      clear h
      go_enter Try.func93, Try.ntmps93
      go_wp2
      go_ret
      exact ⟨ret_bool HT.out.symm, rfl⟩
end
section
/-! ## NameR -/
open Go.RowKit

set_option maxHeartbeats 1000000 in
theorem name2_any (s : ByteArray) (w : World) (hs : s.size ≤ maxLen) :
    Calls Try.prog 86 #[.string s] w fun e w' => e = .returned (.bool (nameB s)) ∧ w = w' := by
  unfold maxLen at hs
  by_cases h : 1 ≤ s.size ∧ s.size ≤ 64
  · obtain ⟨h1, h2⟩ := h
    have he : s.toList.isEmpty = false := isEmpty_no h1
    cases h0 : dchar s[0] with
    | true =>
      have HT := Lib.hid (name_digit h1 h0)
      obtain ⟨h3, h4⟩ := dchar_yes h0
      clear h0
      go_enter Try.func86, Try.ntmps86
      go_wp2
      go_ret
      exact ⟨ret_bool HT.out.symm, rfl⟩
    | false =>
      have hcl := first_cls h0
      have H0 := Lib.hid h0
      clear h0
      have hf : (¬ 48 ≤ (s[0].toNat : Int) ∧ (s[0].toNat : Int) < 48) ∨ (48 ≤ (s[0].toNat : Int) ∧ ¬ (s[0].toNat : Int) ≤ 57 ∧ 57 < (s[0].toNat : Int)) := by omega
      clear hcl
      rcases hf with ⟨f1, f2⟩ | ⟨f1, f2, f3⟩
      all_goals
        go_enter Try.func86, Try.ntmps86
        go_wp2
        go_loop [3] (fun i => ∃ k : Nat, k ≤ s.size ∧ i = .int .i64 k ∧ Hid (∀ j (hj : j < s.size), j < k → nchar s[j] = true)) (fun i => s.size - (intOf i).toNat)
        case atStart => exact ⟨0, by omega, rfl, fun j _ hj => by omega⟩
        case round =>
          clear f1 f2
          obtain ⟨k, hk, rfl, hall⟩ := hrel
          by_cases hlt : k < s.size
          · have hltI : (k : Int) < (s.size : Int) := by omega
            cases hc : nchar s[k] with
            | true =>
              have hcl := yes_cls hc
              have hall2 := nall_step hlt hc hall
              clear hc hall
              rcases hcl with hcl | hcl | hcl | hcl
              · obtain ⟨c0, c1, c2, c3, c4, c5, c6, c7, c8, c9, c10, c11, c12, c13⟩ := cls1 hcl
                clear hcl
                go_wp2
                go_round
                case rel => exact ⟨k + 1, by omega, by go_num, hall2⟩
                case measure => simp [intOf]; omega
              · obtain ⟨c0, c1, c2, c3, c4, c5, c6, c7, c8, c9, c10, c11, c12, c13⟩ := cls3 hcl
                clear hcl
                go_wp2
                go_round
                case rel => exact ⟨k + 1, by omega, by go_num, hall2⟩
                case measure => simp [intOf]; omega
              · obtain ⟨c0, c1, c2, c3, c4, c5, c6, c7, c8, c9, c10, c11, c12, c13⟩ := cls5 hcl
                clear hcl
                go_wp2
                go_round
                case rel => exact ⟨k + 1, by omega, by go_num, hall2⟩
                case measure => simp [intOf]; omega
              · obtain ⟨c0, c1, c2, c3, c4, c5, c6, c7, c8, c9, c10, c11, c12, c13⟩ := cls7 hcl
                clear hcl
                go_wp2
                go_round
                case rel => exact ⟨k + 1, by omega, by go_num, hall2⟩
                case measure => simp [intOf]; omega
            | false =>
              have hcl := no_cls hc
              have hc2 := Lib.hid (name_false hlt hc)
              clear hc hall
              rcases hcl with hcl | hcl | hcl | hcl | hcl
              · obtain ⟨c0, c1, c2, c3, c4, c5, c6, c7, c8, c9, c10, c11, c12, c13⟩ := cls0 hcl
                clear hcl
                go_wp2
                go_ret
                exact ⟨ret_bool hc2.out.symm, rfl⟩
              · obtain ⟨c0, c1, c2, c3, c4, c5, c6, c7, c8, c9, c10, c11, c12, c13⟩ := cls2 hcl
                clear hcl
                go_wp2
                go_ret
                exact ⟨ret_bool hc2.out.symm, rfl⟩
              · obtain ⟨c0, c1, c2, c3, c4, c5, c6, c7, c8, c9, c10, c11, c12, c13⟩ := cls4 hcl
                clear hcl
                go_wp2
                go_ret
                exact ⟨ret_bool hc2.out.symm, rfl⟩
              · obtain ⟨c0, c1, c2, c3, c4, c5, c6, c7, c8, c9, c10, c11, c12, c13⟩ := cls6 hcl
                clear hcl
                go_wp2
                go_ret
                exact ⟨ret_bool hc2.out.symm, rfl⟩
              · obtain ⟨c0, c1, c2, c3, c4, c5, c6, c7, c8, c9, c10, c11, c12, c13⟩ := cls8 hcl
                clear hcl
                go_wp2
                go_ret
                exact ⟨ret_bool hc2.out.symm, rfl⟩
          · have hks : k = s.size := by omega
            have HT := Lib.hid (name_true h1 h2 H0.out (by rw [hks] at hall; exact hall))
            clear hks
            go_wp2
            go_ret
            exact ⟨ret_bool HT.out.symm, rfl⟩
  · have HT := Lib.hid (name_len h)
    by_cases h1 : 1 ≤ s.size
    · have he : s.toList.isEmpty = false := isEmpty_no h1
      have h2 : ¬ (s.size : Int) ≤ 64 := by omega
      have h3 : (64 : Int) < s.size := by omega
      clear h
      go_enter Try.func86, Try.ntmps86
      go_wp2
      go_ret
      exact ⟨ret_bool HT.out.symm, rfl⟩
    · have he : s.toList.isEmpty = true := isEmpty_yes h1
      have h2 : (s.size : Int) < 1 := by omega
      clear h
      go_enter Try.func86, Try.ntmps86
      go_wp2
      go_ret
      exact ⟨ret_bool HT.out.symm, rfl⟩
end
end Go.Proofs.Ytdikmklijpcjdaa
