/- wave.digits, wave.number: is a text a number? -/
import Derived.Test.YtbnpleihhbpnlaaDoorNumP
import Derived.Test.YtbnpleihhbpnlaaDoorWavA
namespace Go.Proofs.YtbnpleihhbpnlaaDoor
open Go.RowKit

theorem dclass (c : UInt8) : ((c.toNat : Int) < 48 ∧ dchar c = false) ∨ (48 ≤ (c.toNat : Int) ∧ (c.toNat : Int) ≤ 57 ∧ dchar c = true) ∨ (48 ≤ (c.toNat : Int) ∧ 57 < (c.toNat : Int) ∧ dchar c = false) := by
  unfold dchar
  by_cases h1 : 48 ≤ c.toNat
  · by_cases h2 : c.toNat ≤ 57
    · right; left; refine ⟨by omega, by omega, ?_⟩; simp [h1, h2]
    · right; right; refine ⟨by omega, by omega, ?_⟩; simp [h2]
  · left; refine ⟨by omega, ?_⟩; simp [h1]
set_option maxHeartbeats 1000000 in
theorem digits_any (s : ByteArray) (w : World) (hs : s.size ≤ maxLen) : Calls Tryd.prog 37 #[.string s] w fun e w' => e = .returned (.int .i64 (digN s.data.toList)) ∧ w = w' := by
  unfold maxLen at hs
  go_enter Tryd.func37, Tryd.ntmps37
  go_wp2
  go_loop [3] (fun i => ∃ k : Nat, k ≤ s.size ∧ i = .int .i64 k ∧ Hid (digN s.data.toList = k + digN (s.data.toList.drop k))) (fun i => s.size - (intOf i).toNat)
  case atStart => exact ⟨0, by omega, rfl, by show _ = _; simp⟩
  case round =>
    obtain ⟨k, hk, rfl, HV⟩ := hrel
    by_cases hlt : k < s.size
    · have hltI : (k : Int) < s.size := by omega
      rcases dclass s[k] with ⟨h1, hd⟩ | ⟨h1, h2, hd⟩ | ⟨h1, h2, hd⟩
      · have HV2 := Lib.hid (HV.out.trans (by rw [digN_no hlt hd] : _ = k + 0))
        have h1' : ¬ 48 ≤ (s[k].toNat : Int) := by omega
        clear hd HV
        go_wp2_with fail
        go_ret
        exact ⟨ret_int (by rw [HV2.out]; rfl), rfl⟩
      · have HV2 := Lib.hid (HV.out.trans (by rw [digN_at hlt hd, ← Nat.add_assoc] : _ = k + 1 + digN (s.data.toList.drop (k + 1))))
        clear hd HV
        go_wp2_with fail
        go_round
        case rel => exact ⟨k + 1, by omega, by go_num, HV2⟩
        case measure => simp [intOf]; omega
      · have HV2 := Lib.hid (HV.out.trans (by rw [digN_no hlt hd] : _ = k + 0))
        have h2' : ¬ (s[k].toNat : Int) ≤ 57 := by omega
        clear hd HV
        go_wp2_with fail
        go_ret
        exact ⟨ret_int (by rw [HV2.out]; rfl), rfl⟩
    · have hks : k = s.size := by omega
      have HV2 := Lib.hid (HV.out.trans (by rw [hks, digN_end] : _ = k + 0))
      clear hks HV
      go_wp2_with fail
      go_ret
      exact ⟨ret_int (by rw [HV2.out]; rfl), rfl⟩
theorem head_is {s : ByteArray} (h0 : 0 < s.size) : s.data.toList.head? = some s[0] := by
  have := drop_at h0
  rw [List.drop_zero] at this
  rw [this]; rfl
theorem need_take {s : ByteArray} {n : Nat} (h1 : 1 < n) (hn : n ≤ s.size) (h0 : 0 < s.size) : needB (s.data.toList.take n) = ((s[0].toNat : Int) == 48) := by
  have e : (s.data.toList.take n).head? = some s[0] := by
    rw [List.head?_take, if_neg (by omega), head_is h0]
  have hl : (s.data.toList.take n).length = n := by rw [List.length_take, ← Lib.size_eq]; omega
  rw [needB, e, hl, decide_eq_true h1, Bool.true_and]
  have : (s[0] == (48 : UInt8)) = ((s[0].toNat : Int) == 48) := by
    by_cases hc : s[0] = 48
    · rw [hc]; rfl
    · have : s[0].toNat ≠ 48 := fun h' => hc (UInt8.toNat_inj.1 h')
      rw [beq_eq_false_iff_ne.2 hc, eq_comm, beq_eq_false_iff_ne]; omega
  rw [← this]; rfl
set_option maxRecDepth 100000 in
set_option maxHeartbeats 2000000 in
theorem number_any (s : ByteArray) (w : World) (hs : s.size ≤ 140737488355328) : Calls Tryd.prog 32 #[.string s] w fun e w' => e = .returned (.bool (numB s.data.toList)) ∧ w = w' := by
  obtain ⟨n, hn⟩ : ∃ n, digN s.data.toList = n := ⟨_, rfl⟩
  have hns : n ≤ s.size := hn ▸ digN_le' s
  have HD := fun W => Lib.hid (digits_any s W (by unfold maxLen; omega))
  rw [hn] at HD
  have hnI : (n : Int) ≤ s.size := by omega
  have hl : s.data.toList.length = s.size := (Lib.size_eq s).symm
  by_cases h0 : n = 0
  · have HT : Hid (numB s.data.toList = false) := by show numB _ = _; rw [numB, hn, if_pos (.inl h0)]
    clear hn hns hl
    subst h0
    go_enter Tryd.func32, Tryd.ntmps32
    go_wp2_with (go_at_call 37; refine ((HD _).out).mono ?_; rintro e w' ⟨rfl, rfl⟩)
    go_ret
    exact ⟨ret_bool HT.out.symm, rfl⟩
  · have hnz : ((n : Int) == 0) = false := by rw [beq_eq_false_iff_ne]; omega
    have hn0 : (0 : Int) ≤ n := by omega
    have hs0 : 0 < s.size := by omega
    by_cases hne : needB (s.data.toList.take n) = true
    · have h1 : 1 < n := by
        unfold needB at hne
        rw [Bool.and_eq_true, decide_eq_true_eq, List.length_take] at hne
        omega
      have h1I : 1 < (n : Int) := by omega
      have h48 := (need_take h1 hns hs0).symm.trans hne
      have HT : Hid (numB s.data.toList = false) := by show numB _ = _; rw [numB, hn, if_pos (.inr hne)]
      clear hn hns hl hne
      go_enter Tryd.func32, Tryd.ntmps32
      go_wp2_with (go_at_call 37; refine ((HD _).out).mono ?_; rintro e w' ⟨rfl, rfl⟩)
      go_ret
      exact ⟨ret_bool HT.out.symm, rfl⟩
    · have hne2 : (1 < (n : Int) ∧ ((s[0].toNat : Int) == 48) = false) ∨ ¬ 1 < (n : Int) := by
        by_cases h1 : 1 < n
        · left
          rw [need_take h1 hns hs0] at hne
          exact ⟨by omega, by simpa using hne⟩
        · right; omega
      by_cases hf : n = s.size
      · have HT : Hid (numB s.data.toList = decide (n ≤ 15)) := by show numB _ = _; rw [numB, hn, if_neg (by simp [h0, hne]), if_pos (by omega)]
        have hfI : ((n : Int) == s.size) = true := by rw [beq_iff_eq]; omega
        clear hn hns hl hne hf h0
        rcases hne2 with ⟨h1, h48⟩ | h1
        all_goals
          go_enter Tryd.func32, Tryd.ntmps32
          go_wp2_with (go_at_call 37; refine ((HD _).out).mono ?_; rintro e w' ⟨rfl, rfl⟩)
          go_ret
          exact ⟨ret_bool (by rw [HT.out]; simp; omega), rfl⟩
      · have hlt : n < s.size := by omega
        obtain ⟨m, hm⟩ : ∃ m, digN (s.data.toList.drop (n + 1)) = m := ⟨_, rfl⟩
        have hm' : digN (s.extract (n + 1) s.size).data.toList = m := by rw [extract_toL, List.take_of_length_le (by simp)]; exact hm
        have HM := fun W => Lib.hid (digits_any (s.extract (n + 1) s.size) W (by have := extract_size_le s (n + 1) s.size; unfold maxLen; omega))
        rw [hm'] at HM
        have hml : m ≤ s.size := by have := digN_le' (s.extract (n + 1) s.size); have := extract_size_le s (n + 1) s.size; omega
        have hfI : ((n : Int) == s.size) = false := by rw [beq_eq_false_iff_ne]; omega
        have HT : Hid (numB s.data.toList = (((s[n].toNat : Int) == 46) && decide (0 < m) && decide (n + 1 + m = s.size) && decide (n + m ≤ 15))) := by
          show numB _ = _
          rw [numB, hn, if_neg (by simp [h0, hne]), if_neg (by omega), hm, hl]
          have : s.data.toList[n]? = some s[n] := by rw [List.getElem?_eq_getElem (by omega)]; rfl
          rw [this]
          rfl
        have hltI : (n : Int) + 1 ≤ s.size := by omega
        have hltJ : (n : Int) < s.size := by omega
        have hw1 : IntKind.i64.wrap ((n : Int) + 1) = ((n + 1 : Nat) : Int) := by rw [IntKind.wrap_i64]; omega
        have hw2 : IntKind.i64.wrap (((n + 1 : Nat) : Int) + m) = ((n + 1 + m : Nat) : Int) := by rw [IntKind.wrap_i64]; omega
        have hw3 : IntKind.i64.wrap ((n : Int) + m) = ((n + m : Nat) : Int) := by rw [IntKind.wrap_i64]; omega
        have hk0 : (0 : Int) ≤ ((n + 1 : Nat) : Int) := by omega
        have hk1 : ((n + 1 : Nat) : Int) ≤ s.size := by omega
        clear hn hns hl hne hf hm hm'
        cases c1 : ((s[n].toNat : Int) == 46)
        all_goals
          rcases hne2 with ⟨h1, h48⟩ | h1
          all_goals
            go_enter Tryd.func32, Tryd.ntmps32
            go_wp2_with ((go_at_call 37; first | (with_reducible refine ((HM _).out).mono ?_; rintro e w' ⟨rfl, rfl⟩) | (with_reducible refine ((HD _).out).mono ?_; rintro e w' ⟨rfl, rfl⟩)))
            all_goals
              go_ret
              refine ⟨ret_bool ?_, rfl⟩
              rw [HT.out, c1]
              clear HT HM HD hw1 hw2 hw3
              first
                | rfl
                | (simp; done)
                | (simp; intros; omega)
                | (rw [Bool.eq_iff_iff]; simp; omega)
end Go.Proofs.YtbnpleihhbpnlaaDoor
