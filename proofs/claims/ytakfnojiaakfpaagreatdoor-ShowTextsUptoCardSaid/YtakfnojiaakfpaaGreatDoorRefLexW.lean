/- The document's own lexing: digits without a needless nought. -/
import Derived.Test.YtakfnojiaakfpaaGreatDoorPar2
namespace Go.Proofs.YtakfnojiaakfpaaGreatDoor
open Go.RowKit
set_option maxHeartbeats 1000000 in
theorem rdigit_any (c : UInt8) (w : World) : Calls Tryz.prog 108 #[.int .u8 (c.toNat : Int)] w fun e w' => e = .returned (.bool (dchar c)) ∧ w = w' := by
  have hu := u8_le c
  have h0 : (0 : Int) ≤ c.toNat := by omega
  have h255 : (c.toNat : Int) ≤ 255 := by omega
  rcases lclass c.toNat hu with h | h | h | h | h | h | h | h | h | h
  · have h1 : (0 : Int) ≤ c.toNat := by omega
    have h2 : (c.toNat : Int) ≤ 47 := by omega
    have HT : Hid (dchar c = false) := by show dchar c = _; simp [dchar]; omega
    clear h hu
    go_enter Tryz.func108, Tryz.ntmps108
    go_wp2
    go_ret
    exact ⟨ret_bool (by first | exact HT.out.symm | (rw [HT.out]; simp; omega)), rfl⟩
  · have h1 : (48 : Int) ≤ c.toNat := by omega
    have h2 : (c.toNat : Int) ≤ 57 := by omega
    have HT : Hid (dchar c = true) := by show dchar c = _; simp [dchar]; omega
    clear h hu
    go_enter Tryz.func108, Tryz.ntmps108
    go_wp2
    go_ret
    exact ⟨ret_bool (by first | exact HT.out.symm | (rw [HT.out]; simp; omega)), rfl⟩
  · have h1 : (58 : Int) ≤ c.toNat := by omega
    have h2 : (c.toNat : Int) ≤ 58 := by omega
    have HT : Hid (dchar c = false) := by show dchar c = _; simp [dchar]; omega
    clear h hu
    go_enter Tryz.func108, Tryz.ntmps108
    go_wp2
    go_ret
    exact ⟨ret_bool (by first | exact HT.out.symm | (rw [HT.out]; simp; omega)), rfl⟩
  · have h1 : (59 : Int) ≤ c.toNat := by omega
    have h2 : (c.toNat : Int) ≤ 64 := by omega
    have HT : Hid (dchar c = false) := by show dchar c = _; simp [dchar]; omega
    clear h hu
    go_enter Tryz.func108, Tryz.ntmps108
    go_wp2
    go_ret
    exact ⟨ret_bool (by first | exact HT.out.symm | (rw [HT.out]; simp; omega)), rfl⟩
  · have h1 : (65 : Int) ≤ c.toNat := by omega
    have h2 : (c.toNat : Int) ≤ 90 := by omega
    have HT : Hid (dchar c = false) := by show dchar c = _; simp [dchar]; omega
    clear h hu
    go_enter Tryz.func108, Tryz.ntmps108
    go_wp2
    go_ret
    exact ⟨ret_bool (by first | exact HT.out.symm | (rw [HT.out]; simp; omega)), rfl⟩
  · have h1 : (91 : Int) ≤ c.toNat := by omega
    have h2 : (c.toNat : Int) ≤ 94 := by omega
    have HT : Hid (dchar c = false) := by show dchar c = _; simp [dchar]; omega
    clear h hu
    go_enter Tryz.func108, Tryz.ntmps108
    go_wp2
    go_ret
    exact ⟨ret_bool (by first | exact HT.out.symm | (rw [HT.out]; simp; omega)), rfl⟩
  · have h1 : (95 : Int) ≤ c.toNat := by omega
    have h2 : (c.toNat : Int) ≤ 95 := by omega
    have HT : Hid (dchar c = false) := by show dchar c = _; simp [dchar]; omega
    clear h hu
    go_enter Tryz.func108, Tryz.ntmps108
    go_wp2
    go_ret
    exact ⟨ret_bool (by first | exact HT.out.symm | (rw [HT.out]; simp; omega)), rfl⟩
  · have h1 : (96 : Int) ≤ c.toNat := by omega
    have h2 : (c.toNat : Int) ≤ 96 := by omega
    have HT : Hid (dchar c = false) := by show dchar c = _; simp [dchar]; omega
    clear h hu
    go_enter Tryz.func108, Tryz.ntmps108
    go_wp2
    go_ret
    exact ⟨ret_bool (by first | exact HT.out.symm | (rw [HT.out]; simp; omega)), rfl⟩
  · have h1 : (97 : Int) ≤ c.toNat := by omega
    have h2 : (c.toNat : Int) ≤ 122 := by omega
    have HT : Hid (dchar c = false) := by show dchar c = _; simp [dchar]; omega
    clear h hu
    go_enter Tryz.func108, Tryz.ntmps108
    go_wp2
    go_ret
    exact ⟨ret_bool (by first | exact HT.out.symm | (rw [HT.out]; simp; omega)), rfl⟩
  · have h1 : (123 : Int) ≤ c.toNat := by omega
    have h2 : (c.toNat : Int) ≤ 255 := by omega
    have HT : Hid (dchar c = false) := by show dchar c = _; simp [dchar]; omega
    clear h hu
    go_enter Tryz.func108, Tryz.ntmps108
    go_wp2
    go_ret
    exact ⟨ret_bool (by first | exact HT.out.symm | (rw [HT.out]; simp; omega)), rfl⟩
def wholeB (l : List UInt8) : Bool := l.all dchar && decide (1 ≤ l.length) && !needB l
theorem whole_yes {s : ByteArray} (h : ∀ j (hj : j < s.size), j < s.size → dchar s[j] = true) : wholeB s.data.toList = (decide (1 ≤ s.size) && !needB s.data.toList) := by
  rw [wholeB, nall_true h, ← Lib.size_eq]; rfl
theorem whole_no {s : ByteArray} {k : Nat} (hk : k < s.size) (h : dchar s[k] = false) : wholeB s.data.toList = false := by
  rw [wholeB, nall_false hk h]; rfl
set_option maxRecDepth 100000 in
set_option maxHeartbeats 2000000 in
theorem whole_any (s : ByteArray) (w : World) (hs : s.size ≤ 140737488355328) : Calls Tryz.prog 107 #[.string s] w fun e w' => e = .returned (.bool (wholeB s.data.toList)) ∧ w = w' := by
  go_enter Tryz.func107, Tryz.ntmps107
  go_wp2_with fail
  go_loop [3] (fun i => ∃ k : Nat, k ≤ s.size ∧ i = .int .i64 k ∧ Hid (∀ j (hj : j < s.size), j < k → dchar s[j] = true)) (fun i => s.size - (intOf i).toNat)
  case atStart => exact ⟨0, by omega, rfl, fun j _ h => by omega⟩
  case round =>
    obtain ⟨k, hk, rfl, HA⟩ := hrel
    have hk0 : (0 : Int) ≤ k := by omega
    by_cases hlt : k < s.size
    · have hltI : (k : Int) < s.size := by omega
      cases hd : dchar s[k] with
      | true =>
        have HA2 := nall_step hlt hd HA
        have HD1 := fun (W : World) => Lib.hid (hd ▸ rdigit_any s[k] W)
        clear hd HA
        go_wp2_with (go_at_call 108; refine ((HD1 _).out).mono ?_; rintro e w' ⟨rfl, rfl⟩)
        go_round
        case rel => exact ⟨k + 1, by omega, by go_num, HA2⟩
        case measure => simp [intOf]; omega
      | false =>
        have HE := Lib.hid (whole_no hlt hd)
        have HD1 := fun (W : World) => Lib.hid (hd ▸ rdigit_any s[k] W)
        clear hd HA
        go_wp2_with (go_at_call 108; refine ((HD1 _).out).mono ?_; rintro e w' ⟨rfl, rfl⟩)
        go_ret
        exact ⟨ret_bool HE.out.symm, rfl⟩
    · have hltI : ¬ (k : Int) < s.size := by omega
      have HE := Lib.hid (whole_yes (s := s) fun j hj _ => HA.out j hj (by omega))
      clear HA
      by_cases h1 : 1 ≤ s.size
      · have hem := isEmpty_no h1
        have h0I : (0 : Int) < s.size := by omega
        by_cases h2 : s.size = 1
        · have h2I : ((s.size : Int) == 1) = true := by rw [beq_iff_eq]; omega
          have HT : Hid (wholeB s.data.toList = true) := by
            show _ = _
            rw [HE.out, decide_eq_true h1, needB, ← Lib.size_eq, decide_eq_false (by omega)]; rfl
          clear h2
          go_wp2_with fail
          go_ret
          exact ⟨ret_bool HT.out.symm, rfl⟩
        · have h2I : ((s.size : Int) == 1) = false := by rw [beq_eq_false_iff_ne]; omega
          have h3 : 0 < s.size := by omega
          by_cases h48 : s[0].toNat = 48
          · have h48I : ((s[0].toNat : Int) != 48) = false := by rw [bne_eq_false_iff_eq]; omega
            have HT : Hid (wholeB s.data.toList = false) := by
              show _ = _
              have : s[0] = 48 := UInt8.toNat_inj.1 h48
              rw [HE.out, needB, ← Lib.size_eq, decide_eq_true (by omega), head_at h3, this]; simp; omega
            clear h48
            go_wp2_with fail
            go_ret
            exact ⟨ret_bool HT.out.symm, rfl⟩
          · have h48I : ((s[0].toNat : Int) != 48) = true := by rw [bne_iff_ne]; omega
            have HT : Hid (wholeB s.data.toList = true) := by
              show _ = _
              have : s[0] ≠ 48 := fun h => h48 (by rw [h]; rfl)
              rw [HE.out, needB, decide_eq_true h1, head_at h3]; simp [this]
            clear h48
            go_wp2_with fail
            go_ret
            exact ⟨ret_bool HT.out.symm, rfl⟩
      · have hem := isEmpty_yes h1
        have HT : Hid (wholeB s.data.toList = false) := by show _ = _; rw [HE.out, decide_eq_false h1]; rfl
        go_wp2_with fail
        go_ret
        exact ⟨ret_bool HT.out.symm, rfl⟩
end Go.Proofs.YtakfnojiaakfpaaGreatDoor
