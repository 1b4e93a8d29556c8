/- The document's own lexing: letters, runs. -/
import Derived.Test.YtakfnojiaakfpaaGreatDoorRefLexW
namespace Go.Proofs.YtakfnojiaakfpaaGreatDoor
open Go.RowKit
def letR (c : UInt8) : Bool := (97 ≤ c.toNat && c.toNat ≤ 122) || (65 ≤ c.toNat && c.toNat ≤ 90) || c.toNat == 95
set_option maxHeartbeats 1000000 in
theorem rletter_any (c : UInt8) (w : World) : Calls Tryz.prog 124 #[.int .u8 (c.toNat : Int)] w fun e w' => e = .returned (.bool (letR c)) ∧ w = w' := by
  have hu := u8_le c
  have h0 : (0 : Int) ≤ c.toNat := by omega
  have h255 : (c.toNat : Int) ≤ 255 := by omega
  rcases lclass c.toNat hu with h | h | h | h | h | h | h | h | h | h
  · have h1 : (0 : Int) ≤ c.toNat := by omega
    have h2 : (c.toNat : Int) ≤ 47 := by omega
    have HT : Hid (letR c = false) := by show letR c = _; simp [letR]; omega
    clear h hu
    go_enter Tryz.func124, Tryz.ntmps124
    go_wp2
    go_ret
    exact ⟨ret_bool (by first | exact HT.out.symm | (rw [HT.out]; simp; omega)), rfl⟩
  · have h1 : (48 : Int) ≤ c.toNat := by omega
    have h2 : (c.toNat : Int) ≤ 57 := by omega
    have HT : Hid (letR c = false) := by show letR c = _; simp [letR]; omega
    clear h hu
    go_enter Tryz.func124, Tryz.ntmps124
    go_wp2
    go_ret
    exact ⟨ret_bool (by first | exact HT.out.symm | (rw [HT.out]; simp; omega)), rfl⟩
  · have h1 : (58 : Int) ≤ c.toNat := by omega
    have h2 : (c.toNat : Int) ≤ 58 := by omega
    have HT : Hid (letR c = false) := by show letR c = _; simp [letR]; omega
    clear h hu
    go_enter Tryz.func124, Tryz.ntmps124
    go_wp2
    go_ret
    exact ⟨ret_bool (by first | exact HT.out.symm | (rw [HT.out]; simp; omega)), rfl⟩
  · have h1 : (59 : Int) ≤ c.toNat := by omega
    have h2 : (c.toNat : Int) ≤ 64 := by omega
    have HT : Hid (letR c = false) := by show letR c = _; simp [letR]; omega
    clear h hu
    go_enter Tryz.func124, Tryz.ntmps124
    go_wp2
    go_ret
    exact ⟨ret_bool (by first | exact HT.out.symm | (rw [HT.out]; simp; omega)), rfl⟩
  · have h1 : (65 : Int) ≤ c.toNat := by omega
    have h2 : (c.toNat : Int) ≤ 90 := by omega
    have HT : Hid (letR c = true) := by show letR c = _; simp [letR]; omega
    clear h hu
    go_enter Tryz.func124, Tryz.ntmps124
    go_wp2
    go_ret
    exact ⟨ret_bool (by first | exact HT.out.symm | (rw [HT.out]; simp; omega)), rfl⟩
  · have h1 : (91 : Int) ≤ c.toNat := by omega
    have h2 : (c.toNat : Int) ≤ 94 := by omega
    have HT : Hid (letR c = false) := by show letR c = _; simp [letR]; omega
    clear h hu
    go_enter Tryz.func124, Tryz.ntmps124
    go_wp2
    go_ret
    exact ⟨ret_bool (by first | exact HT.out.symm | (rw [HT.out]; simp; omega)), rfl⟩
  · have h1 : (95 : Int) ≤ c.toNat := by omega
    have h2 : (c.toNat : Int) ≤ 95 := by omega
    have HT : Hid (letR c = true) := by show letR c = _; simp [letR]; omega
    clear h hu
    go_enter Tryz.func124, Tryz.ntmps124
    go_wp2
    go_ret
    exact ⟨ret_bool (by first | exact HT.out.symm | (rw [HT.out]; simp; omega)), rfl⟩
  · have h1 : (96 : Int) ≤ c.toNat := by omega
    have h2 : (c.toNat : Int) ≤ 96 := by omega
    have HT : Hid (letR c = false) := by show letR c = _; simp [letR]; omega
    clear h hu
    go_enter Tryz.func124, Tryz.ntmps124
    go_wp2
    go_ret
    exact ⟨ret_bool (by first | exact HT.out.symm | (rw [HT.out]; simp; omega)), rfl⟩
  · have h1 : (97 : Int) ≤ c.toNat := by omega
    have h2 : (c.toNat : Int) ≤ 122 := by omega
    have HT : Hid (letR c = true) := by show letR c = _; simp [letR]; omega
    clear h hu
    go_enter Tryz.func124, Tryz.ntmps124
    go_wp2
    go_ret
    exact ⟨ret_bool (by first | exact HT.out.symm | (rw [HT.out]; simp; omega)), rfl⟩
  · have h1 : (123 : Int) ≤ c.toNat := by omega
    have h2 : (c.toNat : Int) ≤ 255 := by omega
    have HT : Hid (letR c = false) := by show letR c = _; simp [letR]; omega
    clear h hu
    go_enter Tryz.func124, Tryz.ntmps124
    go_wp2
    go_ret
    exact ⟨ret_bool (by first | exact HT.out.symm | (rw [HT.out]; simp; omega)), rfl⟩
def RunOk (s : ByteArray) (q : UInt8 → Bool) (k : Nat) (w : World) (e : Ending) (w' : World) : Prop :=
  ∃ j : Nat, e = .returned (.int .i64 (j : Int)) ∧ k ≤ j ∧ j ≤ s.size ∧ (s.data.toList.drop k).takeWhile q = (s.extract k j).data.toList ∧ w = w'
set_option maxRecDepth 100000 in
set_option maxHeartbeats 2000000 in
theorem run_any (s : ByteArray) (q : UInt8 → Bool) (more : UInt8) (k : Nat) (w : World) (hs : s.size ≤ 4096) (hk : k ≤ s.size) (hq : ∀ c, q c = (dchar c || letR c || ((c.toNat : Int) == more.toNat))) :
    Calls Tryz.prog 122 #[.string s, .int .i64 (k : Int), .int .u8 (more.toNat : Int)] w (RunOk s q k w) := by
  have HQ := Lib.hid hq
  clear hq
  go_enter Tryz.func122, Tryz.ntmps122
  go_wp2_with fail
  go_loop [1] (fun i => ∃ j : Nat, k ≤ j ∧ j ≤ s.size ∧ i = .int .i64 j ∧ Hid ((s.data.toList.drop k).takeWhile q = (s.data.toList.drop k).take (j - k) ++ (s.data.toList.drop j).takeWhile q)) (fun i => s.size - (intOf i).toNat)
  case atStart => exact ⟨k, by omega, hk, rfl, by show _ = _; simp⟩
  case round =>
    obtain ⟨j, hkj, hjs, rfl, HJ⟩ := hrel
    have hj0 : (0 : Int) ≤ j := by omega
    by_cases hlt : j < s.size
    · have hltI : (j : Int) < s.size := by omega
      have hqj := HQ.out s[j]
      cases hd : dchar s[j] with
      | true =>
        rw [hd] at hqj
        have HJ2 := Lib.hid (run_step hkj hlt hqj HJ.out)
        have HD1 := fun (W : World) => Lib.hid (hd ▸ rdigit_any s[j] W)
        clear hd hqj HJ
        go_wp2_with (go_at_call 108; refine ((HD1 _).out).mono ?_; rintro e w' ⟨rfl, rfl⟩)
        go_round
        case rel => exact ⟨j + 1, by omega, by omega, by go_num, HJ2⟩
        case measure => simp [intOf]; omega
      | false =>
        have HD1 := fun (W : World) => Lib.hid (hd ▸ rdigit_any s[j] W)
        cases hl : letR s[j] with
        | true =>
          rw [hd, hl] at hqj
          have HJ2 := Lib.hid (run_step hkj hlt hqj HJ.out)
          have HL1 := fun (W : World) => Lib.hid (hl ▸ rletter_any s[j] W)
          clear hd hl hqj HJ
          go_wp2_with (first | (go_at_call 108; refine ((HD1 _).out).mono ?_; rintro e w' ⟨rfl, rfl⟩) | (go_at_call 124; refine ((HL1 _).out).mono ?_; rintro e w' ⟨rfl, rfl⟩))
          go_round
          case rel => exact ⟨j + 1, by omega, by omega, by go_num, HJ2⟩
          case measure => simp [intOf]; omega
        | false =>
          have HL1 := fun (W : World) => Lib.hid (hl ▸ rletter_any s[j] W)
          rw [hd, hl] at hqj
          cases hm : ((s[j].toNat : Int) == more.toNat) with
          | true =>
            rw [hm] at hqj
            have HJ2 := Lib.hid (run_step hkj hlt hqj HJ.out)
            clear hd hl hqj HJ
            go_wp2_with (first | (go_at_call 108; refine ((HD1 _).out).mono ?_; rintro e w' ⟨rfl, rfl⟩) | (go_at_call 124; refine ((HL1 _).out).mono ?_; rintro e w' ⟨rfl, rfl⟩))
            go_round
            case rel => exact ⟨j + 1, by omega, by omega, by go_num, HJ2⟩
            case measure => simp [intOf]; omega
          | false =>
            rw [hm] at hqj
            have HE := Lib.hid (run_stop hjs (fun _ => hqj) HJ.out)
            clear hd hl hqj HJ
            go_wp2_with (first | (go_at_call 108; refine ((HD1 _).out).mono ?_; rintro e w' ⟨rfl, rfl⟩) | (go_at_call 124; refine ((HL1 _).out).mono ?_; rintro e w' ⟨rfl, rfl⟩))
            go_ret
            exact ⟨j, rfl, hkj, hjs, HE.out, rfl⟩
    · have hltI : ¬ (j : Int) < s.size := by omega
      have HE := Lib.hid (run_stop hjs (fun h => absurd h hlt) HJ.out)
      clear HJ
      go_wp2_with fail
      go_ret
      exact ⟨j, rfl, hkj, hjs, HE.out, rfl⟩
end Go.Proofs.YtakfnojiaakfpaaGreatDoor
