/- The document's writer: numbers, spans, names, brackets. -/
import Derived.Test.YtakfnojiaakfpaaGreatDoorTailB
import Derived.Test.YtakfnojiaakfpaaGreatDoorParP
import Derived.Test.YtakfnojiaakfpaaGreatDoorPar2
import Derived.Deep.DeepCutAuto
namespace Go.Proofs.YtakfnojiaakfpaaGreatDoor
open Go.RowKit
theorem dd_step {m : Nat} (_ : m ≠ 0) (acc : List UInt8) : (if m / 10 = 0 then UInt8.ofNat (48 + m % 10) :: acc else Lib.decDigits (m / 10) ++ UInt8.ofNat (48 + m % 10) :: acc) = Lib.decDigits m ++ acc := by
  rw [Lib.decDigits.eq_1 m]
  by_cases h10 : m < 10
  · rw [dif_pos h10, if_pos (by omega), show m % 10 = m from Nat.mod_eq_of_lt h10]
    rfl
  · rw [dif_neg h10, if_neg (by omega)]
    simp
set_option maxHeartbeats 1000000 in
set_option maxRecDepth 100000 in
theorem rdecimal_any (n : Nat) (h1 : 1 ≤ n) (h2 : n < 2147483648) (w : World) : Calls Tryz.prog 111 #[.int .i64 n] w fun e w' => e = .returned (.string (decT n)) ∧ Below w.heap.size w w' := by
  have HD0 : Hid (decT (n : Int) = mkB (Lib.decDigits n)) := rfl
  go_enter Tryz.func111, Tryz.ntmps111
  go_wp2_with fail
  go_loopw [0, 3, 4] (fun v0 v3 v4 wr => ∃ (f m : Nat) (acc : List UInt8) (fst : Bool), v0 = .int .i64 m ∧ v3 = .string (mkB acc) ∧ v4 = .bool fst ∧ (fst = true → 1 ≤ m) ∧ m < 10 ^ f ∧ f ≤ 10 ∧ m < 2147483648 ∧ acc.length ≤ 10 - f ∧ Hid ((if m = 0 then acc else Lib.decDigits m ++ acc) = Lib.decDigits n) ∧ Below w.heap.size w wr) (fun v0 _ _ _ => (intOf v0).toNat)
  case atStart => exact ⟨10, n, [], true, rfl, rfl, rfl, fun _ => h1, by omega, by omega, h2, by simp, by show _ = _; rw [if_neg (by omega), List.append_nil], Below.refl _ _⟩
  case round =>
    obtain ⟨f, m, acc, fst, rfl, rfl, rfl, hf1, hm, hf5, hmk, hal, HD, hb⟩ := hrel
    by_cases h0 : m = 0
    · subst h0
      have hff : fst = false := by
        cases fst with
        | false => rfl
        | true => have := hf1 rfl; omega
      subst hff
      have HD3 : Hid (acc = Lib.decDigits n) := by have := HD.out; rwa [if_pos rfl] at this
      go_wp2_with fail
      go_ret
      exact ⟨ret_string (by rw [HD0.out, HD3.out]), hb⟩
    · obtain ⟨f, rfl⟩ : ∃ g, f = g + 1 := ⟨f - 1, by
        cases f with
        | zero => simp at hm; omega
        | succ f => rfl⟩
      have hm0 : 0 < m := by omega
      have hmI : (m : Int) < 2147483648 := by omega
      have HD2 : Hid ((if m / 10 = 0 then UInt8.ofNat (48 + m % 10) :: acc else Lib.decDigits (m / 10) ++ UInt8.ofNat (48 + m % 10) :: acc) = Lib.decDigits n) := by
        show _ = _
        rw [dd_step h0]
        have := HD.out
        rwa [if_neg h0] at this
      have hsz := hb.size
      have hBB := Lib.hid hb
      obtain ⟨q, hq⟩ : ∃ q, q = m % 10 := ⟨_, rfl⟩
      obtain ⟨r, hr⟩ : ∃ r, r = m / 10 := ⟨_, rfl⟩
      rw [← hq, ← hr] at HD2
      have htm : (m : Int).tmod 10 = (q : Int) := by rw [Int.tmod_eq_emod_of_nonneg (by omega)]; omega
      have htd : (m : Int).tdiv 10 = (r : Int) := by rw [Int.tdiv_eq_ediv_of_nonneg (by omega)]; omega
      have hq9 : q < 10 := by omega
      have hqI : (q : Int) < 10 := by omega
      have hrm : r < m := by omega
      have hrI : (r : Int) < 2147483648 := by omega
      have hwr : IntKind.i64.wrap (r : Int) = (r : Int) := by rw [IntKind.wrap_i64] <;> omega
      have hrf : r < 10 ^ f := by rw [Nat.pow_succ] at hm; omega
      have hw1 : IntKind.i64.wrap (48 + (q : Int)) = 48 + (q : Int) := by rw [IntKind.wrap_i64] <;> omega
      have hw8 : IntKind.u8.wrap (48 + (q : Int)) = 48 + (q : Int) := by rw [IntKind.wrap_u8] <;> omega
      have hBz : (mkB acc).size ≤ 10 := by show acc.toArray.size ≤ 10; simp; omega
      have hBz1 : ¬ 9223372036854775807 < 1 + (mkB acc).size := by omega
      obtain ⟨B, hB⟩ : ∃ B, B = mkB acc := ⟨_, rfl⟩
      rw [← hB] at hBz hBz1 ⊢
      have hD : ((UInt8.ofNat (48 + q)).toNat : Int) = 48 + (q : Int) := by rw [UInt8.toNat_ofNat']; omega
      have hcv : ∀ W : World, (convert 91 9 (.slice (some ⟨W.heap.size, 0, none⟩) 1 1)).run Tryz.prog (W.alloc (.cells #[.int .u8 (48 + (q : Int))] 5)) = .ok (.string (mkB [UInt8.ofNat (48 + q)])) (W.alloc (.cells #[.int .u8 (48 + (q : Int))] 5)) := by
        intro W
        rw [← hD]
        exact run_conv_rd (P := Tryz.prog) (Rd.byte (UInt8.ofNat (48 + q)) rfl) 91 5 9 Tryz.underlying91 Tryz.underlying5 Tryz.underlying9 1 1 rfl (fun _ => .inr ⟨_, _, rfl⟩)
      have hxs : (mkB [UInt8.ofNat (48 + q)]).size = 1 := rfl
      have hal2 : (UInt8.ofNat (48 + q) :: acc).length ≤ 10 - f := by simp only [List.length_cons]; omega
      have HAL := Lib.hid hal2
      have HRF := Lib.hid hrf
      have HRM := Lib.hid hrm
      have HF := Lib.hid hf5
      have hJ : mkB [UInt8.ofNat (48 + q)] ++ B = mkB (UInt8.ofNat (48 + q) :: acc) := by rw [hB]; apply WideShapes.bytes_inj; simp [mkB, ByteArray.data_append]
      have HJ := Lib.hid hJ
      clear hal2 hrf hrm hf5 hJ hD
      generalize mkB [UInt8.ofNat (48 + q)] = DB at *
      have HMK := Lib.hid hmk
      clear hb HD hq hr hB h0 hm hf1 hal hmk h2
      cases fst with
      | false =>
        go_wp2_with fail
        go_roundw
        case rel => exact ⟨f, r, _, false, by go_num, by rw [HJ.out], rfl, by simp, HRF.out, by have := HF.out; omega, by have := HRM.out; omega, HAL.out, HD2, hBB.out.alloc hsz _⟩
        case measure => have := HRM.out; simp [intOf]; omega
      | true =>
        go_wp2_with fail
        go_roundw
        case rel => exact ⟨f, r, _, false, by go_num, by rw [HJ.out], rfl, by simp, HRF.out, by have := HF.out; omega, by have := HRM.out; omega, HAL.out, HD2, hBB.out.alloc hsz _⟩
        case measure => have := HRM.out; simp [intOf]; omega
end Go.Proofs.YtakfnojiaakfpaaGreatDoor
