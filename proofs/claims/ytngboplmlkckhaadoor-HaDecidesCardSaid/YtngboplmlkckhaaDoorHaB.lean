/- ha: awake: what every program answers that is one. -/
import Derived.Test.YtngboplmlkckhaaDoorHaA
import Derived.Laws.StructEq
namespace Go.Proofs.YtngboplmlkckhaaDoor
open Go.RowKit

def ldrEq (x1 : ByteArray) (y1 : Int) (x2 : ByteArray) (y2 : Int) : Bool := decide (x1 = x2) && decide (y1 = y2)
theorem ldrEq_iff {x1 x2 : ByteArray} {y1 y2 : Int} : ldrEq x1 y1 x2 y2 = true ↔ x1 = x2 ∧ y1 = y2 := by simp [ldrEq]
theorem eqIn_ldr (x1 : ByteArray) (y1 : Int) (x2 : ByteArray) (y2 : Int) (w : World) : (Op.equalIn 10000 23 (.agg #[.string x1, .int .i64 y1]) (.agg #[.string x2, .int .i64 y2])).run Tryd.prog w = .ok (ldrEq x1 y1 x2 y2) w := by
  have hS : Tryd.prog.underlying 23 = some (.struct (Tryd.prog.fieldsOf 23)) := by kernel_rfl
  have hp : Tryd.prog.stoodInHeld 23 = false := by kernel_rfl
  rw [show (10000 : Nat) = 9999 + 1 from rfl, run_equalIn_agg w 9999 23 _ _ hS hp]
  simp only [Program.fieldsOf, Tryd.underlying23]
  go_simp
  by_cases h1 : x1 = x2 <;> by_cases h2 : y1 = y2 <;> simp [ldrEq, h1, h2, toList_inj]
theorem eql_ldr (x1 : ByteArray) (y1 : Int) (x2 : ByteArray) (y2 : Int) (w : World) : (binOp .eql 23 (.agg #[.string x1, .int .i64 y1]) (.agg #[.string x2, .int .i64 y2])).run Tryd.prog w = .ok (.bool (ldrEq x1 y1 x2 y2)) w := by
  rw [run_eql_struct, eqIn_ldr]; rfl
theorem neq_ldr (x1 : ByteArray) (y1 : Int) (x2 : ByteArray) (y2 : Int) (w : World) : (binOp .neq 23 (.agg #[.string x1, .int .i64 y1]) (.agg #[.string x2, .int .i64 y2])).run Tryd.prog w = .ok (.bool (!ldrEq x1 y1 x2 y2)) w := by
  rw [run_neq_struct, eqIn_ldr]; rfl
theorem guard_ldr : Tryd.prog.eqGuardType Tryd.prog.depth 23 = false := by kernel_rfl
theorem ldrB_len (r : ByteArray) (s : Int) (hr : r.size ≤ 140737488355280) (h1 : -9223372036854775808 ≤ s) (h2 : s ≤ 9223372036854775807) : (ldrB r s).length ≤ 140737488355328 := by
  unfold ldrB
  rw [List.length_append, putText_len]
  have e1 := putU_le10 (x := r.size) (by omega)
  have e2 := putU_le10 (zig_lt h1 h2)
  simp only [List.length_nil]
  omega
theorem key_long : 5 < (keyB ⟨#[116]⟩ (keyH ⟨#[99]⟩)).size := by
  have h1 : 1 ≤ (Lib.decDigits (keyH ⟨#[99]⟩)).length := by
    rw [Lib.decDigits]
    split <;> simp
  have h2 : (⟨#[116]⟩ : ByteArray).data.toList.length = 1 := rfl
  rw [keyB, mkS_size]
  simp only [List.length_append, List.length_cons, List.length_nil, h2]
  omega
set_option maxRecDepth 100000 in
set_option maxHeartbeats 4000000 in
theorem hawake_any (w : World) (htab : Tab10 w) : Calls Tryd.prog 15 #[] w fun e w' => e = .returned (.bool true) ∧ Below w.heap.size w w' := by
  have hrL : Rd (w.alloc (.cells #[.string clusterS, .string cS, .string replicaS, .string rS] 47)) (w.heap.size + 1) 2 (some ⟨w.heap.size, 0, none⟩) (labsC awLabs) := Rd.new w (labsC_all _) _ rfl
  have hb1 : Below w.heap.size w (w.alloc (.cells #[.string clusterS, .string cS, .string replicaS, .string rS] 47)) := (Below.refl _ _).alloc (Nat.le_refl _) _
  have hz1 : (w.alloc (.cells #[.string clusterS, .string cS, .string replicaS, .string rS] 47)).heap.size = w.heap.size + 1 := by simp
  go_enter Tryd.func15, Tryd.ntmps15
  go_wp2_with fail
  generalize hW : World.alloc _ _ = W1
  have bT1 : Blk W1 (w.heap.size + 1) 55 [.slice (some ⟨w.heap.size, 0, none⟩) 2 2, .int .i64 0, .int .u64 0] := by
    rw [← hW, ← hz1]
    exact Blk.new _ _ _
  have hB1 : Below w.heap.size w W1 := by rw [← hW]; exact hb1.alloc (by omega) _
  have hrL1 : Rd W1 W1.heap.size 2 (some ⟨w.heap.size, 0, none⟩) (labsC awLabs) := by
    have h := bT1.lt
    have := hrL.below ((Below.refl (w.heap.size + 1) (w.alloc (.cells #[.string clusterS, .string cS, .string replicaS, .string rS] 47))).alloc (by omega) (.cells #[.slice (some ⟨w.heap.size, 0, none⟩) 2 2, .int .i64 0, .int .u64 0] 55))
    rw [← hW]
    exact this.more (by rw [World.size_alloc, World.size_alloc]; omega)
  clear hW hrL hb1 hz1
  refine (split_any w.heap.size (w.heap.size + 1) W1 hrL1 bT1).mono ?_
  rintro e w2 ⟨G, cG, A, c2, rfl, hcell, hb2⟩
  have HB2 := Lib.hid (hB1.trans (hb2.mono hB1.size))
  have hz2 := HB2.out.size
  have hG := World.block_lt_of_cell? w2 _ hcell
  simp only at hG
  clear hB1 hrL1 bT1 hb2
  have HE := Lib.hid (encode_any rS (-7) w2 (by decide) (by omega) (by omega))
  go_wp2_with fail
  refine (HE.out).mono ?_
  rintro e w3 ⟨A3, m3, c3, hm3, rfl, ho3, hb3⟩
  have HB3 := Lib.hid (HB2.out.trans (hb3.mono hz2))
  have hcap := ho3.cap
  have HD := decode_any (ldrB rS (-7)) A3 m3 c3 w3.heap.size w3 ho3.rd hm3 (Nat.le_refl _) (by rw [← hm3]; decide +kernel) hcap.1 hcap.2
  rw [ldrR_put rS (-7) (by decide) (by omega) (by omega)] at HD
  have HD : Hid (Calls Tryd.prog 8 #[.slice A3 m3 c3] w3 fun e w' => e = .returned (.tuple #[.agg #[.string ⟨#[114]⟩, .int .i64 (-7)], .int .i64 0]) ∧ Below w3.heap.size w3 w') := HD
  have hcell3 := (hb3.cell (p := ⟨G, 0, none⟩) hG).trans hcell
  have hG3 := World.block_lt_of_cell? w3 _ hcell3
  clear hcell HB2 HE ho3 hb3 hm3 hcap
  go_wp2_with fail
  refine (HD.out).mono ?_
  rintro e w4 ⟨rfl, hb4⟩
  have HB4 := Lib.hid (HB3.out.trans (hb4.mono HB3.out.size))
  have hcell4 := (hb4.cell (p := ⟨G, 0, none⟩) hG3).trans hcell3
  have hG4 := World.block_lt_of_cell? w4 _ hcell4
  have ht4 := htab.below HB4.out
  clear hcell3 HB3 HD hb4
  have HDD : ∀ W : World, Hid (Calls Tryd.prog 16 #[.bool false, .agg #[.string ByteArray.empty, .int .i64 0], .string ⟨#[114]⟩, .int .i64 0, .int .i64 5, .int .i64 30] W fun e w' => e = .returned (.int .i64 2) ∧ Below W.heap.size W w') := fun W => decide_any false ByteArray.empty ⟨#[114]⟩ 0 0 5 30 W (by omega) (by omega) (by omega) (by omega)
  have HKK := fun (W : World) (h : Tab10 W) => Lib.hid (key_any ⟨#[116]⟩ ⟨#[99]⟩ W h (by decide) (by decide))
  have hkl := key_long
  generalize keyB ⟨#[116]⟩ (keyH ⟨#[99]⟩) = kb at HKK hkl
  have hklI : 5 < (kb.size : Int) := by omega
  have hb5 := HB4.out.alloc HB4.out.size (.cells #[.string ⟨#[114]⟩, .int .i64 (-7)] 23)
  have ht5 := ht4.below ((Below.refl w4.heap.size w4).alloc (Nat.le_refl _) (.cells #[.string ⟨#[114]⟩, .int .i64 (-7)] 23))
  have HB5 := Lib.hid hb5
  have hz5 := hb5.size
  clear hb5 ht4
  go_wp2_with (first
    | (go_at_call 16; refine ((HDD _).out).mono ?_; rintro e w5 ⟨rfl, hb5⟩; have ht6 := ht5.below hb5)
    | (go_at_call 13; refine ((HKK _ ht6).out).mono ?_; rintro e w6 ⟨rfl, hb6⟩))
  go_ret
  exact ⟨rfl, HB5.out.trans ((hb5.mono hz5).trans (hb6.mono (Nat.le_trans hz5 hb5.size)))⟩
end Go.Proofs.YtngboplmlkckhaaDoor
