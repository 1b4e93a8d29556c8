/- A set's hash: package label's own and the document's. -/
import Derived.Test.YtnlheomfobpcmaaGreatLabW
import Derived.Test.YtnlheomfobpcmaaGreatConv
namespace Go.Proofs.YtnlheomfobpcmaaGreat
open Go.RowKit

/-- The sum of bytes. -/
def fnvL (l : List UInt8) : Nat := l.foldl (fun h c => ((h ^^^ c.toNat) * 16777619) % 4294967296) 2166136261
theorem fnvL_lt (l : List UInt8) : fnvL l < 4294967296 := by
  unfold fnvL
  rcases List.eq_nil_or_concat l with rfl | ⟨r, c, rfl⟩
  · decide
  · rw [List.concat_eq_append, List.foldl_append, List.foldl_cons, List.foldl_nil]
    exact Nat.mod_lt _ (by omega)
theorem fnvL_snoc (l : List UInt8) (c : UInt8) : fnvL (l ++ [c]) = ((fnvL l ^^^ c.toNat) * 16777619) % 4294967296 := by
  unfold fnvL
  rw [List.foldl_append, List.foldl_cons, List.foldl_nil]
set_option maxHeartbeats 1000000 in
theorem fnv_any (l : List UInt8) (A : Option Addr) (n c B : Nat) (w : World) (hr : Rd w B 1 A (bytesC l)) (hn : l.length = n) (hm : n ≤ 140737488355328) :
    Calls Tryz.prog 43 #[.slice A n c] w fun e w' => e = .returned (.int .u32 (fnvL l : Nat)) ∧ w = w' := by
  have Hn := Lib.hid hn
  clear hn
  go_enter Tryz.func43, Tryz.ntmps43
  go_wp2_with fail
  go_loop [8, 3] (fun i h => ∃ k x : Nat, i = .int .i64 k ∧ h = .int .u32 x ∧ k ≤ n ∧ x < 4294967296 ∧ Hid (fnvL (l.take k) = x)) (fun i _ => n - (intOf i).toNat)
  case atStart => exact ⟨0, 2166136261, rfl, rfl, by omega, by omega, rfl⟩
  case round =>
    obtain ⟨k, x, rfl, rfl, hk, hx, HX⟩ := hrel
    by_cases hlt : k < n
    · obtain ⟨ch, hch⟩ := get_lt Hn hlt
      obtain ⟨b, o, rfl, hb, hcell⟩ := hr.at1 (bytesC_at hch)
      have hltI : (k : Int) < (n : Int) := by omega
      have h255 : ch.toNat ≤ 255 := by have := ch.toNat_lt; omega
      have HS : Hid (fnvL (l.take (k + 1)) = ((x ^^^ ch.toNat) * 16777619) % 4294967296) := by show _ = _; rw [List.take_add_one, hch, Option.toList_some, fnvL_snoc, HX.out]
      clear hch HX
      go_wp2_with fail
      go_round
      case rel => exact ⟨k + 1, ((x ^^^ ch.toNat) * 16777619) % 4294967296, by go_num, congrArg (Value.int .u32) (by rw [u32_xor_nat x ch.toNat hx (by omega)]; omega), by omega, Nat.mod_lt _ (by omega), HS⟩
      case measure => simp [intOf]; omega
    · have hkn : k = n := by omega
      subst hkn
      have HT : Hid (fnvL l = x) := by show _ = _; rw [← HX.out, ← Hn.out, List.take_length]
      go_wp2_with fail
      go_ret
      exact ⟨ret_int (by rw [HT.out]), rfl⟩
set_option maxHeartbeats 1000000 in
theorem rfnv_any (l : List UInt8) (A : Option Addr) (n c B : Nat) (w : World) (hr : Rd w B 1 A (bytesC l)) (hn : l.length = n) (hm : n ≤ 140737488355328) :
    Calls Tryz.prog 53 #[.slice A n c] w fun e w' => e = .returned (.int .u32 (fnvL l : Nat)) ∧ w = w' := by
  have Hn := Lib.hid hn
  clear hn
  go_enter Tryz.func53, Tryz.ntmps53
  go_wp2_with fail
  go_loop [4, 3] (fun i h => ∃ k x : Nat, i = .int .i64 k ∧ h = .int .u32 x ∧ k ≤ n ∧ x < 4294967296 ∧ Hid (fnvL (l.take k) = x)) (fun i _ => n - (intOf i).toNat)
  case atStart => exact ⟨0, 2166136261, rfl, rfl, by omega, by omega, rfl⟩
  case round =>
    obtain ⟨k, x, rfl, rfl, hk, hx, HX⟩ := hrel
    by_cases hlt : k < n
    · obtain ⟨ch, hch⟩ := get_lt Hn hlt
      obtain ⟨b, o, rfl, hb, hcell⟩ := hr.at1 (bytesC_at hch)
      have hltI : (k : Int) < (n : Int) := by omega
      have h255 : ch.toNat ≤ 255 := by have := ch.toNat_lt; omega
      have HS : Hid (fnvL (l.take (k + 1)) = ((x ^^^ ch.toNat) * 16777619) % 4294967296) := by show _ = _; rw [List.take_add_one, hch, Option.toList_some, fnvL_snoc, HX.out]
      clear hch HX
      go_wp2_with fail
      go_round
      case rel => exact ⟨k + 1, ((x ^^^ ch.toNat) * 16777619) % 4294967296, by go_num, congrArg (Value.int .u32) (by rw [u32_xor_nat x ch.toNat hx (by omega)]; omega), by omega, Nat.mod_lt _ (by omega), HS⟩
      case measure => simp [intOf]; omega
    · have hkn : k = n := by omega
      subst hkn
      have HT : Hid (fnvL l = x) := by show _ = _; rw [← HX.out, ← Hn.out, List.take_length]
      go_wp2_with fail
      go_ret
      exact ⟨ret_int (by rw [HT.out]), rfl⟩
set_option maxHeartbeats 1000000 in
theorem hash_any (ls : List Lab) (A : Option Addr) (n c B : Nat) (w : World) (hr : Rd w B 2 A (labsC ls)) (hn : ls.length = n) (hB : B ≤ w.heap.size) (hm : n ≤ 140737488355328) (he : (encL ls).length ≤ 140737488355300) :
    Calls Tryz.prog 12 #[.slice A n c] w fun e w' => e = .returned (.int .u32 (fnvL (encL ls) : Nat)) ∧ Below w.heap.size w w' := by
  have HE := Lib.hid (labEncode_any ls A n c B w hr hn hB hm he)
  go_enter Tryz.func12, Tryz.ntmps12
  go_wp2_with (first
    | (go_at_call 11; refine (HE.out).mono ?_; rintro e w' ⟨A1, m1, c1, hm1, rfl, ho, hb⟩)
    | (go_at_call 43; refine (fnv_any (encL ls) A1 m1 c1 w'.heap.size w' ho.rd hm1 (by omega)).mono ?_; rintro e w2 ⟨rfl, rfl⟩))
  go_ret
  exact ⟨rfl, hb⟩
set_option maxHeartbeats 1000000 in
theorem rhash_any (ls : List Lab) (A : Option Addr) (n c B : Nat) (w : World) (hr : Rd w B 2 A (labsC ls)) (hn : ls.length = n) (hB : B ≤ w.heap.size) (hm : n ≤ 140737488355328) (he : (encL ls).length ≤ 140737488355300) :
    Calls Tryz.prog 18 #[.slice A n c] w fun e w' => e = .returned (.int .u32 (fnvL (encL ls) : Nat)) ∧ Below w.heap.size w w' := by
  have HE := Lib.hid (rlabEncode_any ls A n c B w hr hn hB hm he)
  go_enter Tryz.func18, Tryz.ntmps18
  go_wp2_with (first
    | (go_at_call 17; refine (HE.out).mono ?_; rintro e w' ⟨A1, m1, c1, hm1, rfl, ho, hb⟩)
    | (go_at_call 53; refine (rfnv_any (encL ls) A1 m1 c1 w'.heap.size w' ho.rd hm1 (by omega)).mono ?_; rintro e w2 ⟨rfl, rfl⟩))
  go_ret
  exact ⟨rfl, hb⟩
end Go.Proofs.YtnlheomfobpcmaaGreat
