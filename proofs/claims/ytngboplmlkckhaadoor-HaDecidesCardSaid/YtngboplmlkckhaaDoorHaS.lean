/- Who is heard: the plain answer, and plain laws of it. No program in sight. -/
import Derived.Test.YtngboplmlkckhaaDoorCodS
import Derived.Lib.ItoaNum
namespace Go.Proofs.YtngboplmlkckhaaDoor
open Go.RowKit

/-- A register's bytes. -/
def ldrB (r : ByteArray) (s : Int) : List UInt8 := putText [] r ++ putU (zig s)
/-- A register's bytes read. -/
def ldrR (l : List UInt8) : ByteArray × Int × Int :=
  if (textR l 0).2.2 ≠ 0 then (ByteArray.empty, 0, 161)
  else if (intR l (textR l 0).2.1).2.2 ≠ 0 ∨ (intR l (textR l 0).2.1).2.1 ≠ (l.length : Int) then (ByteArray.empty, 0, 161)
  else ((textR l 0).1, (intR l (textR l 0).2.1).1, 0)
theorem ldrR_put (r : ByteArray) (s : Int) (hr : r.size < 18446744073709551616) (h1 : -9223372036854775808 ≤ s) (h2 : s ≤ 9223372036854775807) : ldrR (ldrB r s) = (r, s, 0) := by
  unfold ldrR ldrB
  have ht := textR_put [] (putU (zig s)) r hr
  simp only [List.length_nil] at ht
  rw [show ((0 : Nat) : Int) = 0 from rfl] at ht
  rw [ht]
  have hi := uintR_put (putText [] r) [] (zig s) (zig_lt h1 h2)
  rw [List.append_nil] at hi
  simp only [ne_eq, not_true_eq_false, if_false]
  have hI : intR (putText [] r ++ putU (zig s)) ((putText [] r).length : Int) = (s, (((putText [] r).length + (putU (zig s)).length : Nat) : Int), 0) := by
    unfold intR
    rw [hi, zag_zig]
  rw [hI]
  simp
/-- What is decided. -/
def decR (has : Bool) (rep : ByteArray) (stamp : Int) (r : ByteArray) (now refresh failover : Int) : Int :=
  if has = false then 2
  else if rep ≠ r then (if failover ≤ now - stamp then 2 else 3)
  else if refresh ≤ now - stamp then 1 else 0
theorem decDigits_le : ∀ (k u : Nat), u < 10 ^ (k + 1) → (Lib.decDigits u).length ≤ k + 1
  | 0, u, h => by rw [Lib.decDigits_one (by simpa using h)]; simp
  | k + 1, u, h => by
    rw [Lib.decDigits]
    split
    · simp
    · rw [List.length_append]
      have := decDigits_le k (u / 10) (by rw [Nat.pow_succ] at h; omega)
      simp
      omega
/-- A register's key. -/
def keyB (t : ByteArray) (h : Nat) : ByteArray := mkS ([104, 97, 47] ++ t.data.toList ++ [47] ++ Lib.decDigits h)
theorem mkS_size (l : List UInt8) : (mkS l).size = l.length := by simp [mkS, ByteArray.size]
theorem mkS_inj {a b : List UInt8} (h : mkS a = mkS b) : a = b := by
  unfold mkS at h
  injection h with h
  simpa using congrArg Array.toList h
theorem keyB_size (t : ByteArray) (h : Nat) (ht : t.size ≤ 32) (hh : h < 4294967296) : 1 ≤ (keyB t h).size ∧ (keyB t h).size ≤ 64 := by
  have h1 := decDigits_le 9 h (by simp only [Nat.reduceAdd, Nat.reducePow]; omega)
  have h2 : t.data.toList.length = t.size := by rw [Lib.size_eq]
  rw [keyB, mkS_size]
  simp only [List.length_append, List.length_cons, List.length_nil, h2]
  omega
theorem keyB_inj {a b : ByteArray} {h : Nat} : keyB a h = keyB b h ↔ a = b := by
  constructor
  · intro e
    have := mkS_inj e
    have this := List.append_cancel_left (by simpa [List.append_assoc] using this : ([104, 97, 47] : List UInt8) ++ (a.data.toList ++ ([47] ++ Lib.decDigits h)) = [104, 97, 47] ++ (b.data.toList ++ ([47] ++ Lib.decDigits h)))
    have this := List.append_cancel_right this
    exact WideShapes.bytes_inj this
  · rintro rfl; rfl
def fnvL (l : List UInt8) : Nat := l.foldl (fun h c => ((h ^^^ c.toNat) * 16777619) % 4294967296) 2166136261
theorem fnvL_lt (l : List UInt8) : fnvL l < 4294967296 := by
  unfold fnvL
  rcases List.eq_nil_or_concat l with rfl | ⟨r, c, rfl⟩
  · decide
  · rw [List.concat_eq_append, List.foldl_append, List.foldl_cons, List.foldl_nil]
    exact Nat.mod_lt _ (by omega)
end Go.Proofs.YtngboplmlkckhaaDoor
