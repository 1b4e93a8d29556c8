/- Numbers of a text, plain: digits ahead; a number's form. -/
import Derived.Test.YtbnpleihhbpnlaaDoorMem
import Derived.Test.YtbnpleihhbpnlaaDoorDrop
import Derived.Test.YtbnpleihhbpnlaaDoorNameB
namespace Go.Proofs.YtbnpleihhbpnlaaDoor
open Go.RowKit

def digN (l : List UInt8) : Nat := (l.takeWhile dchar).length
theorem digN_at {s : ByteArray} {k : Nat} (h : k < s.size) (hd : dchar s[k] = true) : digN (s.data.toList.drop k) = 1 + digN (s.data.toList.drop (k + 1)) := by
  rw [drop_at h, digN, List.takeWhile_cons, if_pos hd, List.length_cons, digN, Nat.add_comm]
theorem digN_no {s : ByteArray} {k : Nat} (h : k < s.size) (hd : dchar s[k] = false) : digN (s.data.toList.drop k) = 0 := by
  rw [drop_at h, digN, List.takeWhile_cons, if_neg (by simp [hd])]; rfl
theorem digN_end {s : ByteArray} : digN (s.data.toList.drop s.size) = 0 := by rw [drop_end]; rfl
def needB (l : List UInt8) : Bool := decide (1 < l.length) && (l.head? == some 48)
theorem extract_toL (s : ByteArray) (i j : Nat) : (s.extract i j).data.toList = (s.data.toList.drop i).take (j - i) := by
  rw [ByteArray.data_extract, Array.toList_extract, List.extract_eq_take_drop]
theorem extract_size_le (s : ByteArray) (i j : Nat) : (s.extract i j).size ≤ s.size := by
  rw [ByteArray.size_extract]; omega
theorem digN_le (l : List UInt8) : digN l ≤ l.length := (List.takeWhile_sublist _).length_le
theorem digN_le' (s : ByteArray) : digN s.data.toList ≤ s.size := by rw [Lib.size_eq]; exact digN_le _
def dotB : Option UInt8 → Bool
  | some c => (c.toNat : Int) == 46
  | none => false
def numB (l : List UInt8) : Bool :=
  if digN l = 0 ∨ needB (l.take (digN l)) = true then false
  else if digN l = l.length then decide (digN l ≤ 15)
  else dotB l[digN l]? && decide (0 < digN (l.drop (digN l + 1))) && decide (digN l + 1 + digN (l.drop (digN l + 1)) = l.length) && decide (digN l + digN (l.drop (digN l + 1)) ≤ 15)
end Go.Proofs.YtbnpleihhbpnlaaDoor
