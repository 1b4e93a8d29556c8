/- A text's rest behind a place. -/
import Derived.Test.YtnlheomfobpcmaaGreatMem
import Derived.Lib.Bytealg
namespace Go.Proofs.YtnlheomfobpcmaaGreat
open Go.RowKit

theorem drop_at {s : ByteArray} {i : Nat} (h : i < s.size) : s.data.toList.drop i = s[i] :: s.data.toList.drop (i + 1) := by
  have h' : i < s.data.toList.length := by rw [← Lib.size_eq]; exact h
  rw [List.drop_eq_getElem_cons h']
  rfl
theorem drop_end {s : ByteArray} : s.data.toList.drop s.size = [] := by rw [List.drop_eq_nil_iff, ← Lib.size_eq]; exact Nat.le_refl _
theorem u8_le (c : UInt8) : c.toNat ≤ 255 := by have := c.toNat_lt; omega
end Go.Proofs.YtnlheomfobpcmaaGreat
