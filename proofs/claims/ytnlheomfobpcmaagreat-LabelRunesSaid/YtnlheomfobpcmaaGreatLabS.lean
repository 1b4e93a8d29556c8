/- Label sets as cells; their bytes. Plain lemmas. -/
import Derived.Test.YtnlheomfobpcmaaGreatCodS
import Derived.Test.YtnlheomfobpcmaaGreatMem2
namespace Go.Proofs.YtnlheomfobpcmaaGreat
open Go.RowKit

abbrev Lab := ByteArray × ByteArray
def labC (l : Lab) : List Value := [.string l.1, .string l.2]
def labsC (ls : List Lab) : List (List Value) := ls.map labC
theorem labsC_at {ls : List Lab} {k : Nat} {l : Lab} (h : ls[k]? = some l) : (labsC ls)[k]? = some [.string l.1, .string l.2] := by simp [labsC, labC, h]
theorem labsC_len (ls : List Lab) : (labsC ls).length = ls.length := by simp [labsC]
theorem labsC_all (ls : List Lab) : ∀ x ∈ labsC ls, x.length = 2 := by
  intro x hx
  obtain ⟨l, _, rfl⟩ := List.mem_map.1 hx
  rfl
theorem labsC_one (ls : List Lab) : ∀ y ∈ labsC ls, ∀ u ∈ y, u.oneCell' = true := by
  intro y hy u hu
  obtain ⟨l, _, rfl⟩ := List.mem_map.1 hy
  simp [labC] at hu
  rcases hu with rfl | rfl <;> rfl
/-- A set's bytes, as far as its first k labels. -/
def encK (ls : List Lab) (k : Nat) : List UInt8 := (ls.take k).foldl (fun o l => putText (putText o l.1) l.2) (putU ls.length)
/-- A set's bytes. -/
def encL (ls : List Lab) : List UInt8 := encK ls ls.length
theorem encK_succ {ls : List Lab} {k : Nat} {l : Lab} (h : ls[k]? = some l) : encK ls (k + 1) = putText (putText (encK ls k) l.1) l.2 := by
  unfold encK
  rw [List.take_add_one, h, Option.toList_some, List.foldl_append]
  rfl
theorem putText_len (l : List UInt8) (s : ByteArray) : (putText l s).length = l.length + (putU s.size).length + s.size := by
  unfold putText
  rw [List.length_append, List.length_append, ← Lib.size_eq]
theorem encK_le {ls : List Lab} : ∀ d k : Nat, k + d ≤ ls.length → (encK ls k).length ≤ (encK ls (k + d)).length
  | 0, k, _ => Nat.le_refl _
  | d + 1, k, h => by
    have h1 := encK_le (ls := ls) d k (by omega)
    have h2 := encK_succ (ls := ls) (k := k + d) (l := ls[k + d]'(by omega)) (List.getElem?_eq_getElem (by omega))
    rw [show k + (d + 1) = k + d + 1 from by omega, h2, putText_len, putText_len]
    omega
/-- What a step needs of room. -/
theorem encK_room {ls : List Lab} {k : Nat} {l : Lab} (h : ls[k]? = some l) : (encK ls k).length + (putU l.1.size).length + l.1.size + (putU l.2.size).length + l.2.size ≤ (encL ls).length := by
  have hk := (List.getElem?_eq_some_iff.1 h).1
  have h1 := encK_le (ls := ls) (ls.length - (k + 1)) (k + 1) (by omega)
  rw [show k + 1 + (ls.length - (k + 1)) = ls.length from by omega, encK_succ h, putText_len, putText_len] at h1
  exact h1
end Go.Proofs.YtnlheomfobpcmaaGreat
