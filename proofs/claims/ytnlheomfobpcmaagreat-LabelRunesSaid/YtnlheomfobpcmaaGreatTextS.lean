/- A label set's text: the plain answer. -/
import Derived.Test.YtnlheomfobpcmaaGreatRepT
import Derived.Test.YtnlheomfobpcmaaGreatBuild
namespace Go.Proofs.YtnlheomfobpcmaaGreat
open Go.RowKit

def labT (l : Lab) : List UInt8 := l.1.data.toList ++ [61, 34] ++ escL l.2.data.toList ++ [34]
/-- The text between the braces, as far as the first k labels. -/
def innK (ls : List Lab) : Nat → List UInt8
  | 0 => []
  | k + 1 => innK ls k ++ (if k = 0 then [] else [44]) ++ (match ls[k]? with | some l => labT l | none => [])
def textL (ls : List Lab) : List UInt8 := 123 :: (innK ls ls.length ++ [125])
def textB (ls : List Lab) : ByteArray := ⟨(textL ls).toArray⟩
theorem innK_succ {ls : List Lab} {k : Nat} {l : Lab} (h : ls[k]? = some l) : innK ls (k + 1) = innK ls k ++ (if k = 0 then [] else [44]) ++ labT l := by
  rw [innK, h]
theorem innK_le {ls : List Lab} : ∀ d k : Nat, (innK ls k).length ≤ (innK ls (k + d)).length
  | 0, _ => Nat.le_refl _
  | d + 1, k => by
    have := innK_le (ls := ls) d k
    rw [show k + (d + 1) = k + d + 1 from by omega, innK, List.length_append, List.length_append]
    omega
theorem labT_len (l : Lab) : (labT l).length = l.1.size + 2 + (escL l.2.data.toList).length + 1 := by
  simp only [labT, List.length_append, List.length_cons, List.length_nil]
  rw [← Lib.size_eq]
theorem innK_room {ls : List Lab} {k : Nat} {l : Lab} (h : ls[k]? = some l) : (innK ls k).length + (if k = 0 then 0 else 1) + (l.1.size + 2 + (escL l.2.data.toList).length + 1) + 2 ≤ (textL ls).length := by
  have hk := (List.getElem?_eq_some_iff.1 h).1
  have h1 := innK_le (ls := ls) (ls.length - (k + 1)) (k + 1)
  rw [show k + 1 + (ls.length - (k + 1)) = ls.length from by omega, innK_succ h, List.length_append, List.length_append, labT_len] at h1
  simp only [textL, List.length_cons, List.length_append, List.length_nil]
  by_cases hk0 : k = 0
  · simp only [hk0, if_true] at h1 ⊢; simp at h1; omega
  · simp only [hk0, if_false] at h1 ⊢; simp at h1; omega
theorem esc_size (s : ByteArray) : s.size ≤ (escL s.data.toList).length := by rw [Lib.size_eq]; exact (escL_len _).1
/-- A builder in older memory stays. -/
theorem owns_keep {w w' : World} {base sz n : Nat} {e : TypeId} {v : Value} {xs : List Value} (h : w.ownsRow base e sz v n xs) (hk : ∀ g, v.ownBlock = some g → w'.heap[g]? = w.heap[g]?) : w'.ownsRow base e sz v n xs := by
  refine ⟨h.1, ?_⟩
  rcases h.2 with hn | ⟨g, cap, cur, hv, hbg, hg, rest⟩
  · exact .inl hn
  · refine .inr ⟨g, cap, cur, hv, hbg, ?_, rest⟩
    rw [hk g (by rw [hv]; rfl)]
    exact hg
theorem build_keep {B b : Nat} {p : Value} {bs : List Value} {w w' : World} (h : BuildAt B b p bs w) (hb : Below w.heap.size w w') : BuildAt B b p bs w' := by
  obtain ⟨hB, v, h1, h2, h3⟩ := h
  exact ⟨hB, v, (hb.block b (Array.getElem?_eq_some_iff.1 h1).1).trans h1, owns_keep h2 fun g hg => hb.block g (h2.lt g hg).2, h3⟩
theorem isBuild_keep {B b : Nat} {bs : List Value} {w w' : World} (h : IsBuild B b bs w) (hb : Below w.heap.size w w') : IsBuild B b bs w' := by
  rcases h with h | h
  · exact .inl (build_keep h hb)
  · exact .inr (build_keep h hb)
theorem isBuild_lt {B b : Nat} {bs : List Value} {w : World} (h : IsBuild B b bs w) : B ≤ b ∧ b < w.heap.size := by
  rcases h with h | h <;> exact ⟨h.1, h.lt⟩
/-- The bytes of the written text. -/
theorem lab_cells (l : Lab) (E : ByteArray) (hE : E.data.toList = escL l.2.data.toList) : Lib.strCells (l.1 ++ (⟨#[61, 34]⟩ : ByteArray) ++ E ++ (⟨#[34]⟩ : ByteArray)) = Lib.byteCells (labT l) := by
  rw [Lib.strCells_eq]
  congr 1
  simp [labT, hE]
theorem byteCells_app (a b : List UInt8) : Lib.byteCells (a ++ b) = Lib.byteCells a ++ Lib.byteCells b := by simp [Lib.byteCells]
theorem byteCells_len (a : List UInt8) : (Lib.byteCells a).length = a.length := by simp [Lib.byteCells]
def sepK (k : Nat) : List UInt8 := if k = 0 then [] else [44]
theorem sepK_len (k : Nat) : (sepK k).length = if k = 0 then 0 else 1 := by unfold sepK; split <;> rfl
theorem room_len {ls : List Lab} {k : Nat} {l : Lab} {E : ByteArray} (h : ls[k]? = some l) (hE : E.size = (escL l.2.data.toList).length) (he : (textL ls).length ≤ 1099511627776) :
    (Lib.byteCells (innK ls k ++ sepK k)).length + (l.1 ++ (⟨#[61, 34]⟩ : ByteArray) ++ E ++ (⟨#[34]⟩ : ByteArray)).size ≤ 140737488355328 ∧ l.1.size ≤ 1099511627776 ∧ E.size ≤ 1099511627776 ∧ l.2.size ≤ 1099511627776 := by
  have hr := innK_room h
  have hs := esc_size l.2
  have e2 : (⟨#[61, 34]⟩ : ByteArray).size = 2 := rfl
  have e1 : (⟨#[34]⟩ : ByteArray).size = 1 := rfl
  rw [byteCells_len, List.length_append, sepK_len, ByteArray.size_append, ByteArray.size_append, ByteArray.size_append, e1, e2]
  omega
end Go.Proofs.YtnlheomfobpcmaaGreat
