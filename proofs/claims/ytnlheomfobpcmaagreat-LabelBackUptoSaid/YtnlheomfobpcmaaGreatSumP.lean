/- The lengths of a set's bytes and text against the sum of its texts' sizes. Plain laws. -/
import Derived.Test.YtnlheomfobpcmaaGreatBulk
import Derived.Test.YtnlheomfobpcmaaGreatTextS
namespace Go.Proofs.YtnlheomfobpcmaaGreat
open Go.RowKit

theorem sumL_take {ls : List Lab} {k : Nat} {l : Lab} (h : ls[k]? = some l) : sumL (ls.take (k + 1)) = sumL (ls.take k) + (l.1.size + l.2.size + 1) := by
  unfold sumL
  rw [List.take_add_one, h, Option.toList_some, List.map_append, List.sum_append]
  simp
theorem sumL_le (ls : List Lab) (k : Nat) : sumL (ls.take k) ≤ sumL ls := by
  unfold sumL
  conv => rhs; rw [← List.take_append_drop k ls, List.map_append, List.sum_append]
  omega
theorem sumL_len (ls : List Lab) : ls.length ≤ sumL ls := by
  unfold sumL
  induction ls with
  | nil => simp
  | cons x r ih => simp only [List.map_cons, List.sum_cons, List.length_cons]; omega
theorem encL_sum (ls : List Lab) (hb : sumL ls ≤ 1048576) : (encL ls).length ≤ 10 + 21 * sumL ls := by
  have key : ∀ k, k ≤ ls.length → (encK ls k).length ≤ 10 + 21 * sumL (ls.take k) := by
    intro k
    induction k with
    | zero =>
      intro _
      have hl := sumL_len ls
      have := putU_le10 (x := ls.length) (by omega)
      show (putU ls.length).length ≤ _
      omega
    | succ k ih =>
      intro hk
      obtain ⟨l, hl⟩ : ∃ l, ls[k]? = some l := ⟨_, List.getElem?_eq_getElem (by omega)⟩
      have h1 := ih (by omega)
      have h2 := sumL_take hl
      have h3 := sumL_le ls (k + 1)
      rw [encK_succ hl, putText_len, putText_len, h2]
      have p1 := putU_le10 (x := l.1.size) (by omega)
      have p2 := putU_le10 (x := l.2.size) (by omega)
      omega
  have := key ls.length (Nat.le_refl _)
  rw [List.take_length] at this
  exact this
theorem textL_sum (ls : List Lab) : (textL ls).length ≤ 2 + 5 * sumL ls := by
  have key : ∀ k, k ≤ ls.length → (innK ls k).length ≤ 5 * sumL (ls.take k) := by
    intro k
    induction k with
    | zero => intro _; simp [innK]
    | succ k ih =>
      intro hk
      obtain ⟨l, hl⟩ : ∃ l, ls[k]? = some l := ⟨_, List.getElem?_eq_getElem (by omega)⟩
      have h1 := ih (by omega)
      have h2 := sumL_take hl
      have h3 := (escL_len l.2.data.toList).2
      rw [← Lib.size_eq] at h3
      rw [innK_succ hl, h2]
      simp only [List.length_append, labT_len]
      split <;> simp <;> omega
  have := key ls.length (Nat.le_refl _)
  rw [List.take_length] at this
  simp only [textL, List.length_cons, List.length_append, List.length_nil]
  omega
end Go.Proofs.YtnlheomfobpcmaaGreat
