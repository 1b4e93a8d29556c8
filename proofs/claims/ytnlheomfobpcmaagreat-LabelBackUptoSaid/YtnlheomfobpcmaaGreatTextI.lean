/- Unlike sets have unlike bytes and texts. Plain laws. -/
import Derived.Test.YtnlheomfobpcmaaGreatTextS
import Derived.Test.YtnlheomfobpcmaaGreatLabD
import Derived.Test.YtnlheomfobpcmaaGreatWithP
namespace Go.Proofs.YtnlheomfobpcmaaGreat
open Go.RowKit

theorem encL_inj {a b : List Lab} (ha : okLabs a) (hb : okLabs b) (ha2 : a.length ≤ 16) (hb2 : b.length ≤ 16) (h : encL a = encL b) : a = b := by
  have ra := read_num (ls := a) [] [] (by omega)
  have rb := read_num (ls := b) [] [] (by omega)
  simp only [List.nil_append, List.append_nil] at ra rb
  rw [h, rb] at ra
  injection ra with hl ra
  injection ra with h0 _
  have h0' : (encK b 0).length = (encK a 0).length := by omega
  have key : ∀ k, k ≤ a.length → (encK a k).length = (encK b k).length ∧ ∀ j, j < k → a[j]? = b[j]? := by
    intro k
    induction k with
    | zero => intro _; exact ⟨h0'.symm, fun j hj => by omega⟩
    | succ k ih =>
      intro hk
      obtain ⟨e1, e2⟩ := ih (by omega)
      obtain ⟨x, hx⟩ : ∃ x, a[k]? = some x := ⟨_, List.getElem?_eq_getElem (by omega)⟩
      obtain ⟨y, hy⟩ : ∃ y, b[k]? = some y := ⟨_, List.getElem?_eq_getElem (by omega)⟩
      obtain ⟨ox1, ox2⟩ := ha x (List.mem_of_getElem? hx)
      obtain ⟨oy1, oy2⟩ := hb y (List.mem_of_getElem? hy)
      unfold maxLen at ox1 ox2 oy1 oy2
      have r1 := read_lab hx [] [] (by omega) (by omega)
      have r2 := read_lab hy [] [] (by omega) (by omega)
      simp only [List.nil_append, List.append_nil] at r1 r2
      obtain ⟨p1, p2⟩ := r1
      obtain ⟨q1, q2⟩ := r2
      rw [h, e1, q1] at p1
      injection p1 with n1 p1
      injection p1 with n2 _
      have n2' : (putText (encK b k) y.1).length = (putText (encK a k) x.1).length := by omega
      rw [h, ← n2', q2] at p2
      injection p2 with m1 p2
      injection p2 with m2 _
      have hxy : x = y := Prod.ext n1.symm m1.symm
      refine ⟨by omega, fun j hj => ?_⟩
      by_cases e : j = k
      · subst e; rw [hx, hy, hxy]
      · exact e2 j (by omega)
  exact eq_of_upto hl.symm (key a.length (Nat.le_refl _)).2
theorem escB_cases (c : UInt8) : (c = 10 ∧ escB c = [92, 110]) ∨ (c = 34 ∧ escB c = [92, 34]) ∨ (c = 92 ∧ escB c = [92, 92]) ∨ (c ≠ 10 ∧ c ≠ 34 ∧ c ≠ 92 ∧ escB c = [c]) := by
  by_cases h1 : c = 10
  · subst h1; exact .inl ⟨rfl, rfl⟩
  · by_cases h2 : c = 34
    · subst h2; exact .inr (.inl ⟨rfl, rfl⟩)
    · by_cases h3 : c = 92
      · subst h3; exact .inr (.inr (.inl ⟨rfl, rfl⟩))
      · refine .inr (.inr (.inr ⟨h1, h2, h3, escB_none ?_⟩))
        have := (esc_three c).2
        rw [decide_eq_false h1, decide_eq_false h2, decide_eq_false h3] at this
        simpa using this
theorem escL_cons (c : UInt8) (r : List UInt8) : escL (c :: r) = escB c ++ escL r := rfl
theorem esc_inj : ∀ (v v' X Y : List UInt8), escL v ++ 34 :: X = escL v' ++ 34 :: Y → v = v' ∧ X = Y
  | [], [], X, Y, h => by simpa [escL] using h
  | [], c :: r, X, Y, h => by
    rw [escL_cons] at h
    rcases escB_cases c with ⟨_, e⟩ | ⟨_, e⟩ | ⟨_, e⟩ | ⟨_, h2, _, e⟩ <;> rw [e] at h <;> simp [escL] at h
    exact absurd h.1.symm h2
  | c :: r, [], X, Y, h => by
    rw [escL_cons] at h
    rcases escB_cases c with ⟨_, e⟩ | ⟨_, e⟩ | ⟨_, e⟩ | ⟨_, h2, _, e⟩ <;> rw [e] at h <;> simp [escL] at h
    exact absurd h.1 h2
  | c :: r, c' :: r', X, Y, h => by
    rw [escL_cons, escL_cons, List.append_assoc, List.append_assoc] at h
    have ih := esc_inj r r' X Y
    rcases escB_cases c with ⟨a, e⟩ | ⟨a, e⟩ | ⟨a, e⟩ | ⟨a1, a2, a3, e⟩ <;> rcases escB_cases c' with ⟨a', e'⟩ | ⟨a', e'⟩ | ⟨a', e'⟩ | ⟨a1', a2', a3', e'⟩ <;> rw [e, e'] at h
    · obtain ⟨i1, i2⟩ := ih (by simpa using h); exact ⟨by rw [a, a', i1], i2⟩
    · simp at h
    · simp at h
    · simp at h; exact absurd h.1.symm a3'
    · simp at h
    · obtain ⟨i1, i2⟩ := ih (by simpa using h); exact ⟨by rw [a, a', i1], i2⟩
    · simp at h
    · simp at h; exact absurd h.1.symm a3'
    · simp at h
    · simp at h
    · obtain ⟨i1, i2⟩ := ih (by simpa using h); exact ⟨by rw [a, a', i1], i2⟩
    · simp at h; exact absurd h.1.symm a3'
    · simp at h; exact absurd h.1 a3
    · simp at h; exact absurd h.1 a3
    · simp at h; exact absurd h.1 a3
    · have h' : c = c' ∧ escL r ++ 34 :: X = escL r' ++ 34 :: Y := by simpa using h
      obtain ⟨i1, i2⟩ := ih h'.2
      exact ⟨by rw [h'.1, i1], i2⟩
theorem split_at : ∀ (p q x y : List UInt8) (c : UInt8), c ∉ p → c ∉ q → p ++ c :: x = q ++ c :: y → p = q ∧ x = y
  | [], [], x, y, c, _, _, h => by simpa using h
  | [], d :: q, x, y, c, _, hq, h => by
    simp at h
    exact absurd (by rw [h.1]; simp) hq
  | d :: p, [], x, y, c, hp, _, h => by
    simp at h
    exact absurd (by rw [← h.1]; simp) hp
  | d :: p, e :: q, x, y, c, hp, hq, h => by
    simp only [List.cons_append, List.cons.injEq] at h
    obtain ⟨i1, i2⟩ := split_at p q x y c (fun m => hp (by simp [m])) (fun m => hq (by simp [m])) h.2
    exact ⟨by rw [h.1, i1], i2⟩
theorem name_no {s : ByteArray} (h : nameB s = true) : (61 : UInt8) ∉ s.data.toList := by
  intro hm
  unfold nameB at h
  rw [Bool.and_eq_true] at h
  have := List.all_eq_true.1 h.2 61 hm
  revert this
  decide
theorem labT_inj {l m : Lab} {X Y : List UInt8} (h1 : nameB l.1 = true) (h2 : nameB m.1 = true) (h : labT l ++ X = labT m ++ Y) : l = m ∧ X = Y := by
  have e : ∀ (l : Lab) (X : List UInt8), labT l ++ X = l.1.data.toList ++ 61 :: (34 :: (escL l.2.data.toList ++ 34 :: X)) := fun l X => by simp [labT]
  rw [e, e] at h
  obtain ⟨i1, i2⟩ := split_at _ _ _ _ 61 (name_no h1) (name_no h2) h
  injection i2 with _ i2
  obtain ⟨j1, j2⟩ := esc_inj _ _ _ _ i2
  exact ⟨Prod.ext (WideShapes.bytes_inj i1) (WideShapes.bytes_inj j1), j2⟩
def bodyL (ls : List Lab) : List UInt8 := ls.flatMap fun l => 44 :: labT l
theorem bodyL_inj : ∀ (a b : List Lab), (∀ l ∈ a, nameB l.1 = true) → (∀ l ∈ b, nameB l.1 = true) → bodyL a = bodyL b → a = b
  | [], [], _, _, _ => rfl
  | [], m :: b, _, _, h => by simp [bodyL] at h
  | l :: a, [], _, _, h => by simp [bodyL] at h
  | l :: a, m :: b, ha, hb, h => by
    have e : ∀ (l : Lab) (a : List Lab), bodyL (l :: a) = 44 :: (labT l ++ bodyL a) := fun l a => by simp [bodyL]
    rw [e, e] at h
    injection h with _ h
    obtain ⟨i1, i2⟩ := labT_inj (ha l (by simp)) (hb m (by simp)) h
    rw [i1, bodyL_inj a b (fun x hx => ha x (by simp [hx])) (fun x hx => hb x (by simp [hx])) i2]
theorem innK_body (ls : List Lab) : ∀ k, k ≤ ls.length → (if k = 0 then [] else 44 :: innK ls k) = bodyL (ls.take k)
  | 0, _ => by simp [bodyL]
  | k + 1, hk => by
    have ih := innK_body ls k (by omega)
    obtain ⟨x, hx⟩ : ∃ x, ls[k]? = some x := ⟨_, List.getElem?_eq_getElem (by omega)⟩
    rw [if_neg (by omega), innK_succ hx, List.take_add_one, hx, Option.toList_some]
    have e : bodyL (ls.take k ++ [x]) = bodyL (ls.take k) ++ 44 :: labT x := by simp [bodyL]
    rw [e, ← ih]
    by_cases h0 : k = 0
    · subst h0; simp [innK]
    · rw [if_neg h0, if_neg h0]; simp
theorem textB_inj {a b : List Lab} (ha : Good a) (hb : Good b) (h : textB a = textB b) : a = b := by
  have h1 : textL a = textL b := by
    have := congrArg (fun s : ByteArray => s.data.toList) h
    simpa [textB] using this
  unfold textL at h1
  injection h1 with _ h1
  have h2 : innK a a.length = innK b b.length := List.append_cancel_right h1
  have ea := innK_body a a.length (Nat.le_refl _)
  have eb := innK_body b b.length (Nat.le_refl _)
  rw [List.take_length] at ea eb
  have hlen : ∀ (ls : List Lab), 0 < ls.length → 0 < (innK ls ls.length).length := by
    intro ls hls
    obtain ⟨x, hx⟩ : ∃ x, ls[0]? = some x := ⟨_, List.getElem?_eq_getElem hls⟩
    have := innK_le (ls := ls) (ls.length - 1) 1
    rw [show 1 + (ls.length - 1) = ls.length from by omega, innK_succ hx, List.length_append, labT_len] at this
    omega
  refine bodyL_inj a b (fun l hl => (ha.1 l hl).1) (fun l hl => (hb.1 l hl).1) ?_
  rw [← ea, ← eb, h2]
  by_cases a0 : a.length = 0
  · by_cases b0 : b.length = 0
    · rw [if_pos a0, if_pos b0]
    · have hb1 := hlen b (by omega)
      rw [← h2, a0] at hb1
      simp [innK] at hb1
  · by_cases b0 : b.length = 0
    · have ha1 := hlen a (by omega)
      rw [h2, b0] at ha1
      simp [innK] at ha1
    · rw [if_neg a0, if_neg b0]
end Go.Proofs.YtnlheomfobpcmaaGreat
