/- Strict orders told as three-way comparisons: of pairs, of lists, of texts, of label sets. Plain laws. -/
import Derived.Test.YtnlheomfobpcmaaGreatLabS
import Derived.Lib.Bytealg
namespace Go.Proofs.YtnlheomfobpcmaaGreat
open Go.RowKit

structure IsCmp {α : Type} (c : α → α → Int) : Prop where
  anti : ∀ x y, c y x = - c x y
  eq : ∀ x y, c x y = 0 ↔ x = y
  trans : ∀ x y z, c x y ≤ 0 → c y z ≤ 0 → c x z ≤ 0
namespace IsCmp
variable {α : Type} {c : α → α → Int}
theorem refl (h : IsCmp c) (x : α) : c x x = 0 := (h.eq x x).2 rfl
theorem lt_le (h : IsCmp c) {x y z : α} (h1 : c x y < 0) (h2 : c y z ≤ 0) : c x z < 0 := by
  have h3 := h.trans x y z (by omega) h2
  rcases Int.lt_or_eq_of_le h3 with h4 | h4
  · exact h4
  · have e := (h.eq x z).1 h4
    subst e
    have := h.anti x y
    omega
theorem le_lt (h : IsCmp c) {x y z : α} (h1 : c x y ≤ 0) (h2 : c y z < 0) : c x z < 0 := by
  have h3 := h.trans x y z h1 (by omega)
  rcases Int.lt_or_eq_of_le h3 with h4 | h4
  · exact h4
  · have e := (h.eq x z).1 h4
    subst e
    have := h.anti x y
    omega
end IsCmp
/-- First by the one, then by the other. -/
def pairCmp {α β : Type} (c : α → α → Int) (d : β → β → Int) (x y : α × β) : Int := if c x.1 y.1 = 0 then d x.2 y.2 else c x.1 y.1
theorem pairCmp_is {α β : Type} {c : α → α → Int} {d : β → β → Int} (hc : IsCmp c) (hd : IsCmp d) : IsCmp (pairCmp c d) where
  anti x y := by
    have h1 := hc.anti x.1 y.1
    have h2 := hd.anti x.2 y.2
    unfold pairCmp
    split <;> split <;> omega
  eq x y := by
    unfold pairCmp
    split
    · rename_i h
      rw [hd.eq]
      have := (hc.eq _ _).1 h
      exact ⟨fun h2 => Prod.ext this h2, fun h2 => by rw [h2]⟩
    · rename_i h
      refine ⟨fun h2 => absurd h2 h, fun h2 => absurd ((hc.eq _ _).2 (by rw [h2])) h⟩
  trans x y z := by
    unfold pairCmp
    intro h1 h2
    by_cases e1 : c x.1 y.1 = 0
    · rw [if_pos e1] at h1
      rw [(hc.eq _ _).1 e1]
      by_cases e2 : c y.1 z.1 = 0
      · rw [if_pos e2] at h2 ⊢
        exact hd.trans _ _ _ h1 h2
      · rw [if_neg e2] at h2 ⊢
        exact h2
    · rw [if_neg e1] at h1
      by_cases e2 : c y.1 z.1 = 0
      · rw [← (hc.eq _ _).1 e2, if_neg e1]
        exact h1
      · rw [if_neg e2] at h2
        have := hc.lt_le (x := x.1) (y := y.1) (z := z.1) (by omega) h2
        rw [if_neg (by omega)]
        omega
/-- The first that differ tell; else the shorter one is first. -/
def listCmp {α : Type} (c : α → α → Int) : List α → List α → Int
  | [], [] => 0
  | [], _ :: _ => -1
  | _ :: _, [] => 1
  | x :: a, y :: b => if c x y = 0 then listCmp c a b else c x y
theorem listCmp_anti {α : Type} {c : α → α → Int} (hc : IsCmp c) : ∀ a b : List α, listCmp c b a = - listCmp c a b
  | [], [] => rfl
  | [], _ :: _ => rfl
  | _ :: _, [] => rfl
  | x :: a, y :: b => by
    have h1 := hc.anti x y
    have h2 := listCmp_anti hc a b
    rw [listCmp, listCmp]
    split <;> split <;> omega
theorem listCmp_eq {α : Type} {c : α → α → Int} (hc : IsCmp c) : ∀ a b : List α, listCmp c a b = 0 ↔ a = b
  | [], [] => by simp [listCmp]
  | [], _ :: _ => by simp [listCmp]
  | _ :: _, [] => by simp [listCmp]
  | x :: a, y :: b => by
    rw [listCmp]
    split
    · rename_i h
      rw [listCmp_eq hc a b, (hc.eq _ _).1 h]
      simp
    · rename_i h
      refine ⟨fun h2 => absurd h2 h, fun h2 => ?_⟩
      injection h2 with h2 _
      exact absurd ((hc.eq _ _).2 h2) h
theorem listCmp_trans {α : Type} {c : α → α → Int} (hc : IsCmp c) : ∀ a b d : List α, listCmp c a b ≤ 0 → listCmp c b d ≤ 0 → listCmp c a d ≤ 0
  | [], [], _, _, h => h
  | [], _ :: _, [], _, h => by simp [listCmp] at h
  | [], _ :: _, _ :: _, _, _ => by simp [listCmp]
  | _ :: _, [], _, h, _ => by simp [listCmp] at h
  | _ :: _, _ :: _, [], _, h => by simp [listCmp] at h
  | x :: a, y :: b, z :: d, h1, h2 => by
    have ih := listCmp_trans hc a b d
    rw [listCmp] at h1 h2 ⊢
    by_cases e1 : c x y = 0
    · rw [if_pos e1] at h1
      rw [(hc.eq _ _).1 e1]
      by_cases e2 : c y z = 0
      · rw [if_pos e2] at h2 ⊢
        exact ih h1 h2
      · rw [if_neg e2] at h2 ⊢
        exact h2
    · rw [if_neg e1] at h1
      by_cases e2 : c y z = 0
      · rw [← (hc.eq _ _).1 e2, if_neg e1]
        exact h1
      · rw [if_neg e2] at h2
        have := hc.lt_le (x := x) (y := y) (z := z) (by omega) h2
        rw [if_neg (by omega)]
        omega
theorem listCmp_is {α : Type} {c : α → α → Int} (hc : IsCmp c) : IsCmp (listCmp c) := ⟨listCmp_anti hc, listCmp_eq hc, listCmp_trans hc⟩
def byteCmp (a b : UInt8) : Int := if a.toNat < b.toNat then -1 else if b.toNat < a.toNat then 1 else 0
theorem byteCmp_is : IsCmp byteCmp where
  anti x y := by unfold byteCmp; split <;> split <;> omega
  eq x y := by
    unfold byteCmp
    rw [← UInt8.toNat_inj]
    split
    · omega
    · split <;> omega
  trans x y z := by unfold byteCmp; repeat' split
                    all_goals omega
theorem compareBytes_list : ∀ a b : List UInt8, Lib.compareBytes a b = listCmp byteCmp a b
  | [], [] => rfl
  | [], _ :: _ => rfl
  | _ :: _, [] => rfl
  | x :: a, y :: b => by
    have ih := compareBytes_list a b
    rw [Lib.compareBytes, listCmp, ih]
    unfold byteCmp
    have e1 : (x < y) = (x.toNat < y.toNat) := by rw [UInt8.lt_iff_toNat_lt]
    have e2 : (y < x) = (y.toNat < x.toNat) := by rw [UInt8.lt_iff_toNat_lt]
    simp only [e1, e2]
    split
    · rw [if_neg (by decide)]
    · split
      · rw [if_neg (by decide)]
      · rw [if_pos rfl]
/-- Of two texts. -/
def strCmp (a b : ByteArray) : Int := Lib.compareBytes a.data.toList b.data.toList
theorem strCmp_is : IsCmp strCmp := by
  have h := listCmp_is byteCmp_is
  have e : ∀ a b, strCmp a b = listCmp byteCmp a.data.toList b.data.toList := fun a b => compareBytes_list _ _
  refine ⟨fun x y => by rw [e, e]; exact h.anti _ _, fun x y => ?_, fun x y z => by rw [e, e, e]; exact h.trans _ _ _⟩
  rw [e, h.eq]
  exact ⟨fun h => WideShapes.bytes_inj h, fun h => by rw [h]⟩
def labCmp : Lab → Lab → Int := pairCmp strCmp strCmp
theorem labCmp_is : IsCmp labCmp := pairCmp_is strCmp_is strCmp_is
def setCmp : List Lab → List Lab → Int := listCmp labCmp
theorem setCmp_is : IsCmp setCmp := listCmp_is labCmp_is
theorem listCmp_rng {α : Type} {c : α → α → Int} (hc : ∀ x y, -1 ≤ c x y ∧ c x y ≤ 1) : ∀ a b : List α, -1 ≤ listCmp c a b ∧ listCmp c a b ≤ 1
  | [], [] => by simp [listCmp]
  | [], _ :: _ => by simp [listCmp]
  | _ :: _, [] => by simp [listCmp]
  | x :: a, y :: b => by
    rw [listCmp]
    split
    · exact listCmp_rng hc a b
    · exact hc x y
theorem strCmp_rng (a b : ByteArray) : -1 ≤ strCmp a b ∧ strCmp a b ≤ 1 := by
  rw [strCmp, compareBytes_list]
  refine listCmp_rng (fun x y => ?_) _ _
  unfold byteCmp
  split
  · omega
  · split <;> omega
theorem labCmp_rng (x y : Lab) : -1 ≤ labCmp x y ∧ labCmp x y ≤ 1 := by
  unfold labCmp pairCmp
  split
  · exact strCmp_rng _ _
  · exact strCmp_rng _ _
theorem setCmp_rng (a b : List Lab) : -1 ≤ setCmp a b ∧ setCmp a b ≤ 1 := listCmp_rng labCmp_rng a b
/-- 'a < b' of two texts is 'first'. -/
theorem bytesLess_cmp : ∀ a b : List UInt8, Op.bytesLess a b = decide (Lib.compareBytes a b = -1)
  | [], [] => rfl
  | [], _ :: _ => rfl
  | _ :: _, [] => rfl
  | x :: a, y :: b => by
    have ih := bytesLess_cmp a b
    rw [Op.bytesLess, Lib.compareBytes, ih]
    by_cases h1 : x < y
    · simp [h1]
    · by_cases h2 : y < x
      · have h3 : x ≠ y := by rintro rfl; exact h1 h2
        simp [h1, h2, h3]
      · have h3 : x = y := by
          rw [← UInt8.toNat_inj]
          rw [UInt8.lt_iff_toNat_lt] at h1 h2
          omega
        simp [h3]
theorem strLess (a b : ByteArray) : Op.bytesLess a.toList b.toList = decide (strCmp a b = -1) := by
  rw [Lib.toList_data, Lib.toList_data]; exact bytesLess_cmp _ _
/-- The two sets are alike as far as their first k labels. -/
theorem setCmp_drop {a b : List Lab} {k : Nat} (h : ∀ j, j < k → a[j]? = b[j]?) (ha : k ≤ a.length) (hb : k ≤ b.length) : setCmp a b = setCmp (a.drop k) (b.drop k) := by
  induction k generalizing a b with
  | zero => rfl
  | succ k ih =>
    match a, b, ha, hb with
    | x :: a, y :: b, ha, hb =>
      have h0 := h 0 (by omega)
      simp only [List.getElem?_cons_zero, Option.some.injEq] at h0
      subst h0
      rw [List.drop_succ_cons, List.drop_succ_cons, ← ih (fun j hj => by simpa using h (j + 1) (by omega)) (by simpa using ha) (by simpa using hb)]
      unfold setCmp
      rw [listCmp, if_pos (labCmp_is.refl x)]
theorem setCmp_at {a b : List Lab} {k : Nat} {x y : Lab} (h : Hid (∀ j, j < k → a[j]? = b[j]?)) (ha : a[k]? = some x) (hb : b[k]? = some y) (hne : labCmp x y ≠ 0) : setCmp a b = labCmp x y := by
  obtain ⟨hka, rfl⟩ := List.getElem?_eq_some_iff.1 ha
  obtain ⟨hkb, rfl⟩ := List.getElem?_eq_some_iff.1 hb
  rw [setCmp_drop h.out (by omega) (by omega), List.drop_eq_getElem_cons hka, List.drop_eq_getElem_cons hkb]
  unfold setCmp
  rw [listCmp, if_neg hne]
theorem setCmp_short {a b : List Lab} (h : Hid (∀ j, j < a.length → a[j]? = b[j]?)) (hl : a.length < b.length) : setCmp a b = -1 := by
  rw [setCmp_drop h.out (Nat.le_refl _) (by omega), List.drop_length]
  match hb : b.drop a.length with
  | [] => have := congrArg List.length hb; simp at this; omega
  | _ :: _ => rfl
theorem setCmp_long {a b : List Lab} (h : Hid (∀ j, j < b.length → a[j]? = b[j]?)) (hl : b.length < a.length) : setCmp a b = 1 := by
  rw [setCmp_drop h.out (by omega) (Nat.le_refl _), List.drop_length]
  match hb : a.drop b.length with
  | [] => have := congrArg List.length hb; simp at this; omega
  | _ :: _ => rfl
theorem setCmp_same {a b : List Lab} (h : Hid (∀ j, j < a.length → a[j]? = b[j]?)) (hl : a.length = b.length) : setCmp a b = 0 := by
  rw [setCmp_drop h.out (Nat.le_refl _) (by omega), List.drop_length, hl, List.drop_length]
  rfl
end Go.Proofs.YtnlheomfobpcmaaGreat
