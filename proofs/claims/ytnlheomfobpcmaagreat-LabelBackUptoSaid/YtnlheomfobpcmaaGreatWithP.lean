/- A set with a label more; kept and left out. Plain laws. -/
import Derived.Test.YtnlheomfobpcmaaGreatLabI
import Derived.Test.YtnlheomfobpcmaaGreatLabK
import Derived.Test.YtnlheomfobpcmaaGreatOrd
namespace Go.Proofs.YtnlheomfobpcmaaGreat
open Go.RowKit

theorem leB_cmp (a b : ByteArray) : leB a b = decide (strCmp a b ≤ 0) := by
  unfold leB
  have h := strCmp_rng a b
  rw [strLess, beq_toList, Bool.eq_iff_iff]
  simp only [Bool.or_eq_true, decide_eq_true_eq]
  constructor
  · rintro (h1 | h1)
    · omega
    · rw [(strCmp_is.eq a b).2 h1]; omega
  · intro h1
    rcases (show strCmp a b = -1 ∨ strCmp a b = 0 by omega) with h2 | h2
    · exact .inl h2
    · exact .inr ((strCmp_is.eq a b).1 h2)
/-- Each label may be; each name is behind the one ahead. -/
def Good (ls : List Lab) : Prop := (∀ l ∈ ls, nameB l.1 = true ∧ valB l.2 = true) ∧ ls.Pairwise fun a b => strCmp a.1 b.1 < 0
theorem checkFrom_good : ∀ (ls : List Lab) (p : Option Lab), checkFrom p ls = 0 ↔ ((∀ l ∈ ls, nameB l.1 = true ∧ valB l.2 = true) ∧ (∀ q, p = some q → ∀ l ∈ ls.head?, strCmp q.1 l.1 < 0) ∧ ls.Pairwise fun a b => strCmp a.1 b.1 < 0)
  | [], p => by simp [checkFrom]
  | l :: r, p => by
    have ih := checkFrom_good r (some l)
    rw [checkFrom]
    have he : labErr p l = 0 ↔ (nameB l.1 = true ∧ valB l.2 = true) ∧ ∀ q, p = some q → strCmp q.1 l.1 < 0 := by
      unfold labErr
      cases hn : nameB l.1 with
      | false => simp
      | true =>
        cases hv : valB l.2 with
        | false => simp
        | true =>
          cases p with
          | none => simp
          | some q =>
            have h := strCmp_is.anti q.1 l.1
            simp only [Option.any_some, leB_cmp]
            by_cases h2 : strCmp l.1 q.1 ≤ 0
            · simp [h2]; omega
            · simp [h2]; omega
    have hp : (r.Pairwise fun a b => strCmp a.1 b.1 < 0) → (∀ x ∈ r.head?, strCmp l.1 x.1 < 0) → ∀ x ∈ r, strCmp l.1 x.1 < 0 := by
      intro h1 h2 x hx
      match r, h1, h2, hx with
      | y :: t, h1, h2, hx =>
        have hy := h2 y (by simp)
        rcases List.mem_cons.1 hx with rfl | hx
        · exact hy
        · have := (List.pairwise_cons.1 h1).1 x hx
          exact strCmp_is.lt_le hy (by omega)
    by_cases h0 : labErr p l = 0
    · rw [if_pos h0, ih]
      have h0' := he.1 h0
      constructor
      · rintro ⟨h1, h2, h3⟩
        refine ⟨fun x hx => ?_, fun q hq x hx => ?_, ?_⟩
        · rcases List.mem_cons.1 hx with rfl | hx
          · exact h0'.1
          · exact h1 x hx
        · simp at hx; subst hx; exact h0'.2 q hq
        · exact List.pairwise_cons.2 ⟨hp h3 (h2 l rfl), h3⟩
      · rintro ⟨h1, h2, h3⟩
        refine ⟨fun x hx => h1 x (by simp [hx]), fun q hq x hx => ?_, (List.pairwise_cons.1 h3).2⟩
        injection hq with hq
        subst hq
        exact (List.pairwise_cons.1 h3).1 x (List.mem_of_mem_head? hx)
    · rw [if_neg h0]
      refine ⟨fun h => absurd h h0, ?_⟩
      rintro ⟨h1, h2, h3⟩
      exact absurd (he.2 ⟨h1 l (by simp), fun q hq => h2 q hq l (by simp)⟩) h0
theorem check_good {ls : List Lab} : checkL ls = 0 ↔ ls.length ≤ 16 ∧ Good ls := by
  unfold checkL
  by_cases h : ls.length ≤ 16
  · rw [if_pos h, checkFrom_good]
    simp [Good, h]
  · rw [if_neg h]
    simp [h]
theorem memB_iff {ns : List ByteArray} {n : ByteArray} : memB ns n = true ↔ n ∈ ns := by
  unfold memB
  simp
theorem Good.filter {ls : List Lab} (h : Good ls) (p : Lab → Bool) : Good (ls.filter p) := ⟨fun l hl => h.1 l ((List.mem_filter.1 hl).1), h.2.filter p⟩
/-- In a set that may be a name has one value. -/
theorem getL_mem : ∀ {ls : List Lab} {l : Lab}, (ls.Pairwise fun a b => strCmp a.1 b.1 < 0) → l ∈ ls → getL ls l.1 = l.2
  | [], l, _, h => by cases h
  | x :: r, l, hp, h => by
    rw [getL]
    rcases List.mem_cons.1 h with rfl | h
    · rw [if_pos rfl]
    · have h1 := (List.pairwise_cons.1 hp).1 l h
      rw [if_neg (fun e => by rw [e, strCmp_is.refl] at h1; omega)]
      exact getL_mem (List.pairwise_cons.1 hp).2 h
theorem getL_not : ∀ {ls : List Lab} {nm : ByteArray}, (∀ l ∈ ls, l.1 ≠ nm) → getL ls nm = ByteArray.empty
  | [], _, _ => rfl
  | x :: r, nm, h => by
    rw [getL, if_neg (h x (by simp))]
    exact getL_not fun l hl => h l (by simp [hl])
/-- The place of a name in a set. -/
theorem take_posN (r : List Lab) (nm : ByteArray) : r.take (posN r nm) = r.takeWhile (fun l => leB l.1 nm) := by
  unfold posN
  induction r with
  | nil => rfl
  | cons x r ih =>
    rw [List.takeWhile_cons]
    split
    · rw [List.length_cons, List.take_succ_cons, ih]
    · rfl
theorem drop_posN (r : List Lab) (nm : ByteArray) : r.drop (posN r nm) = r.dropWhile (fun l => leB l.1 nm) := by
  unfold posN
  induction r with
  | nil => rfl
  | cons x r ih =>
    rw [List.takeWhile_cons, List.dropWhile_cons]
    split
    · rw [List.length_cons, List.drop_succ_cons, ih]
    · rfl
theorem mem_takeWhile {α : Type} {p : α → Bool} : ∀ {l : List α} {x : α}, x ∈ l.takeWhile p → p x = true
  | [], _, h => by cases h
  | y :: r, x, h => by
    rw [List.takeWhile_cons] at h
    split at h
    · rcases List.mem_cons.1 h with rfl | h
      · assumption
      · exact mem_takeWhile h
    · cases h
theorem insL_good {r : List Lab} {l : Lab} (h : Good r) (hn : ∀ x ∈ r, x.1 ≠ l.1) (h1 : nameB l.1 = true) (h2 : valB l.2 = true) : Good (insL r l) := by
  unfold insL
  have hsub : ∀ x, x ∈ r.take (posN r l.1) ++ l :: r.drop (posN r l.1) → x = l ∨ x ∈ r := by
    intro x hx
    rcases List.mem_append.1 hx with hx | hx
    · exact .inr (List.mem_of_mem_take hx)
    · rcases List.mem_cons.1 hx with rfl | hx
      · exact .inl rfl
      · exact .inr (List.mem_of_mem_drop hx)
  refine ⟨fun x hx => ?_, ?_⟩
  · rcases hsub x hx with rfl | hx
    · exact ⟨h1, h2⟩
    · exact h.1 x hx
  · have hall : (r.take (posN r l.1) ++ r.drop (posN r l.1)).Pairwise fun a b => strCmp a.1 b.1 < 0 := by rw [List.take_append_drop]; exact h.2
    obtain ⟨p1, p2, p3⟩ := List.pairwise_append.1 hall
    have ht : ∀ x ∈ r.take (posN r l.1), strCmp x.1 l.1 < 0 := by
      intro x hx
      have hm := List.mem_of_mem_take hx
      rw [take_posN] at hx
      have := mem_takeWhile hx
      rw [leB_cmp, decide_eq_true_eq] at this
      rcases Int.lt_or_eq_of_le this with h3 | h3
      · exact h3
      · exact absurd ((strCmp_is.eq _ _).1 h3) (hn x hm)
    have hd : ∀ x ∈ r.drop (posN r l.1), strCmp l.1 x.1 < 0 := by
      intro x hx
      have hdp := hx
      rw [drop_posN] at hx
      cases hq : r.dropWhile (fun l' => leB l'.1 l.1) with
      | nil => rw [hq] at hx; cases hx
      | cons y t =>
        have hy : leB y.1 l.1 = false := by
          have := List.head?_dropWhile_not (fun l' : Lab => leB l'.1 l.1) r
          rw [hq] at this
          simpa using this
        rw [leB_cmp, decide_eq_false_iff_not] at hy
        have hly : strCmp l.1 y.1 < 0 := by have := strCmp_is.anti y.1 l.1; omega
        rw [drop_posN, hq] at p2
        rw [hq] at hx
        rcases List.mem_cons.1 hx with rfl | hx
        · exact hly
        · exact strCmp_is.lt_le hly (by have := (List.pairwise_cons.1 p2).1 x hx; omega)
    refine List.pairwise_append.2 ⟨p1, List.pairwise_cons.2 ⟨hd, p2⟩, fun x hx y hy => ?_⟩
    rcases List.mem_cons.1 hy with rfl | hy
    · exact ht x hx
    · exact p3 x hx y hy
theorem insL_filter {r : List Lab} {l : Lab} (p : Lab → Bool) (hl : p l = false) : (insL r l).filter p = r.filter p := by
  unfold insL
  rw [List.filter_append, List.filter_cons, hl]
  simp only [Bool.false_eq_true, if_false]
  rw [← List.filter_append, List.take_append_drop]
theorem mem_insL {r : List Lab} {l : Lab} : l ∈ insL r l := by unfold insL; simp
theorem without_ne {ls : List Lab} {nm : ByteArray} : ∀ x ∈ withoutL ls [nm], x.1 ≠ nm := by
  intro x hx
  have := (List.mem_filter.1 hx).2
  intro e
  rw [e] at this
  simp [memB] at this
/-- The law's first half. -/
theorem with_law {ls : List Lab} {nm v : ByteArray} (h : Good ls) (h1 : nameB nm = true) (h2 : valB v = true) : Good (withL ls nm v) ∧ getL (withL ls nm v) nm = v ∧ withoutL (withL ls nm v) [nm] = withoutL ls [nm] := by
  have hv0 : v.size ≠ 0 := by
    intro e
    unfold valB at h2
    simp [e] at h2
  have hw : withL ls nm v = insL (withoutL ls [nm]) (nm, v) := by unfold withL; rw [if_neg hv0]
  have hg := insL_good (l := (nm, v)) (h.filter (fun l => !memB [nm] l.1)) without_ne h1 h2
  rw [hw]
  refine ⟨hg, getL_mem (l := (nm, v)) hg.2 mem_insL, ?_⟩
  unfold withoutL
  rw [insL_filter _ (by simp [memB]), List.filter_filter]
  simp
theorem with_none (ls : List Lab) (nm : ByteArray) : withL ls nm ByteArray.empty = withoutL ls [nm] := by unfold withL; rw [if_pos (show ByteArray.empty.size = 0 from rfl)]
/-- The law's second half: of a label kept and left out. -/
theorem keep_law {ls : List Lab} {ns : List ByteArray} {l : Lab} (h : Good ls) (hl : l ∈ ls) : (decide (getL (keepL ls ns) l.1 = l.2) == decide (getL (withoutL ls ns) l.1 = l.2)) = false := by
  have hv0 : l.2 ≠ ByteArray.empty := by
    intro e
    have := (h.1 l hl).2
    rw [e] at this
    revert this
    decide
  by_cases hm : memB ns l.1 = true
  · have e1 : getL (keepL ls ns) l.1 = l.2 := getL_mem (h.filter _).2 (List.mem_filter.2 ⟨hl, hm⟩)
    have e2 : getL (withoutL ls ns) l.1 = ByteArray.empty := getL_not fun x hx e => by
      have := (List.mem_filter.1 hx).2
      rw [e, hm] at this
      cases this
    rw [e1, e2, decide_eq_true rfl, decide_eq_false (fun e => hv0 e.symm)]
    rfl
  · have hm' : memB ns l.1 = false := by simpa using hm
    have e1 : getL (withoutL ls ns) l.1 = l.2 := getL_mem (h.filter _).2 (List.mem_filter.2 ⟨hl, by rw [hm']; rfl⟩)
    have e2 : getL (keepL ls ns) l.1 = ByteArray.empty := getL_not fun x hx e => by
      have := (List.mem_filter.1 hx).2
      rw [e, hm'] at this
      cases this
    rw [e1, e2, decide_eq_true rfl, decide_eq_false (fun e => hv0 e.symm)]
    rfl
theorem keep_len (ls : List Lab) (ns : List ByteArray) : (keepL ls ns).length + (withoutL ls ns).length = ls.length := by
  unfold keepL withoutL
  induction ls with
  | nil => rfl
  | cons x r ih =>
    rw [List.filter_cons, List.filter_cons]
    cases memB ns x.1 <;> simp <;> omega
end Go.Proofs.YtnlheomfobpcmaaGreat
