/- Types of trees: the plain answer, and plain laws of it. No program in sight. -/
import Derived.Test.YtmhfeeomlpdnkaaNodS
import Derived.Test.YtmhfeeomlpdnkaaMatK
import Derived.Test.YtmhfeeomlpdnkaaLexN
namespace Go.Proofs.Ytmhfeeomlpdnkaa
open Go.RowKit

def inB (lo hi x : Int) : Bool := decide (lo ≤ x) && decide (x ≤ hi)
def spanB (v least : Int) : Bool := decide (least ≤ v) && decide (v < 2147483648)
def cmpB (op : Int) : Bool := inB 5 10 op
def setB (op : Int) : Bool := inB 11 13 op
def partsN (k : Int) : Int := if k = 1 ∨ k = 2 ∨ k = 3 then 0 else if k = 6 then 2 else if k = 4 ∨ k = 5 ∨ k = 7 then 1 else -1
/-- A node with just those fields that its kind uses. -/
def bareN (n : Nod) : Nod :=
  if n.kind = 1 then ⟨n.kind, 0, n.text, [], 0, 0, 0, [], false, 0⟩
  else if n.kind = 2 then ⟨n.kind, 0, ByteArray.empty, [], 0, n.back, 0, [], false, 0⟩
  else if n.kind = 3 then ⟨n.kind, 0, ByteArray.empty, [], n.width, n.back, 0, [], false, 0⟩
  else if n.kind = 4 then ⟨n.kind, n.op, ByteArray.empty, [], 0, 0, 0, [], false, n.parts⟩
  else if n.kind = 5 then ⟨n.kind, n.op, ByteArray.empty, [], 0, 0, n.grp, [], false, n.parts⟩
  else if n.kind = 6 then ⟨n.kind, n.op, ByteArray.empty, [], 0, 0, n.grp, [], n.cmp, n.parts⟩
  else ⟨n.kind, 0, ByteArray.empty, [], 0, 0, 0, [], false, n.parts⟩
def plainB (a b : Nod) : Bool := decide (a.kind = b.kind) && decide (a.op = b.op) && decide (a.text = b.text) && decide (a.width = b.width) && decide (a.back = b.back) && decide (a.grp = b.grp) && decide (a.cmp = b.cmp) && decide (a.parts = b.parts)
def nodeNames (n : Nod) : Bool := n.names.all nameB && (decide (n.names = []) || !decide (n.grp = 0))
def kindOk (n : Nod) : Bool :=
  if n.kind = 1 then numB n.text.data.toList
  else if n.kind = 2 then spanB n.back 0
  else if n.kind = 3 then spanB n.width 1 && spanB n.back 0
  else if n.kind = 4 then decide (n.parts = 1) && inB 1 12 n.op
  else if n.kind = 5 then decide (n.parts = 1) && inB 1 5 n.op && inB 0 2 n.grp
  else if n.kind = 6 then decide (n.parts = 2) && inB 1 13 n.op && (decide (n.grp = 0) || decide (n.grp = 3) || decide (n.grp = 4)) && (!n.cmp || cmpB n.op)
  else if n.kind = 7 then decide (n.parts = 1)
  else false
def formB (n : Nod) : Bool := plainB n (bareN n) && nodeNames n && (decide (n.mat = []) || decide (n.kind = 2) || decide (n.kind = 3)) && kindOk n
theorem formB_parts {n : Nod} (h : formB n = true) : partsN n.kind = n.parts ∧ 0 ≤ n.parts ∧ 1 ≤ n.kind ∧ n.kind ≤ 7 := by
  simp only [formB, Bool.and_eq_true] at h
  obtain ⟨⟨⟨h1, _⟩, _⟩, h4⟩ := h
  unfold kindOk at h4
  unfold plainB bareN at h1
  unfold partsN
  by_cases k1 : n.kind = 1
  · simp [k1] at h1 ⊢; omega
  by_cases k2 : n.kind = 2
  · simp [k2] at h1 ⊢; omega
  by_cases k3 : n.kind = 3
  · simp [k3] at h1 ⊢; omega
  by_cases k4 : n.kind = 4
  · simp [k4] at h1 h4 ⊢; omega
  by_cases k5 : n.kind = 5
  · simp [k5] at h1 h4 ⊢; omega
  by_cases k6 : n.kind = 6
  · simp [k6] at h1 h4 ⊢; omega
  by_cases k7 : n.kind = 7
  · simp [k7] at h1 h4 ⊢; omega
  simp [k1, k2, k3, k4, k5, k6, k7] at h4

/-- The type of a node over its parts' types; the error. -/
def ofN (n : Nod) (p : List Int) : Int × Int :=
  if n.kind = 1 then (1, 0)
  else if n.kind = 2 then (2, 0)
  else if n.kind = 3 then (3, 0)
  else if n.kind = 4 then (if p.getD 0 0 = (if n.op = 11 ∨ n.op = 12 then 2 else 3) then (2, 0) else (0, 191))
  else if n.kind = 5 then (if p.getD 0 0 = 2 then (2, 0) else (0, 191))
  else if n.kind = 7 then (if p.getD 0 0 = 3 then (0, 191) else (p.getD 0 0, 0))
  else if p.getD 0 0 = 3 ∨ p.getD 1 0 = 3 ∨ (11 ≤ n.op ∨ n.grp ≠ 0) ∧ ¬ (p.getD 0 0 = 2 ∧ p.getD 1 0 = 2) ∨ (p.getD 0 0 = 1 ∧ p.getD 1 0 = 1) ∧ cmpB n.op = true ∧ n.cmp = false then (0, 192)
  else (max (p.getD 0 0) (p.getD 1 0), 0)
/-- A node is gone through: the code, and the stack behind it. -/
def stepN (st : List Int) (n : Nod) : Int × List Int :=
  if formB n = false ∨ (st.length : Int) < n.parts then (190, st)
  else if matCode n.mat ≠ 0 then (193, st)
  else ((ofN n (st.drop (st.length - n.parts.toNat))).2, st.take (st.length - n.parts.toNat) ++ [(ofN n (st.drop (st.length - n.parts.toNat))).1])
def runN' : List Nod → Nat → List Int → Except (Nat × Int) (List Int)
  | [], _, st => .ok st
  | n :: r, k, st => if (stepN st n).1 = 0 then runN' r (k + 1) (stepN st n).2 else .error (k, (stepN st n).1)
def checkN (ns : List Nod) : Int × Nat × Int :=
  match runN' ns 0 [] with
  | .error (k, e) => (0, k, e)
  | .ok st => if st.length ≠ 1 ∨ 4096 < ns.length then (0, ns.length, 190) else (st.getD 0 0, 0, 0)

/-! ### plain laws -/
def TyOk (x : Int) : Prop := 1 ≤ x ∧ x ≤ 3
theorem stepN_ok {st : List Int} {n : Nod} (hs : ∀ x ∈ st, TyOk x) (h : (stepN st n).1 = 0) : ∀ x ∈ (stepN st n).2, TyOk x := by
  unfold stepN at h ⊢
  by_cases h1 : formB n = false ∨ (st.length : Int) < n.parts
  · rw [if_pos h1] at h; simp at h
  rw [if_neg h1] at h ⊢
  by_cases h2 : matCode n.mat ≠ 0
  · rw [if_pos h2] at h; simp at h
  rw [if_neg h2] at h ⊢
  have hf : formB n = true := by cases hh : formB n with
    | false => exact absurd (.inl hh) h1
    | true => rfl
  obtain ⟨p1, p2, p3, p4⟩ := formB_parts hf
  have hle : ¬ (st.length : Int) < n.parts := fun hh => h1 (.inr hh)
  simp only at h ⊢
  have hd : ∀ j, j < n.parts.toNat → TyOk ((st.drop (st.length - n.parts.toNat)).getD j 0) := by
    intro j hj
    rw [List.getD_eq_getElem?_getD, List.getElem?_drop]
    have hlt : st.length - n.parts.toNat + j < st.length := by omega
    rw [List.getElem?_eq_getElem hlt]
    exact hs _ (List.getElem_mem hlt)
  intro x hx
  rcases List.mem_append.1 hx with hx | hx
  · exact hs x (List.mem_of_mem_take hx)
  · simp at hx
    subst hx
    generalize st.drop (st.length - n.parts.toNat) = p at h hd
    unfold ofN at h ⊢
    unfold partsN at p1
    by_cases k1 : n.kind = 1
    · simp [k1, TyOk]
    by_cases k2 : n.kind = 2
    · simp [k2, TyOk]
    by_cases k3 : n.kind = 3
    · simp [k3, TyOk]
    have e1 : ¬ (n.kind = 1 ∨ n.kind = 2 ∨ n.kind = 3) := by omega
    rw [if_neg e1] at p1
    simp only [k1, k2, k3, if_false] at h ⊢
    have hp1 : 1 ≤ n.parts := by
      by_cases k6 : n.kind = 6
      · rw [if_pos k6] at p1; omega
      · rw [if_neg k6, if_pos (by omega)] at p1; omega
    have g0 := hd 0 (by omega)
    by_cases k4 : n.kind = 4
    · simp only [k4, if_true] at h ⊢
      by_cases hq : p.getD 0 0 = (if n.op = 11 ∨ n.op = 12 then 2 else 3)
      · rw [if_pos hq]; simp [TyOk]
      · rw [if_neg hq] at h; simp at h
    by_cases k5 : n.kind = 5
    · simp only [k5] at h ⊢
      simp at h ⊢
      split at h <;> simp at h
      rename_i hh
      rw [if_pos hh]; simp [TyOk]
    by_cases k7 : n.kind = 7
    · simp only [k7] at h ⊢
      simp only [List.getD_eq_getElem?_getD] at *
      simp at h ⊢
      split at h <;> simp at h
      rename_i hh
      rw [if_neg hh]; exact g0
    simp only [k4, k5, k7, if_false] at h ⊢
    have hp2 : n.parts = 2 := by rw [if_pos (by omega)] at p1; omega
    have g1 := hd 1 (by omega)
    split at h
    · simp at h
    · rename_i hh
      rw [if_neg hh]
      unfold TyOk at *
      simp only
      omega
theorem stepN_under {st : List Int} {n : Nod} (b : List Int) (h : (stepN st n).1 = 0) : stepN (b ++ st) n = (0, b ++ (stepN st n).2) := by
  unfold stepN at h ⊢
  by_cases h1 : formB n = false ∨ (st.length : Int) < n.parts
  · rw [if_pos h1] at h; simp at h
  rw [if_neg h1] at h ⊢
  by_cases h2 : matCode n.mat ≠ 0
  · rw [if_pos h2] at h; simp at h
  have hle : ¬ (st.length : Int) < n.parts := fun hh => h1 (.inr hh)
  have hl : (b ++ st).length - n.parts.toNat = b.length + (st.length - n.parts.toNat) := by rw [List.length_append]; omega
  rw [if_neg h2] at h ⊢
  simp only at h
  rw [if_neg (by rw [List.length_append]; intro hh; rcases hh with hh | hh; exact h1 (.inl hh); exact h1 (.inr (by omega))), if_neg h2, hl]
  rw [List.drop_append, List.take_append]
  rw [List.drop_of_length_le (by omega), List.take_of_length_le (l := b) (by omega)]
  simp [h]
theorem runN_under (b : List Int) : ∀ (ns : List Nod) (k : Nat) (st s2 : List Int) (j : Nat), runN' ns k st = .ok s2 → runN' ns j (b ++ st) = .ok (b ++ s2)
  | [], k, st, s2, j, h => by simp [runN'] at h ⊢; exact h
  | n :: r, k, st, s2, j, h => by
    unfold runN' at h ⊢
    by_cases h1 : (stepN st n).1 = 0
    · rw [if_pos h1] at h
      rw [stepN_under b h1, if_pos rfl]
      exact runN_under b r (k + 1) _ s2 (j + 1) h
    · rw [if_neg h1] at h; cases h
theorem runN_append : ∀ (ns ms : List Nod) (k : Nat) (st : List Int), runN' (ns ++ ms) k st = match runN' ns k st with | .error e => .error e | .ok s => runN' ms (k + ns.length) s
  | [], ms, k, st => by simp [runN']
  | n :: r, ms, k, st => by
    rw [List.cons_append, runN', runN']
    by_cases h1 : (stepN st n).1 = 0
    · rw [if_pos h1, if_pos h1, runN_append r ms (k + 1)]
      rw [show k + 1 + r.length = k + (n :: r).length from by simp; omega]
    · rw [if_neg h1, if_neg h1]
theorem runN_ok : ∀ (ns : List Nod) (k : Nat) (st s2 : List Int), (∀ x ∈ st, TyOk x) → runN' ns k st = .ok s2 → ∀ x ∈ s2, TyOk x
  | [], k, st, s2, hs, h => by simp [runN'] at h; subst h; exact hs
  | n :: r, k, st, s2, hs, h => by
    unfold runN' at h
    by_cases h1 : (stepN st n).1 = 0
    · rw [if_pos h1] at h
      exact runN_ok r (k + 1) _ s2 (stepN_ok hs h1) h
    · rw [if_neg h1] at h; cases h
theorem runN_err : ∀ (ns : List Nod) (k : Nat) (st : List Int) (j : Nat) (e : Int), runN' ns k st = .error (j, e) → k ≤ j ∧ j < k + ns.length ∧ e ≠ 0
  | [], k, st, j, e, h => by simp [runN'] at h
  | n :: r, k, st, j, e, h => by
    unfold runN' at h
    by_cases h1 : (stepN st n).1 = 0
    · rw [if_pos h1] at h
      have := runN_err r (k + 1) _ j e h
      simp only [List.length_cons]
      omega
    · rw [if_neg h1] at h
      injection h with h
      injection h with e1 e2
      subst e1 e2
      simp only [List.length_cons]
      exact ⟨by omega, by omega, h1⟩
/-- A tree that may be: the stack is its type alone. -/
theorem checkN_ok {ns : List Nod} {k : Int} {a : Nat} (h : checkN ns = (k, a, 0)) : runN' ns 0 [] = .ok [k] ∧ TyOk k ∧ a = 0 ∧ ns.length ≤ 4096 := by
  unfold checkN at h
  cases hr : runN' ns 0 [] with
  | error p =>
    obtain ⟨j, e⟩ := p
    rw [hr] at h
    simp at h
    have := (runN_err ns 0 [] j e hr).2.2
    exact absurd h.2.2 this
  | ok st =>
    rw [hr] at h
    simp only at h
    split at h
    · simp at h
    · rename_i hh
      have hl : st.length = 1 := by
        rcases Nat.decEq st.length 1 with h1 | h1
        · exact absurd (.inl h1) hh
        · exact h1
      match st, hl with
      | [x], _ =>
        simp at h
        obtain ⟨rfl, rfl⟩ := h
        exact ⟨rfl, runN_ok ns 0 [] [x] (by simp) hr x (by simp), rfl, by omega⟩
theorem checkN_of {ns : List Nod} {k : Int} (h : runN' ns 0 [] = .ok [k]) (hl : ns.length ≤ 4096) : checkN ns = (k, 0, 0) := by
  unfold checkN
  rw [h]
  simp; omega
/-- What is wrong with a node is told by the nodes up to it. -/
theorem checkN_first {ns ms : List Nod} {k : Int} {a : Nat} {e : Int} (h : checkN ns = (k, a, e)) (he : e ≠ 0) (ha : a < ns.length) : checkN (ns ++ ms) = (0, a, e) := by
  unfold checkN at h ⊢
  rw [runN_append]
  cases hr : runN' ns 0 [] with
  | error p =>
    obtain ⟨j, e'⟩ := p
    rw [hr] at h
    simp only [Prod.mk.injEq] at h
    simp [h.2.1, h.2.2]
  | ok st =>
    rw [hr] at h
    simp only at h
    split at h
    · simp at h; omega
    · simp at h; omega
theorem checkN_two {ns ms : List Nod} {k j : Int} {a b : Nat} (h : checkN ns = (k, a, 0)) (h2 : checkN ms = (j, b, 0)) : checkN (ns ++ ms) = (0, ns.length + ms.length, 190) := by
  obtain ⟨r1, _, _, _⟩ := checkN_ok h
  obtain ⟨r2, _, _, _⟩ := checkN_ok h2
  unfold checkN
  rw [runN_append, r1]
  simp only
  rw [show ([k] : List Int) = [k] ++ [] from rfl, runN_under [k] ms 0 [] [j] _ r2]
  simp
theorem checkN_snoc {ns : List Nod} {st : List Int} {n : Nod} (h : runN' ns 0 [] = .ok st) (hl : ns.length + 1 ≤ 4096) :
    checkN (ns ++ [n]) = if (stepN st n).1 = 0 then (if (stepN st n).2.length ≠ 1 then (0, ns.length + 1, 190) else ((stepN st n).2.getD 0 0, 0, 0)) else (0, ns.length, (stepN st n).1) := by
  unfold checkN
  rw [runN_append, h]
  simp only [runN', Nat.zero_add]
  by_cases h1 : (stepN st n).1 = 0
  · rw [if_pos h1, if_pos h1]
    simp only [List.length_append, List.length_cons, List.length_nil]
    by_cases h2 : (stepN st n).2.length ≠ 1
    · rw [if_pos (.inl h2), if_pos h2]
    · rw [if_neg (by intro hh; rcases hh with hh | hh; exact h2 hh; omega), if_neg h2]
  · rw [if_neg h1, if_neg h1]
end Go.Proofs.Ytmhfeeomlpdnkaa
