/- What is read is refused, if at all, because an operation or a function has not what it wants. Plain. -/
import Derived.Test.YtakfnojiaakfpaaGreatDoorPQuery
import Derived.Test.YtakfnojiaakfpaaGreatDoorNodC
import Derived.Test.YtakfnojiaakfpaaGreatDoorNodS
import Derived.Test.YtakfnojiaakfpaaGreatDoorMatK
import Derived.Test.YtakfnojiaakfpaaGreatDoorLexSpec
import Derived.RegionTactic
import Derived.BigQuiet
namespace Go.Proofs.YtakfnojiaakfpaaGreatDoor
section
open Go.RowKit
theorem numF_in (w : ByteArray) : ∀ (l : List ByteArray) (st : Nat), numF st l w = 0 ∨ ((st : Int) ≤ numF st l w ∧ numF st l w < ((st + l.length : Nat) : Int))
  | [], st => by simp [numF]
  | x :: r, st => by
    rw [numF]
    split
    · right; simp only [List.length_cons]; omega
    · have := numF_in w r (st + 1)
      simp only [List.length_cons]
      omega
/-- What holds of a node of each kind, given what holds of tokens. -/
structure Lays (T : Tok → Prop) (N : Nod → Prop) : Prop where
  num : ∀ t, T t → t.kind = 1 → N (numN t.text)
  sel : ∀ ms k w b, matCode ms = 0 → (k = 2 ∧ w = 0 ∨ k = 3 ∧ ∃ t, T t ∧ t.kind = 2 ∧ w = (t.span : Int)) → (b = 0 ∨ ∃ t, T t ∧ t.kind = 2 ∧ b = (t.span : Int)) → N (selN k ms w b)
  call : ∀ f, 1 ≤ f → f ≤ 12 → N (callN f)
  agg : ∀ a g l, 1 ≤ a → a ≤ 5 → (g = 0 ∧ l = [] ∨ g = 1 ∨ g = 2) → l.all nameB = true → l.length ≤ 5000 → N (aggN a g l)
  bin : ∀ op g l c, 1 ≤ op → op ≤ 13 → (g = 0 ∧ l = [] ∨ g = 3 ∨ g = 4) → l.all nameB = true → l.length ≤ 5000 → (c = true → 5 ≤ op ∧ op ≤ 10) → N (binN op g l c)
  neg : N negN
section
variable {T : Tok → Prop} {N : Nod → Prop}
structure AllS (T : Tok → Prop) (N : Nod → Prop) (s : PS) : Prop where
  toks : ∀ t ∈ s.toks, T t
  out : ∀ x ∈ s.out, N x
theorem AllS.on {s : PS} (h : AllS T N s) : AllS T N s.on := ⟨fun t ht => h.toks t (List.mem_of_mem_tail ht), h.out⟩
theorem AllS.hd {s : PS} (h : AllS T N s) {M : Nat} (hg : PGood M s) : T s.hd := by
  apply h.toks
  rw [hg.cons]
  exact List.mem_cons_self
theorem AllS.lay {s : PS} (h : AllS T N s) {x : Nod} (hx : N x) : AllS T N (s.lay x) := ⟨h.toks, fun y hy => by
  simp only [PS.lay, List.mem_append, List.mem_singleton] at hy
  rcases hy with hy | rfl
  · exact h.out y hy
  · exact hx⟩
end
end
section
open Go.RowKit
/-- How many parts a node of a kind has. -/
def partsK (k : Int) : Int := if k = 1 ∨ k = 2 ∨ k = 3 then 0 else if k = 4 ∨ k = 5 ∨ k = 7 then 1 else if k = 6 then 2 else -1
/-- A row of nodes over n parts that lie already: how many parts then lie. -/
def runT : Int → List Nod → Option Int
  | n, [] => some n
  | n, x :: r => if partsK x.kind < 0 ∨ n < partsK x.kind ∨ x.parts ≠ partsK x.kind then none else runT (n - partsK x.kind + 1) r
theorem runT_app : ∀ (a b : List Nod) (n m : Int), runT n a = some m → runT n (a ++ b) = runT m b
  | [], b, n, m, h => by
    simp only [runT] at h
    injection h with h
    rw [h]; rfl
  | x :: a, b, n, m, h => by
    rw [runT] at h
    split at h
    · cases h
    · rename_i hc
      rw [List.cons_append, runT, if_neg hc]
      exact runT_app a b _ m h
/-- A tree: over whatever lies already it lays one part more. -/
def TreeL (l : List Nod) : Prop := ∀ n : Int, 0 ≤ n → runT n l = some (n + 1)
theorem TreeL.one {l : List Nod} {x : Nod} (h : TreeL l) (hk : partsK x.kind = 1) (hp : x.parts = 1) : TreeL (l ++ [x]) := by
  intro n hn
  rw [runT_app _ _ _ _ (h n hn), runT, if_neg (by rw [hk, hp]; omega), hk]
  simp [runT]
theorem TreeL.two {a b : List Nod} {x : Nod} (h : TreeL a) (h2 : TreeL b) (hk : partsK x.kind = 2) (hp : x.parts = 2) : TreeL (a ++ (b ++ [x])) := by
  intro n hn
  rw [runT_app _ _ _ _ (h n hn), runT_app _ _ _ _ (h2 (n + 1) (by omega)), runT, if_neg (by rw [hk, hp]; omega), hk]
  simp [runT]; omega
end
section
open Go.RowKit
def inB (lo hi x : Int) : Bool := decide (lo ≤ x) && decide (x ≤ hi)
def spanB (v least : Int) : Bool := decide (least ≤ v) && decide (v < 2147483648)
def cmpB (op : Int) : Bool := inB 5 10 op
def setB (op : Int) : Bool := inB 11 13 op
def partsN (k : Int) : Int := if k = 1 ∨ k = 2 ∨ k = 3 then 0 else if k = 6 then 2 else if k = 4 ∨ k = 5 ∨ k = 7 then 1 else -1
/-- A node with just those fields that its kind uses. -/
def bareN (n : Nod) : Nod :=
  if n.kind = 1 then ⟨n.kind, 0, n.text, [], 0, 0, 0, [], false, 0⟩
  else if n.kind = 2 then ⟨n.kind, 0, ByteArray.empty, [], 0, n.back, 0, [], false, 0⟩
  else if n.kind = 3 then ⟨n.kind, 0, ByteArray.empty, [], n.width, n.back, 0, [], false, 0⟩
  else if n.kind = 4 then ⟨n.kind, n.op, ByteArray.empty, [], 0, 0, 0, [], false, n.parts⟩
  else if n.kind = 5 then ⟨n.kind, n.op, ByteArray.empty, [], 0, 0, n.grp, [], false, n.parts⟩
  else if n.kind = 6 then ⟨n.kind, n.op, ByteArray.empty, [], 0, 0, n.grp, [], n.cmp, n.parts⟩
  else ⟨n.kind, 0, ByteArray.empty, [], 0, 0, 0, [], false, n.parts⟩
def plainB (a b : Nod) : Bool := decide (a.kind = b.kind) && decide (a.op = b.op) && decide (a.text = b.text) && decide (a.width = b.width) && decide (a.back = b.back) && decide (a.grp = b.grp) && decide (a.cmp = b.cmp) && decide (a.parts = b.parts)
def nodeNames (n : Nod) : Bool := n.names.all nameB && (decide (n.names = []) || !decide (n.grp = 0))
def kindOk (n : Nod) : Bool :=
  if n.kind = 1 then numB n.text.data.toList
  else if n.kind = 2 then spanB n.back 0
  else if n.kind = 3 then spanB n.width 1 && spanB n.back 0
  else if n.kind = 4 then decide (n.parts = 1) && inB 1 12 n.op
  else if n.kind = 5 then decide (n.parts = 1) && inB 1 5 n.op && inB 0 2 n.grp
  else if n.kind = 6 then decide (n.parts = 2) && inB 1 13 n.op && (decide (n.grp = 0) || decide (n.grp = 3) || decide (n.grp = 4)) && (!n.cmp || cmpB n.op)
  else if n.kind = 7 then decide (n.parts = 1)
  else false
def formB (n : Nod) : Bool := plainB n (bareN n) && nodeNames n && (decide (n.mat = []) || decide (n.kind = 2) || decide (n.kind = 3)) && kindOk n
theorem formB_parts {n : Nod} (h : formB n = true) : partsN n.kind = n.parts ∧ 0 ≤ n.parts ∧ 1 ≤ n.kind ∧ n.kind ≤ 7 := by
  simp only [formB, Bool.and_eq_true] at h
  obtain ⟨⟨⟨h1, _⟩, _⟩, h4⟩ := h
  unfold kindOk at h4
  unfold plainB bareN at h1
  unfold partsN
  by_cases k1 : n.kind = 1
  · simp [k1] at h1 ⊢; omega
  by_cases k2 : n.kind = 2
  · simp [k2] at h1 ⊢; omega
  by_cases k3 : n.kind = 3
  · simp [k3] at h1 ⊢; omega
  by_cases k4 : n.kind = 4
  · simp [k4] at h1 h4 ⊢; omega
  by_cases k5 : n.kind = 5
  · simp [k5] at h1 h4 ⊢; omega
  by_cases k6 : n.kind = 6
  · simp [k6] at h1 h4 ⊢; omega
  by_cases k7 : n.kind = 7
  · simp [k7] at h1 h4 ⊢; omega
  simp [k1, k2, k3, k4, k5, k6, k7] at h4
/-- The type of a node over its parts' types; the error. -/
def ofN (n : Nod) (p : List Int) : Int × Int :=
  if n.kind = 1 then (1, 0)
  else if n.kind = 2 then (2, 0)
  else if n.kind = 3 then (3, 0)
  else if n.kind = 4 then (if p.getD 0 0 = (if n.op = 11 ∨ n.op = 12 then 2 else 3) then (2, 0) else (0, 191))
  else if n.kind = 5 then (if p.getD 0 0 = 2 then (2, 0) else (0, 191))
  else if n.kind = 7 then (if p.getD 0 0 = 3 then (0, 191) else (p.getD 0 0, 0))
  else if p.getD 0 0 = 3 ∨ p.getD 1 0 = 3 ∨ (11 ≤ n.op ∨ n.grp ≠ 0) ∧ ¬ (p.getD 0 0 = 2 ∧ p.getD 1 0 = 2) ∨ (p.getD 0 0 = 1 ∧ p.getD 1 0 = 1) ∧ cmpB n.op = true ∧ n.cmp = false then (0, 192)
  else (max (p.getD 0 0) (p.getD 1 0), 0)
/-- A node is gone through: the code, and the stack behind it. -/
def stepN (st : List Int) (n : Nod) : Int × List Int :=
  if formB n = false ∨ (st.length : Int) < n.parts then (190, st)
  else if matCode n.mat ≠ 0 then (193, st)
  else ((ofN n (st.drop (st.length - n.parts.toNat))).2, st.take (st.length - n.parts.toNat) ++ [(ofN n (st.drop (st.length - n.parts.toNat))).1])
def runN' : List Nod → Nat → List Int → Except (Nat × Int) (List Int)
  | [], _, st => .ok st
  | n :: r, k, st => if (stepN st n).1 = 0 then runN' r (k + 1) (stepN st n).2 else .error (k, (stepN st n).1)
def checkN (ns : List Nod) : Int × Nat × Int :=
  match runN' ns 0 [] with
  | .error (k, e) => (0, k, e)
  | .ok st => if st.length ≠ 1 ∨ 4096 < ns.length then (0, ns.length, 190) else (st.getD 0 0, 0, 0)
def TyOk (x : Int) : Prop := 1 ≤ x ∧ x ≤ 3
theorem stepN_ok {st : List Int} {n : Nod} (hs : ∀ x ∈ st, TyOk x) (h : (stepN st n).1 = 0) : ∀ x ∈ (stepN st n).2, TyOk x := by
  unfold stepN at h ⊢
  by_cases h1 : formB n = false ∨ (st.length : Int) < n.parts
  · rw [if_pos h1] at h; simp at h
  rw [if_neg h1] at h ⊢
  by_cases h2 : matCode n.mat ≠ 0
  · rw [if_pos h2] at h; simp at h
  rw [if_neg h2] at h ⊢
  have hf : formB n = true := by cases hh : formB n with
    | false => exact absurd (.inl hh) h1
    | true => rfl
  obtain ⟨p1, p2, p3, p4⟩ := formB_parts hf
  have hle : ¬ (st.length : Int) < n.parts := fun hh => h1 (.inr hh)
  simp only at h ⊢
  have hd : ∀ j, j < n.parts.toNat → TyOk ((st.drop (st.length - n.parts.toNat)).getD j 0) := by
    intro j hj
    rw [List.getD_eq_getElem?_getD, List.getElem?_drop]
    have hlt : st.length - n.parts.toNat + j < st.length := by omega
    rw [List.getElem?_eq_getElem hlt]
    exact hs _ (List.getElem_mem hlt)
  intro x hx
  rcases List.mem_append.1 hx with hx | hx
  · exact hs x (List.mem_of_mem_take hx)
  · simp at hx
    subst hx
    generalize st.drop (st.length - n.parts.toNat) = p at h hd
    unfold ofN at h ⊢
    unfold partsN at p1
    by_cases k1 : n.kind = 1
    · simp [k1, TyOk]
    by_cases k2 : n.kind = 2
    · simp [k2, TyOk]
    by_cases k3 : n.kind = 3
    · simp [k3, TyOk]
    have e1 : ¬ (n.kind = 1 ∨ n.kind = 2 ∨ n.kind = 3) := by omega
    rw [if_neg e1] at p1
    simp only [k1, k2, k3, if_false] at h ⊢
    have hp1 : 1 ≤ n.parts := by
      by_cases k6 : n.kind = 6
      · rw [if_pos k6] at p1; omega
      · rw [if_neg k6, if_pos (by omega)] at p1; omega
    have g0 := hd 0 (by omega)
    by_cases k4 : n.kind = 4
    · simp only [k4, if_true] at h ⊢
      by_cases hq : p.getD 0 0 = (if n.op = 11 ∨ n.op = 12 then 2 else 3)
      · rw [if_pos hq]; simp [TyOk]
      · rw [if_neg hq] at h; simp at h
    by_cases k5 : n.kind = 5
    · simp only [k5] at h ⊢
      simp at h ⊢
      split at h <;> simp at h
      rename_i hh
      rw [if_pos hh]; simp [TyOk]
    by_cases k7 : n.kind = 7
    · simp only [k7] at h ⊢
      simp only [List.getD_eq_getElem?_getD] at *
      simp at h ⊢
      split at h <;> simp at h
      rename_i hh
      rw [if_neg hh]; exact g0
    simp only [k4, k5, k7, if_false] at h ⊢
    have hp2 : n.parts = 2 := by rw [if_pos (by omega)] at p1; omega
    have g1 := hd 1 (by omega)
    split at h
    · simp at h
    · rename_i hh
      rw [if_neg hh]
      unfold TyOk at *
      simp only
      omega
theorem runN_ok : ∀ (ns : List Nod) (k : Nat) (st s2 : List Int), (∀ x ∈ st, TyOk x) → runN' ns k st = .ok s2 → ∀ x ∈ s2, TyOk x
  | [], k, st, s2, hs, h => by simp [runN'] at h; subst h; exact hs
  | n :: r, k, st, s2, hs, h => by
    unfold runN' at h
    by_cases h1 : (stepN st n).1 = 0
    · rw [if_pos h1] at h
      exact runN_ok r (k + 1) _ s2 (stepN_ok hs h1) h
    · rw [if_neg h1] at h; cases h
theorem runN_err : ∀ (ns : List Nod) (k : Nat) (st : List Int) (j : Nat) (e : Int), runN' ns k st = .error (j, e) → k ≤ j ∧ j < k + ns.length ∧ e ≠ 0
  | [], k, st, j, e, h => by simp [runN'] at h
  | n :: r, k, st, j, e, h => by
    unfold runN' at h
    by_cases h1 : (stepN st n).1 = 0
    · rw [if_pos h1] at h
      have := runN_err r (k + 1) _ j e h
      simp only [List.length_cons]
      omega
    · rw [if_neg h1] at h
      injection h with h
      injection h with e1 e2
      subst e1 e2
      simp only [List.length_cons]
      exact ⟨by omega, by omega, h1⟩
/-- A tree that may be: the stack is its type alone. -/
theorem checkN_ok {ns : List Nod} {k : Int} {a : Nat} (h : checkN ns = (k, a, 0)) : runN' ns 0 [] = .ok [k] ∧ TyOk k ∧ a = 0 ∧ ns.length ≤ 4096 := by
  unfold checkN at h
  cases hr : runN' ns 0 [] with
  | error p =>
    obtain ⟨j, e⟩ := p
    rw [hr] at h
    simp at h
    have := (runN_err ns 0 [] j e hr).2.2
    exact absurd h.2.2 this
  | ok st =>
    rw [hr] at h
    simp only at h
    split at h
    · simp at h
    · rename_i hh
      have hl : st.length = 1 := by
        rcases Nat.decEq st.length 1 with h1 | h1
        · exact absurd (.inl h1) hh
        · exact h1
      match st, hl with
      | [x], _ =>
        simp at h
        obtain ⟨rfl, rfl⟩ := h
        exact ⟨rfl, runN_ok ns 0 [] [x] (by simp) hr x (by simp), rfl, by omega⟩
end
section
open Go.RowKit
set_option maxHeartbeats 400000 in
theorem tspan_any (v l : Int) (w : World) : Calls Tryz.prog 101 #[.int .i64 v, .int .i64 l] w fun e w' => e = .returned (.bool (spanB v l)) ∧ w = w' := by
  go_enter Tryz.func101, Tryz.ntmps101
  go_wp2
  all_goals
    go_ret
    refine ⟨ret_bool ?_, rfl⟩
    simp only [spanB]
    simp; try omega
set_option maxHeartbeats 400000 in
theorem tcmpB_any (v : Int) (w : World) : Calls Tryz.prog 102 #[.int .i64 v] w fun e w' => e = .returned (.bool (cmpB v)) ∧ w = w' := by
  go_enter Tryz.func102, Tryz.ntmps102
  go_wp2
  all_goals
    go_ret
    refine ⟨ret_bool ?_, rfl⟩
    simp only [cmpB, inB]
    simp; try omega
set_option maxHeartbeats 400000 in
theorem tsetB_any (v : Int) (w : World) : Calls Tryz.prog 106 #[.int .i64 v] w fun e w' => e = .returned (.bool (setB v)) ∧ w = w' := by
  go_enter Tryz.func106, Tryz.ntmps106
  go_wp2
  all_goals
    go_ret
    refine ⟨ret_bool ?_, rfl⟩
    simp only [setB, inB]
    simp; try omega
theorem plain_no {x y : Nod} (h : ¬ x.kind = y.kind ∨ ¬ x.op = y.op ∨ ¬ x.text.toList = y.text.toList ∨ ¬ x.width = y.width ∨ ¬ x.back = y.back ∨ ¬ x.grp = y.grp ∨ ¬ x.cmp = y.cmp) : plainB x y = false := by
  rw [toList_inj] at h
  rcases h with h | h | h | h | h | h | h <;> simp [plainB, h]
theorem plain_all {x y : Nod} (h0 : x.kind = y.kind) (h1 : x.op = y.op) (h2 : x.text.toList = y.text.toList) (h3 : x.width = y.width) (h4 : x.back = y.back) (h5 : x.grp = y.grp) (h6 : x.cmp = y.cmp) : plainB x y = decide (x.parts = y.parts) := by
  simp [plainB, h0, h1, toList_inj.1 h2, h3, h4, h5, h6]
set_option maxRecDepth 100000 in
set_option maxHeartbeats 4000000 in
theorem tplain_any (x y : Nod) (A1 A2 A3 A4 : Option Addr) (l1 c1 l2 c2 l3 c3 l4 c4 : Nat) (w : World) :
    Calls Tryz.prog 98 #[.agg #[.int .i64 x.kind, .int .i64 x.op, .string x.text, .slice A1 l1 c1, .int .i64 x.width, .int .i64 x.back, .int .i64 x.grp, .slice A2 l2 c2, .bool x.cmp, .int .i64 x.parts], .agg #[.int .i64 y.kind, .int .i64 y.op, .string y.text, .slice A3 l3 c3, .int .i64 y.width, .int .i64 y.back, .int .i64 y.grp, .slice A4 l4 c4, .bool y.cmp, .int .i64 y.parts]] w
      fun e w' => e = .returned (.bool (plainB x y)) ∧ Below w.heap.size w w' := by
  go_enter Tryz.func98, Tryz.ntmps98
  go_wp2
  all_goals
    go_ret
    refine ⟨ret_bool ?_, ((Below.refl _ _).alloc (Nat.le_refl _) _).alloc (by simp) _⟩
    first
    | (rw [plain_all ‹_› ‹_› ‹_› ‹_› ‹_› ‹_› ‹_›]; rw [Bool.eq_iff_iff]; simp; done)
    | (rw [plain_no (by first | exact .inl ‹_› | exact .inr (.inl ‹_›) | exact .inr (.inr (.inl ‹_›)) | exact .inr (.inr (.inr (.inl ‹_›))) | exact .inr (.inr (.inr (.inr (.inl ‹_›)))) | exact .inr (.inr (.inr (.inr (.inr (.inl ‹_›))))) | exact .inr (.inr (.inr (.inr (.inr (.inr ‹_›))))))])
theorem nodeNames_bad {x : Nod} {k : Nat} {s : ByteArray} (hk : x.names[k]? = some s) (h : nameB s = false) : nodeNames x = false := by
  have : x.names.all nameB = false := by
    rw [List.all_eq_false]
    exact ⟨s, List.mem_of_getElem? hk, by simp [h]⟩
  simp [nodeNames, this]
theorem nodeNames_all {x : Nod} (h : ∀ j s, j < x.names.length → x.names[j]? = some s → nameB s = true) : nodeNames x = (decide (x.names = []) || !decide (x.grp = 0)) := by
  have : x.names.all nameB = true := by
    rw [List.all_eq_true]
    intro s hs
    obtain ⟨j, hj, rfl⟩ := List.getElem_of_mem hs
    exact h j _ hj (List.getElem?_eq_getElem hj)
  simp [nodeNames, this]
theorem names_step {l : List ByteArray} {k : Nat} {s : ByteArray} (h : Hid (∀ j x, j < k → l[j]? = some x → nameB x = true)) (hk : l[k]? = some s) (hm : nameB s = true) : Hid (∀ j x, j < k + 1 → l[j]? = some x → nameB x = true) := by
  intro j x hj hx
  by_cases e : j = k
  · subst e; rw [hk] at hx; injection hx with hx; subst hx; exact hm
  · exact h.out j x (by omega) hx
set_option maxRecDepth 100000 in
set_option maxHeartbeats 4000000 in
theorem tnames_any (x : Nod) (Am An : Option Addr) (cm cn B : Nat) (w : World) (hr : Rd w B 1 An (textsC x.names)) (hB : B ≤ w.heap.size) (hv : ∀ s ∈ x.names, s.size ≤ maxLen) (hm : x.names.length ≤ maxLen) :
    Calls Tryz.prog 100 #[.agg #[.int .i64 x.kind, .int .i64 x.op, .string x.text, .slice Am x.mat.length cm, .int .i64 x.width, .int .i64 x.back, .int .i64 x.grp, .slice An x.names.length cn, .bool x.cmp, .int .i64 x.parts]] w fun e w' => e = .returned (.bool (nodeNames x)) ∧ Below w.heap.size w w' := by
  unfold maxLen at hm
  have HV := Lib.hid hv
  clear hv
  go_enter Tryz.func100, Tryz.ntmps100
  go_wp2
  go_loopw [8] (fun i wr => ∃ k : Nat, k ≤ x.names.length ∧ i = .int .i64 k ∧ Hid (∀ j s, j < k → x.names[j]? = some s → nameB s = true) ∧ Below w.heap.size w wr ∧ wr.cell? ⟨w.heap.size, 7, none⟩ = some (.slice An x.names.length cn) ∧ wr.cell? ⟨w.heap.size, 6, none⟩ = some (.int .i64 x.grp)) (fun i _ => x.names.length - (intOf i).toNat)
  case atStart => exact ⟨0, by omega, rfl, fun j s h => by omega, (Below.refl _ _).alloc (Nat.le_refl _) _, (Blk.new w 41 (nodC x Am cm An cn)).cell rfl, (Blk.new w 41 (nodC x Am cm An cn)).cell rfl⟩
  case round =>
    obtain ⟨k, hk, rfl, HA, hb, q7, q6⟩ := hrel
    have hk0 : (0 : Int) ≤ k := by omega
    by_cases hlt : k < x.names.length
    · have hltI : (k : Int) < x.names.length := by omega
      obtain ⟨s, hs⟩ := get_lt (Lib.hid (rfl : x.names.length = x.names.length)) hlt
      obtain ⟨b, o, hA, hbl, p0⟩ := (hr.below (hb.mono hB)).at1 (textsC_at hs)
      subst hA
      have HS := Lib.hid hs
      have HN := fun W => Lib.hid (lname_any s W (HV.out s (List.mem_of_getElem? hs)))
      clear hs
      cases h1 : nameB s with
      | false =>
        rw [h1] at HN
        have HT := Lib.hid (nodeNames_bad HS.out h1)
        clear h1
        go_wp2_with (go_at_call 104; refine ((HN _).out).mono ?_; rintro e w' ⟨rfl, rfl⟩)
        go_ret
        exact ⟨ret_bool HT.out.symm, hb⟩
      | true =>
        rw [h1] at HN
        have HA2 := names_step HA HS.out h1
        clear h1 HA
        go_wp2_with (go_at_call 104; refine ((HN _).out).mono ?_; rintro e w' ⟨rfl, rfl⟩)
        go_roundw
        case rel => exact ⟨k + 1, by omega, by go_num, HA2, hb, q7, q6⟩
        case measure => simp [intOf]; omega
    · have hltI : ¬ (k : Int) < x.names.length := by omega
      have HT := Lib.hid (nodeNames_all (fun j s hj hs => HA.out j s (by omega) hs))
      go_wp2
      all_goals
        go_ret
        refine ⟨ret_bool ?_, hb⟩
        rw [HT.out]
        first
        | (have he : x.names = [] := by assumption
           simp [he]; done)
        | (have he : ¬ x.names = [] := by assumption
           rw [Bool.eq_iff_iff]; simp [he])
set_option maxRecDepth 100000 in
set_option maxHeartbeats 4000000 in
theorem tbare_any (x : Nod) (Am An : Option Addr) (cm cn : Nat) (w : World) :
    Calls Tryz.prog 99 #[.agg #[.int .i64 x.kind, .int .i64 x.op, .string x.text, .slice Am x.mat.length cm, .int .i64 x.width, .int .i64 x.back, .int .i64 x.grp, .slice An x.names.length cn, .bool x.cmp, .int .i64 x.parts]] w fun e w' => e = .returned (.agg #[.int .i64 (bareN x).kind, .int .i64 (bareN x).op, .string (bareN x).text, .slice none 0 0, .int .i64 (bareN x).width, .int .i64 (bareN x).back, .int .i64 (bareN x).grp, .slice none 0 0, .bool (bareN x).cmp, .int .i64 (bareN x).parts]) ∧ Below w.heap.size w w' := by
  by_cases k1 : x.kind = 1
  · have HT : Hid (bareN x = ⟨x.kind, 0, x.text, [], 0, 0, 0, [], false, 0⟩) := by show _ = _; unfold bareN; rw [if_pos k1]
    have e1 : (x.kind == 1) = true := by rw [beq_iff_eq]; exact k1
    clear k1
    go_enter Tryz.func99, Tryz.ntmps99
    go_wp2
    all_goals exact bodyPost_ret (v := .agg #[.int .i64 x.kind, .int .i64 0, .string x.text, .slice none 0 0, .int .i64 0, .int .i64 0, .int .i64 0, .slice none 0 0, .bool false, .int .i64 0]) (by simp [results, Tryz.results99, go_sem]; try rfl) rfl ⟨by rw [HT.out], by repeat (first | exact Below.refl _ _ | refine Below.alloc ?_ (by simp; try omega) _ | refine Below.setCell ?_ (by simp; try omega) _ | refine Below.drew ?_)⟩
  by_cases k2 : x.kind = 2
  · have HT : Hid (bareN x = ⟨x.kind, 0, ByteArray.empty, [], 0, x.back, 0, [], false, 0⟩) := by show _ = _; unfold bareN; rw [if_neg k1, if_pos k2]
    have e1 : (x.kind == 1) = false := by rw [beq_eq_false_iff_ne]; exact k1
    have e2 : (x.kind == 2) = true := by rw [beq_iff_eq]; exact k2
    clear k1
    clear k2
    go_enter Tryz.func99, Tryz.ntmps99
    go_wp2
    all_goals exact bodyPost_ret (v := .agg #[.int .i64 x.kind, .int .i64 0, .string ByteArray.empty, .slice none 0 0, .int .i64 0, .int .i64 x.back, .int .i64 0, .slice none 0 0, .bool false, .int .i64 0]) (by simp [results, Tryz.results99, go_sem]; try rfl) rfl ⟨by rw [HT.out], by repeat (first | exact Below.refl _ _ | refine Below.alloc ?_ (by simp; try omega) _ | refine Below.setCell ?_ (by simp; try omega) _ | refine Below.drew ?_)⟩
  by_cases k3 : x.kind = 3
  · have HT : Hid (bareN x = ⟨x.kind, 0, ByteArray.empty, [], x.width, x.back, 0, [], false, 0⟩) := by show _ = _; unfold bareN; rw [if_neg k1, if_neg k2, if_pos k3]
    have e1 : (x.kind == 1) = false := by rw [beq_eq_false_iff_ne]; exact k1
    have e2 : (x.kind == 2) = false := by rw [beq_eq_false_iff_ne]; exact k2
    have e3 : (x.kind == 3) = true := by rw [beq_iff_eq]; exact k3
    clear k1
    clear k2
    clear k3
    go_enter Tryz.func99, Tryz.ntmps99
    go_wp2
    go_region
    all_goals go_wp2
    all_goals exact bodyPost_ret (v := .agg #[.int .i64 x.kind, .int .i64 0, .string ByteArray.empty, .slice none 0 0, .int .i64 x.width, .int .i64 x.back, .int .i64 0, .slice none 0 0, .bool false, .int .i64 0]) (by simp [results, Tryz.results99, go_sem]; try rfl) rfl ⟨by rw [HT.out], by repeat (first | exact Below.refl _ _ | refine Below.alloc ?_ (by simp; try omega) _ | refine Below.setCell ?_ (by simp; try omega) _ | refine Below.drew ?_)⟩
  by_cases k4 : x.kind = 4
  · have HT : Hid (bareN x = ⟨x.kind, x.op, ByteArray.empty, [], 0, 0, 0, [], false, x.parts⟩) := by show _ = _; unfold bareN; rw [if_neg k1, if_neg k2, if_neg k3, if_pos k4]
    have e1 : (x.kind == 1) = false := by rw [beq_eq_false_iff_ne]; exact k1
    have e2 : (x.kind == 2) = false := by rw [beq_eq_false_iff_ne]; exact k2
    have e3 : (x.kind == 3) = false := by rw [beq_eq_false_iff_ne]; exact k3
    have e4 : (x.kind == 4) = true := by rw [beq_iff_eq]; exact k4
    clear k1
    clear k2
    clear k3
    clear k4
    go_enter Tryz.func99, Tryz.ntmps99
    go_wp2
    go_region
    all_goals go_wp2
    all_goals exact bodyPost_ret (v := .agg #[.int .i64 x.kind, .int .i64 x.op, .string ByteArray.empty, .slice none 0 0, .int .i64 0, .int .i64 0, .int .i64 0, .slice none 0 0, .bool false, .int .i64 x.parts]) (by simp [results, Tryz.results99, go_sem]; try rfl) rfl ⟨by rw [HT.out], by repeat (first | exact Below.refl _ _ | refine Below.alloc ?_ (by simp; try omega) _ | refine Below.setCell ?_ (by simp; try omega) _ | refine Below.drew ?_)⟩
  by_cases k5 : x.kind = 5
  · have HT : Hid (bareN x = ⟨x.kind, x.op, ByteArray.empty, [], 0, 0, x.grp, [], false, x.parts⟩) := by show _ = _; unfold bareN; rw [if_neg k1, if_neg k2, if_neg k3, if_neg k4, if_pos k5]
    have e1 : (x.kind == 1) = false := by rw [beq_eq_false_iff_ne]; exact k1
    have e2 : (x.kind == 2) = false := by rw [beq_eq_false_iff_ne]; exact k2
    have e3 : (x.kind == 3) = false := by rw [beq_eq_false_iff_ne]; exact k3
    have e4 : (x.kind == 4) = false := by rw [beq_eq_false_iff_ne]; exact k4
    have e5 : (x.kind == 5) = true := by rw [beq_iff_eq]; exact k5
    clear k1
    clear k2
    clear k3
    clear k4
    clear k5
    go_enter Tryz.func99, Tryz.ntmps99
    go_wp2
    go_region
    all_goals go_wp2
    all_goals exact bodyPost_ret (v := .agg #[.int .i64 x.kind, .int .i64 x.op, .string ByteArray.empty, .slice none 0 0, .int .i64 0, .int .i64 0, .int .i64 x.grp, .slice none 0 0, .bool false, .int .i64 x.parts]) (by simp [results, Tryz.results99, go_sem]; try rfl) rfl ⟨by rw [HT.out], by repeat (first | exact Below.refl _ _ | refine Below.alloc ?_ (by simp; try omega) _ | refine Below.setCell ?_ (by simp; try omega) _ | refine Below.drew ?_)⟩
  by_cases k6 : x.kind = 6
  · have HT : Hid (bareN x = ⟨x.kind, x.op, ByteArray.empty, [], 0, 0, x.grp, [], x.cmp, x.parts⟩) := by show _ = _; unfold bareN; rw [if_neg k1, if_neg k2, if_neg k3, if_neg k4, if_neg k5, if_pos k6]
    have e1 : (x.kind == 1) = false := by rw [beq_eq_false_iff_ne]; exact k1
    have e2 : (x.kind == 2) = false := by rw [beq_eq_false_iff_ne]; exact k2
    have e3 : (x.kind == 3) = false := by rw [beq_eq_false_iff_ne]; exact k3
    have e4 : (x.kind == 4) = false := by rw [beq_eq_false_iff_ne]; exact k4
    have e5 : (x.kind == 5) = false := by rw [beq_eq_false_iff_ne]; exact k5
    have e6 : (x.kind == 6) = true := by rw [beq_iff_eq]; exact k6
    clear k1
    clear k2
    clear k3
    clear k4
    clear k5
    clear k6
    go_enter Tryz.func99, Tryz.ntmps99
    go_wp2
    go_region
    all_goals go_wp2
    all_goals exact bodyPost_ret (v := .agg #[.int .i64 x.kind, .int .i64 x.op, .string ByteArray.empty, .slice none 0 0, .int .i64 0, .int .i64 0, .int .i64 x.grp, .slice none 0 0, .bool x.cmp, .int .i64 x.parts]) (by simp [results, Tryz.results99, go_sem]; try rfl) rfl ⟨by rw [HT.out], by repeat (first | exact Below.refl _ _ | refine Below.alloc ?_ (by simp; try omega) _ | refine Below.setCell ?_ (by simp; try omega) _ | refine Below.drew ?_)⟩
  have HT : Hid (bareN x = ⟨x.kind, 0, ByteArray.empty, [], 0, 0, 0, [], false, x.parts⟩) := by show _ = _; unfold bareN; rw [if_neg k1, if_neg k2, if_neg k3, if_neg k4, if_neg k5, if_neg k6]
  have e1 : (x.kind == 1) = false := by rw [beq_eq_false_iff_ne]; exact k1
  have e2 : (x.kind == 2) = false := by rw [beq_eq_false_iff_ne]; exact k2
  have e3 : (x.kind == 3) = false := by rw [beq_eq_false_iff_ne]; exact k3
  have e4 : (x.kind == 4) = false := by rw [beq_eq_false_iff_ne]; exact k4
  have e5 : (x.kind == 5) = false := by rw [beq_eq_false_iff_ne]; exact k5
  have e6 : (x.kind == 6) = false := by rw [beq_eq_false_iff_ne]; exact k6
  clear k1
  clear k2
  clear k3
  clear k4
  clear k5
  clear k6
  go_enter Tryz.func99, Tryz.ntmps99
  go_wp2
  all_goals exact bodyPost_ret (v := .agg #[.int .i64 x.kind, .int .i64 0, .string ByteArray.empty, .slice none 0 0, .int .i64 0, .int .i64 0, .int .i64 0, .slice none 0 0, .bool false, .int .i64 x.parts]) (by simp [results, Tryz.results99, go_sem]; try rfl) rfl ⟨by rw [HT.out], by repeat (first | exact Below.refl _ _ | refine Below.alloc ?_ (by simp; try omega) _ | refine Below.setCell ?_ (by simp; try omega) _ | refine Below.drew ?_)⟩
end
section
open Go.RowKit
/-- The worlds behind w: all that was there reads as before. -/
def Later (w : World) := {w' : World // Below w.heap.size w w'}
instance laterInh (w : World) : Nonempty (Later w) := ⟨⟨w, Below.refl _ _⟩⟩
def later (w : World) (x : Later w) : World := x.1
theorem wp_region_later {P : Program} {id : Nat} {Q : Exit → Act → World → Prop} {a : Act} {w : World} {l : List Oper} (hm : P.follows .mixedOrders = true) (hB : Region.lexB .any l.toArray = true)
    (h : wpQuiet P l.toArray (fun w' => ∃ x, w' = later w x) (fun a' => ∀ w', (∃ x, w' = later w x) → Q .normal a' w') l a) : (Code.region id l.toArray true).wp P Q a w :=
  wp_region_quiet (C := fun w' => ∃ x, w' = later w x) hm hB ⟨⟨_, (Below.refl w.heap.size w).drew⟩, rfl⟩ (by simpa using h)
section
variable {w : World}
theorem later_below (x : Later w) : Below w.heap.size w (later w x) := x.2
theorem later_blk {T : Nat} {e : TypeId} {cs : List Value} (h : Blk w T e cs) (x : Later w) : Blk (later w x) T e cs := h.below x.2 h.lt
theorem later_cell {T : Nat} {e : TypeId} {cs : List Value} (h : Blk w T e cs) {j : Nat} {v : Value} (hv : cs[j]? = some v) (x : Later w) : (later w x).cell? ⟨T, j, none⟩ = some v := (later_blk h x).cell hv
theorem later_at {b o : Nat} {v : Value} (hb : b < w.heap.size) (h : w.cell? ⟨b, o, none⟩ = some v) (x : Later w) : (later w x).cell? ⟨b, o, none⟩ = some v := (x.2.cell (p := ⟨b, o, none⟩) hb).trans h
theorem later_rd {B sz : Nat} {A : Option Addr} {xs : List (List Value)} (h : Rd w B sz A xs) (hB : B ≤ w.heap.size) (x : Later w) : Rd (later w x) B sz A xs := h.below (x.2.mono hB)
theorem later_size (x : Later w) : w.heap.size ≤ (later w x).heap.size := x.2.size
/-- A call that only makes memory. -/
theorem later_call {P : Program} {f : FuncId} {args : Array Value} {v : Value} {x : Later w}
    (h : Calls P f args (later w x) fun e w' => e = .returned v ∧ Below (later w x).heap.size (later w x) w') :
    Calls P f args (later w x) fun e w'' => e = .returned v ∧ ∃ y, w'' = later w y :=
  h.mono fun _ w' ⟨he, hb⟩ => ⟨he, ⟨w', x.2.trans (hb.mono x.2.size)⟩, rfl⟩
/-- .. that only reads. -/
theorem later_same {P : Program} {f : FuncId} {args : Array Value} {v : Value} {x : Later w}
    (h : Calls P f args (later w x) fun e w' => e = .returned v ∧ later w x = w') :
    Calls P f args (later w x) fun e w'' => e = .returned v ∧ ∃ y, w'' = later w y :=
  h.mono fun _ _ ⟨he, hb⟩ => ⟨he, x, hb.symm⟩
end
end
section
open Go.RowKit
def okNodT (x : Nod) : Prop := (∀ s ∈ x.names, s.size ≤ maxLen) ∧ x.names.length ≤ maxLen ∧ x.mat.length ≤ maxLen ∧ (∀ m ∈ x.mat, m.name.size ≤ maxLen) ∧ x.text.size ≤ 140737488355328
theorem formB_eq {x : Nod} (h1 : plainB x (bareN x) = true) (h2 : nodeNames x = true) (h3 : x.mat = [] ∨ x.kind = 2 ∨ x.kind = 3) : formB x = kindOk x := by
  rcases h3 with h | h | h <;> simp [formB, h1, h2, h]
theorem kk {a b : Int} (h : (a == b) = true) : a = b := by simpa using h
theorem kn {a b : Int} (h : (a == b) = false) : ¬ a = b := by simpa using h
theorem kind3 {a : Int} (h : ¬ a = 2) (h2 : (a != 2) = false ∨ (a != 3) = false) : a = 3 := by
  rcases h2 with h2 | h2
  · exact absurd (by simpa using h2) h
  · simpa using h2
theorem formB_np {x : Nod} (h : ¬ plainB x (bareN x) = true) : formB x = false := by simp [formB, h]
theorem formB_nn {x : Nod} (h : ¬ nodeNames x = true) : formB x = false := by simp [formB, h]
theorem formB_nk {x : Nod} (h1 : 0 < x.mat.length) (h2 : ¬ x.kind = 2) (h3 : (x.kind != 2) = true ∧ (x.kind != 3) = true) : formB x = false := by
  have h4 : ¬ x.mat = [] := by intro e; rw [e] at h1; simp at h1
  have h5 : ¬ x.kind = 3 := by simpa using h3.2
  simp [formB, h4, h2, h5]
theorem kindOk_1 {x : Nod} (h : x.kind = 1) : kindOk x = numB x.text.data.toList := by rw [kindOk]; simp [h]
theorem kindOk_2 {x : Nod} (h : x.kind = 2) : kindOk x = spanB x.back 0 := by rw [kindOk]; simp [h]
theorem kindOk_3 {x : Nod} (h : x.kind = 3) : kindOk x = (spanB x.width 1 && spanB x.back 0) := by rw [kindOk]; simp [h]
theorem kindOk_4 {x : Nod} (h : x.kind = 4) : kindOk x = (decide (x.parts = 1) && inB 1 12 x.op) := by rw [kindOk]; simp [h]
theorem kindOk_5 {x : Nod} (h : x.kind = 5) : kindOk x = (decide (x.parts = 1) && inB 1 5 x.op && inB 0 2 x.grp) := by rw [kindOk]; simp [h]
theorem kindOk_6 {x : Nod} (h : x.kind = 6) : kindOk x = (decide (x.parts = 2) && inB 1 13 x.op && (decide (x.grp = 0) || decide (x.grp = 3) || decide (x.grp = 4)) && (!x.cmp || cmpB x.op)) := by rw [kindOk]; simp [h]
theorem kindOk_7 {x : Nod} (h : x.kind = 7) : kindOk x = decide (x.parts = 1) := by rw [kindOk]; simp [h]
theorem kindOk_0 {x : Nod} (h1 : ¬ x.kind = 1) (h2 : ¬ x.kind = 2) (h3 : ¬ x.kind = 3) (h4 : ¬ x.kind = 4) (h5 : ¬ x.kind = 5) (h6 : ¬ x.kind = 6) (h7 : ¬ x.kind = 7) : kindOk x = false := by rw [kindOk]; simp [h1, h2, h3, h4, h5, h6, h7]
set_option maxRecDepth 100000 in
set_option maxHeartbeats 8000000 in
theorem tform_any (x : Nod) (Am An : Option Addr) (cm cn B : Nat) (w : World) (hr : Rd w B 1 An (textsC x.names)) (hB : B ≤ w.heap.size) (hok : okNodT x) :
    Calls Tryz.prog 64 #[.agg #[.int .i64 x.kind, .int .i64 x.op, .string x.text, .slice Am x.mat.length cm, .int .i64 x.width, .int .i64 x.back, .int .i64 x.grp, .slice An x.names.length cn, .bool x.cmp, .int .i64 x.parts]] w fun e w' => e = .returned (.bool (formB x)) ∧ Below w.heap.size w w' := by
  obtain ⟨o1, o2, o3, o4, o5⟩ := hok
  unfold maxLen at o2 o3
  go_enter Tryz.func64, Tryz.ntmps64
  go_wp2
  generalize hW : World.alloc _ _ = W0
  have hX : Blk W0 w.heap.size 41 (nodC x Am cm An cn) := by rw [← hW]; exact Blk.new w _ _
  have hb0 : Below w.heap.size w W0 := by rw [← hW]; exact (Below.refl _ _).alloc (Nat.le_refl _) _
  clear hW
  have hsz0 := hb0.size
  have c0 := later_cell hX (j := 0) rfl
  have c1 := later_cell hX (j := 1) rfl
  have c2 := later_cell hX (j := 2) rfl
  have c3 := later_cell hX (j := 3) rfl
  have c4 := later_cell hX (j := 4) rfl
  have c5 := later_cell hX (j := 5) rfl
  have c6 := later_cell hX (j := 6) rfl
  have c7 := later_cell hX (j := 7) rfl
  have c8 := later_cell hX (j := 8) rfl
  have c9 := later_cell hX (j := 9) rfl
  have HC1 := fun W => Lib.hid (tbare_any x Am An cm cn W)
  have HC2 := fun W => Lib.hid (tplain_any x (bareN x) Am An none none x.mat.length cm x.names.length cn 0 0 0 0 W)
  have HC3 := fun (z : Later W0) => Lib.hid (tnames_any x Am An cm cn B (later W0 z) (later_rd (hr.below (hb0.mono hB)) (Nat.le_trans hB hsz0) z) (Nat.le_trans hB (Nat.le_trans hsz0 (later_size z))) o1 o2)
  refine wp_region_later (by kernel_rfl) (by kernel_rfl) ?_
  repeat (any_goals (first | go_big_quiet_step ((first | (go_at_call 99; exact later_call (HC1 _).out) | (go_at_call 98; exact later_call (HC2 _).out) | (go_at_call 100; exact later_call (HC3 _).out))) | quiet_step ((first | (go_at_call 99; exact later_call (HC1 _).out) | (go_at_call 98; exact later_call (HC2 _).out) | (go_at_call 100; exact later_call (HC3 _).out))) | (refine wpQuiet_step (fun K hK => ?_); go_simp; split <;> (refine hK _ ?_; clear hK K))))
  all_goals have HN := fun W => Lib.hid (number_any x.text W o5)
  all_goals have HS0 := fun W => Lib.hid (tspan_any x.back 0 W)
  all_goals have HS1 := fun W => Lib.hid (tspan_any x.width 1 W)
  all_goals have HCm := fun W => Lib.hid (tcmpB_any x.op W)
  all_goals clear HC1 HC2 HC3
  all_goals
    refine wpQuiet_nil ?_
    intro _ hw'
    obtain ⟨z, rfl⟩ := hw'
    have hW := hb0.trans ((later_below z).mono hsz0)
    go_wp2_with (first | (go_at_call 60; refine ((HN _).out).mono ?_; rintro e w' ⟨rfl, rfl⟩) | (go_at_call 102; refine ((HCm _).out).mono ?_; rintro e w' ⟨rfl, rfl⟩) | (go_at_call 101; first | (with_reducible refine ((HS0 _).out).mono ?_; rintro e w' ⟨rfl, rfl⟩) | (with_reducible refine ((HS1 _).out).mono ?_; rintro e w' ⟨rfl, rfl⟩)))
  all_goals
    go_ret
    refine ⟨ret_bool ?_, hW⟩
    clear HN HS0 HS1 HCm c0 c1 c2 c3 c4 c5 c6 c7 c8 c9 hX hb0 hr hW o1 o4
    first
    | exact (formB_np ‹_›).symm
    | exact (formB_nn ‹_›).symm
    | exact (formB_nk ‹0 < x.mat.length› ‹¬ x.kind = 2› ‹(x.kind != 2) = true ∧ (x.kind != 3) = true›).symm
    | (rw [formB_eq ‹_› ‹_› (by first | exact .inl (List.eq_nil_of_length_eq_zero (by omega)) | exact .inr (.inl ‹_›) | exact .inr (.inr (kind3 ‹_› ‹_›)))]
       first
       | rw [kindOk_1 (kk ‹(x.kind == 1) = true›)]
       | rw [kindOk_2 (kk ‹(x.kind == 2) = true›)]
       | rw [kindOk_3 (kk ‹(x.kind == 3) = true›)]
       | rw [kindOk_4 (kk ‹(x.kind == 4) = true›)]
       | rw [kindOk_5 (kk ‹(x.kind == 5) = true›)]
       | rw [kindOk_6 (kk ‹(x.kind == 6) = true›)]
       | rw [kindOk_7 (kk ‹(x.kind == 7) = true›)]
       | rw [kindOk_2 ‹x.kind = 2›]
       | rw [kindOk_0 (kn ‹(x.kind == 1) = false›) (kn ‹(x.kind == 2) = false›) (kn ‹(x.kind == 3) = false›) (kn ‹(x.kind == 4) = false›) (kn ‹(x.kind == 5) = false›) (kn ‹(x.kind == 6) = false›) (kn ‹(x.kind == 7) = false›)]
       all_goals first
       | rfl
       | (simp [‹spanB x.width 1 = true›]; done)
       | (simp [‹¬ spanB x.width 1 = true›]; done)
       | (have e1 : (decide (x.parts = 2) && inB 1 13 x.op && (decide (x.grp = 0) || decide (x.grp = 3) || decide (x.grp = 4))) = true := by (simp [inB]; omega)
          rw [e1]
          first
          | (rw [‹x.cmp = true›]; simp; done)
          | (simp [‹¬ x.cmp = true›]; done))
       | (have e1 : (decide (x.parts = 2) && inB 1 13 x.op && (decide (x.grp = 0) || decide (x.grp = 3) || decide (x.grp = 4))) = false := by (rw [Bool.eq_false_iff]; simp [inB]; omega)
          rw [e1]; try rfl)
       | (rw [Bool.eq_iff_iff]; try (simp [inB]; try omega)))
end
end Go.Proofs.YtakfnojiaakfpaaGreatDoor
