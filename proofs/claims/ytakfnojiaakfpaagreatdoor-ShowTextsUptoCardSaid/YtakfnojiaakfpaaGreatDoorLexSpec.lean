/- What a query's text is cut into: plain. -/
import Derived.WalkKit
import Derived.WalkSpells
import Derived.WalkLawsBesides
import Derived.Lib.Hide
import Derived.Lib.Strings
import Derived.Deep.Draws
import Derived.Maps.AppendAt
import Derived.Deep.AppendLies
import Derived.Laws.OwnMore
import Derived.BigQuiet
import Derived.Deep.QuietTactic
import Derived.Lib.Bytealg
import Derived.Test.YtakfnojiaakfpaaGreatDoorProg
import Derived.Laws.Externs
namespace Go.Proofs.YtakfnojiaakfpaaGreatDoor
section
/-! ## Mem -/
open Go.RowKit

theorem ret_bool {a b : Bool} (h : a = b) : Ending.returned (.bool a) = .returned (.bool b) := by rw [h]
theorem ret_int {k : IntKind} {a b : Int} (h : a = b) : Ending.returned (.int k a) = .returned (.int k b) := by rw [h]
theorem isEmpty_no {s : ByteArray} (h : 1 ≤ s.size) : s.toList.isEmpty = false := by
  rw [Lib.toList_data]
  cases hs : s.data.toList with
  | nil => rw [Lib.size_eq, hs] at h; simp at h
  | cons => rfl
theorem isEmpty_yes {s : ByteArray} (h : ¬ 1 ≤ s.size) : s.toList.isEmpty = true := by
  rw [Lib.toList_data]
  cases hs : s.data.toList with
  | nil => rfl
  | cons => rw [Lib.size_eq, hs] at h; simp at h
theorem toList_inj {a b : ByteArray} : a.toList = b.toList ↔ a = b :=
  ⟨fun h => WideShapes.bytes_inj (by rwa [Lib.toList_data, Lib.toList_data] at h), fun h => by rw [h]⟩
theorem beq_toList {a b : ByteArray} : (a.toList == b.toList) = decide (a = b) := by
  rw [Bool.eq_iff_iff]; simp [toList_inj]
theorem below_drewN {B : Nat} {a w : World} (h : Below B a w) (n : Nat) : Below B a (w.drewN n) := ⟨h.os, h.tape, h.output, h.size, h.block⟩
theorem below_le {B : Nat} {a w : World} (h : Below B a w) : a.heap.size ≤ w.heap.size := h.size

/-- A quiet call behind draws. -/
theorem quiet_add {P : Program} {f : FuncId} {args : Array Value} {w : World} {a n : Nat} {v : Value}
    (h : Calls P f args (w.drewN (a + n)) fun e w' => e = .returned v ∧ ∃ m, w' = (w.drewN (a + n)).drewN m) :
    Calls P f args (w.drewN (a + n)) fun e w'' => e = .returned v ∧ ∃ m, w'' = w.drewN (a + m) :=
  h.mono fun _ _ ⟨he, m, hm⟩ => ⟨he, n + m, by rw [hm, World.drewN_drewN, Nat.add_assoc]⟩
theorem quiet_same {P : Program} {f : FuncId} {args : Array Value} {w : World} {a n : Nat} {v : Value}
    (h : Calls P f args (w.drewN (a + n)) fun e w' => e = .returned v ∧ w.drewN (a + n) = w') :
    Calls P f args (w.drewN (a + n)) fun e w'' => e = .returned v ∧ ∃ m, w'' = w.drewN (a + m) :=
  h.mono fun _ _ ⟨he, hm⟩ => ⟨he, n, hm.symm⟩
theorem quiet_same1 {P : Program} {f : FuncId} {args : Array Value} {w : World} {n : Nat} {v : Value}
    (h : Calls P f args (w.drewN n) fun e w' => e = .returned v ∧ w.drewN n = w') :
    Calls P f args (w.drewN n) fun e w'' => e = .returned v ∧ ∃ m, w'' = w.drewN m :=
  h.mono fun _ _ ⟨he, hm⟩ => ⟨he, n, hm.symm⟩

/-- Read at A: the elements xs, each of sz cells, in a block below B. -/
def Rd (w : World) (B sz : Nat) (A : Option Addr) (xs : List (List Value)) : Prop :=
  (∀ x ∈ xs, x.length = sz) ∧ (xs ≠ [] → ∃ b o, A = some ⟨b, o, none⟩ ∧ b < B ∧ ∀ k x j v, xs[k]? = some x → x[j]? = some v → w.cell? ⟨b, o + k * sz + j, none⟩ = some v)

section
variable {w w' : World} {B B' sz n : Nat} {A : Option Addr} {xs : List (List Value)}
theorem Rd.nil_ : Rd w B sz A [] := ⟨by simp, fun h => absurd rfl h⟩
theorem Rd.keep (h : Rd w B sz A xs) (hk : ∀ b o, b < B → w'.cell? ⟨b, o, none⟩ = w.cell? ⟨b, o, none⟩) : Rd w' B sz A xs :=
  ⟨h.1, fun hn => by
    obtain ⟨b, o, e, hb, hc⟩ := h.2 hn
    exact ⟨b, o, e, hb, fun k x j v hx hv => (hk _ _ hb).trans (hc k x j v hx hv)⟩⟩
theorem Rd.more (h : Rd w B sz A xs) (hB : B ≤ B') : Rd w B' sz A xs :=
  ⟨h.1, fun hn => by
    obtain ⟨b, o, e, hb, hc⟩ := h.2 hn
    exact ⟨b, o, e, by omega, hc⟩⟩
theorem Rd.below (h : Rd w B sz A xs) (hb : Below B w w') : Rd w' B sz A xs := h.keep fun _ _ hp => hb.cell (p := ⟨_, _, none⟩) hp
theorem Rd.drewN (h : Rd w B sz A xs) (n : Nat) : Rd (w.drewN n) B sz A xs := h
theorem Rd.drew (h : Rd w B sz A xs) : Rd w.drew B sz A xs := h
theorem Rd.grown {row : Option Nat} (h : Rd w B sz A xs) (hg : w.grownBy w' row) (hB : B ≤ w.heap.size) (hr : ∀ g, row = some g → B ≤ g) : Rd w' B sz A xs :=
  h.keep fun b o hp => World.cell?_of_block (hg.block b (by omega) (fun e => by have := hr _ e.symm; omega))
theorem Rd.at1 {k : Nat} {v0 : Value} (h : Rd w B 1 A xs) (hx : xs[k]? = some [v0]) : ∃ b o, A = some ⟨b, o, none⟩ ∧ b < B ∧ w.cell? ⟨b, o + k, none⟩ = some v0 := by
  obtain ⟨b, o, e, hb, hc⟩ := h.2 (by rintro rfl; simp at hx)
  exact ⟨b, o, e, hb, by simpa using hc k _ 0 v0 hx rfl⟩
theorem Rd.at2 {k : Nat} {v0 v1 : Value} (h : Rd w B 2 A xs) (hx : xs[k]? = some [v0, v1]) : ∃ b o, A = some ⟨b, o, none⟩ ∧ b < B ∧ w.cell? ⟨b, o + k * 2, none⟩ = some v0 ∧ w.cell? ⟨b, o + k * 2 + 1, none⟩ = some v1 := by
  obtain ⟨b, o, e, hb, hc⟩ := h.2 (by rintro rfl; simp at hx)
  exact ⟨b, o, e, hb, by simpa using hc k _ 0 v0 hx rfl, by simpa using hc k _ 1 v1 hx rfl⟩
theorem Rd.at3 {k : Nat} {v0 v1 v2 : Value} (h : Rd w B 3 A xs) (hx : xs[k]? = some [v0, v1, v2]) : ∃ b o, A = some ⟨b, o, none⟩ ∧ b < B ∧ w.cell? ⟨b, o + k * 3, none⟩ = some v0 ∧ w.cell? ⟨b, o + k * 3 + 1, none⟩ = some v1 ∧ w.cell? ⟨b, o + k * 3 + 2, none⟩ = some v2 := by
  obtain ⟨b, o, e, hb, hc⟩ := h.2 (by rintro rfl; simp at hx)
  exact ⟨b, o, e, hb, by simpa using hc k _ 0 v0 hx rfl, by simpa using hc k _ 1 v1 hx rfl, by simpa using hc k _ 2 v2 hx rfl⟩
theorem flat_at {α : Type} : ∀ (xs : List (List α)) (sz : Nat), (∀ x ∈ xs, x.length = sz) → ∀ k x j v, xs[k]? = some x → x[j]? = some v → xs.flatten[k * sz + j]? = some v
  | [], sz, _, k, x, j, v, hx, _ => by simp at hx
  | y :: ys, sz, hl, 0, x, j, v, hx, hv => by
    simp at hx; subst hx
    rw [List.flatten_cons, Nat.zero_mul, Nat.zero_add, List.getElem?_append_left (List.getElem?_eq_some_iff.1 hv).1, hv]
  | y :: ys, sz, hl, k + 1, x, j, v, hx, hv => by
    have hy : y.length = sz := hl y (by simp)
    have h := flat_at ys sz (fun z hz => hl z (by simp [hz])) k x j v (by simpa using hx) hv
    rw [List.flatten_cons, List.getElem?_append_right (by rw [hy, Nat.succ_mul]; omega), hy]
    rw [show (k + 1) * sz + j - sz = k * sz + j from by rw [Nat.succ_mul]; omega]
    exact h
theorem flat_len {α : Type} : ∀ (xs : List (List α)) (sz : Nat), (∀ x ∈ xs, x.length = sz) → xs.flatten.length = xs.length * sz
  | [], sz, _ => by simp
  | y :: ys, sz, hl => by
    have hy : y.length = sz := hl y (by simp)
    rw [List.flatten_cons, List.length_append, hy, flat_len ys sz (fun z hz => hl z (by simp [hz])), List.length_cons, Nat.succ_mul, Nat.add_comm]
theorem flat_get {α : Type} : ∀ (xs : List (List α)) (sz i : Nat) (v : α), (∀ x ∈ xs, x.length = sz) → xs.flatten[i]? = some v → ∃ k x j, xs[k]? = some x ∧ x[j]? = some v ∧ i = k * sz + j
  | [], sz, i, v, _, h => by simp at h
  | y :: ys, sz, i, v, hl, h => by
    have hy : y.length = sz := hl y (by simp)
    by_cases hi : i < sz
    · rw [List.flatten_cons, List.getElem?_append_left (by omega)] at h
      exact ⟨0, y, i, rfl, h, by omega⟩
    · rw [List.flatten_cons, List.getElem?_append_right (by omega), hy] at h
      obtain ⟨k, x, j, hx, hv, e⟩ := flat_get ys sz (i - sz) v (fun z hz => hl z (by simp [hz])) h
      exact ⟨k + 1, x, j, by simpa using hx, hv, by rw [Nat.succ_mul]; omega⟩
theorem add_none (b o i : Nat) : (⟨b, o, none⟩ : Addr).add i = ⟨b, o + i, none⟩ := by unfold Addr.add; split <;> simp_all
/-- What the append laws ask of their source. -/
theorem Rd.news (h : Rd w B sz A xs) (hn : xs ≠ []) : ∃ b o, A = some ⟨b, o, none⟩ ∧ b < B ∧ ∀ j u, xs.flatten[j]? = some u → w.cell? ((⟨b, o, none⟩ : Addr).add j) = some u := by
  obtain ⟨b, o, e, hb, hc⟩ := h.2 hn
  refine ⟨b, o, e, hb, fun i u hu => ?_⟩
  obtain ⟨k, x, j, hx, hv, rfl⟩ := flat_get xs sz i u h.1 hu
  rw [add_none, ← Nat.add_assoc]
  exact hc k x j u hx hv
/-- A row of the call's own reads as its elements. -/
theorem Rd.of_own {base e n c : Nat} (hsz : 0 < sz) (hl : ∀ x ∈ xs, x.length = sz) (h : w.ownsRow base e sz (.slice A n c) n xs.flatten) : Rd w w.heap.size sz A xs := by
  refine ⟨hl, fun hn => ?_⟩
  have hfl : xs.flatten.length = n * sz := h.1
  rcases h.2 with ⟨hv, h0⟩ | ⟨g, cap, cur, hv, hbg, hg, hnc, hcm, hcs, htake⟩
  · subst h0
    rw [flat_len xs sz hl] at hfl
    injection hv with hA
    subst hA
    have hx0 : xs.length * sz = 0 := by omega
    rcases Nat.mul_eq_zero.1 hx0 with h1 | h1
    · exact absurd (List.eq_nil_of_length_eq_zero h1) hn
    · omega
  · injection hv with hA _ _
    subst hA
    have hc := World.ownsRow.cells h (g := g) rfl
    refine ⟨g, 0, rfl, (Array.getElem?_eq_some_iff.1 hg).1, fun k x j v hx hv => ?_⟩
    have := hc (k * sz + j) v (flat_at xs sz hl k x j v hx hv)
    rwa [add_none, ← Nat.add_assoc] at this
end

/-- What the append and make laws ask of the types: t is '[]e', an element has sz cells and so many bytes. -/
def EI (P : Program) (t e : TypeId) (sz bytes : Nat) : Prop :=
  P.underlying t = some (.slice e) ∧ ∃ i z, P.info? e = some i ∧ i.zero = some z ∧ i.size = sz ∧ i.bytes = bytes ∧ z.cells.size = sz ∧ 0 < sz
theorem EI.mk' {P : Program} {t e : TypeId} {sz bytes : Nat} {z : Value} (ht : P.underlying t = some (.slice e)) (hi : (P.info? e).map (fun i => (i.zero, i.size, i.bytes)) = some (some z, sz, bytes)) (hz : z.cells.size = sz) (hs : 0 < sz) : EI P t e sz bytes := by
  obtain ⟨i, h1, h2, h3, h4⟩ := info_parts hi
  exact ⟨ht, i, z, h1, h2, h3, h4, hz, hs⟩

/-- A slice of the call's own (blocks from base on), or nil: its elements xs, n of them. -/
def Own (w : World) (base : Nat) (e : TypeId) (sz : Nat) (A : Option Addr) (n c : Nat) (xs : List (List Value)) : Prop :=
  0 < sz ∧ (∀ x ∈ xs, x.length = sz) ∧ xs.length = n ∧ w.ownsRow base e sz (.slice A n c) n xs.flatten

section
variable {w w' : World} {base B sz n c : Nat} {e : TypeId} {A : Option Addr} {xs : List (List Value)}
theorem Own.nil_ (hs : 0 < sz) : Own w base e sz none 0 0 [] := ⟨hs, by simp, rfl, World.ownsRow_nil _ _ _ _⟩
theorem Own.rd (h : Own w base e sz A n c xs) : Rd w w.heap.size sz A xs := Rd.of_own h.1 h.2.1 h.2.2.2
theorem Own.len (h : Own w base e sz A n c xs) : xs.length = n := h.2.2.1
theorem Own.block (h : Own w base e sz A n c xs) {b : Nat} (hb : A.map Addr.block = some b) : base ≤ b ∧ b < w.heap.size := by
  refine h.2.2.2.lt b ?_
  cases A with
  | none => simp at hb
  | some a => simpa [Value.ownBlock] using hb
theorem Own.cap (h : Own w base e sz A n c xs) : n ≤ c ∧ c ≤ maxLen := by
  rcases h.2.2.2.2 with ⟨hv, h0⟩ | ⟨g, cap, cur, hv, hbg, hg, hnc, hcm, hcs, htake⟩
  · injection hv with _ _ h3; subst h3; exact ⟨by omega, by simp [maxLen]⟩
  · injection hv with _ _ h3; subst h3; exact ⟨hnc, hcm⟩
theorem Own.form (h : Own w base e sz A n c xs) : (A = none ∧ n = 0 ∧ c = 0) ∨ ∃ g, A = some ⟨g, 0, none⟩ ∧ base ≤ g ∧ g < w.heap.size := by
  rcases h.2.2.2.2 with ⟨hv, h0⟩ | ⟨g, cap, cur, hv, hbg, hg, hnc, hcm, hcs, htake⟩
  · injection hv with h1 _ h3; exact .inl ⟨h1, h0, h3⟩
  · injection hv with h1 _ h3; exact .inr ⟨g, h1, hbg, (Array.getElem?_eq_some_iff.1 hg).1⟩
theorem Own.grown {row : Option Nat} (h : Own w base e sz A n c xs) (hg : w.grownBy w' row) (hne : A = none ∨ A.map Addr.block ≠ row) : Own w' base e sz A n c xs :=
  ⟨h.1, h.2.1, h.2.2.1, h.2.2.2.kept hg (by
    rcases hne with rfl | hne
    · exact .inl rfl
    · right
      cases A with
      | none => simpa [Value.ownBlock] using hne
      | some a => simpa [Value.ownBlock] using hne)⟩
theorem Own.alloc (h : Own w base e sz A n c xs) (o : Obj) : Own (w.alloc o) base e sz A n c xs := ⟨h.1, h.2.1, h.2.2.1, h.2.2.2.alloc o⟩
theorem Own.drewN (h : Own w base e sz A n c xs) (q : Nat) : Own (w.drewN q) base e sz A n c xs := h
theorem Own.drew (h : Own w base e sz A n c xs) : Own w.drew base e sz A n c xs := h
theorem Own.below (h : Own w base e sz A n c xs) (hb : Below B w w') (hB : ∀ b, A.map Addr.block = some b → b < B) : Own w' base e sz A n c xs := by
  refine ⟨h.1, h.2.1, h.2.2.1, h.2.2.2.1, ?_⟩
  rcases h.2.2.2.2 with hn | ⟨g, cap, cur, hv, hbg, hg, rest⟩
  · exact .inl hn
  · refine .inr ⟨g, cap, cur, hv, hbg, ?_, rest⟩
    injection hv with h1 _ _
    rw [hb.block g (hB g (by rw [h1]; rfl))]
    exact hg
theorem Own.belowAll (h : Own w base e sz A n c xs) (hb : Below w.heap.size w w') : Own w' base e sz A n c xs :=
  h.below hb fun _ hb' => (h.block hb').2
theorem Own.lower {base' : Nat} (h : Own w base e sz A n c xs) (hb : base' ≤ base) : Own w base' e sz A n c xs := by
  refine ⟨h.1, h.2.1, h.2.2.1, h.2.2.2.1, ?_⟩
  rcases h.2.2.2.2 with hn | ⟨g, cap, cur, hv, hbg, rest⟩
  · exact .inl hn
  · exact .inr ⟨g, cap, cur, hv, by omega, rest⟩
theorem Own.ne_ {base2 sz2 n2 c2 : Nat} {e2 : TypeId} {A2 : Option Addr} {ys : List (List Value)} (h : Own w base e sz A n c xs) (h2 : Own w base2 e2 sz2 A2 n2 c2 ys) (hne : e ≠ e2) : A = none ∨ A.map Addr.block ≠ A2.map Addr.block := by
  rcases h.2.2.2.2 with ⟨hv, h0⟩ | ⟨g, cap, cur, hv, hbg, hg, _⟩
  · injection hv with h1; exact .inl h1
  · right
    injection hv with h1
    subst h1
    rcases h2.2.2.2.2 with ⟨hv2, h0⟩ | ⟨g2, cap2, cur2, hv2, hbg2, hg2, _⟩
    · injection hv2 with h1; subst h1; simp
    · injection hv2 with h1
      subst h1
      intro e
      simp at e
      subst e
      rw [hg] at hg2
      injection hg2 with hg2
      injection hg2 with _ ht
      exact hne ht
/-- A new block of whole elements is one's own. -/
theorem Own.lit (w : World) (hs : 0 < sz) (hl : ∀ x ∈ xs, x.length = sz) (hx : xs.length = n) (hm : n ≤ maxLen) (hb : base ≤ w.heap.size) (cs : Array Value) (hc : cs.toList = xs.flatten) : Own (w.alloc (.cells cs e)) base e sz (some ⟨w.heap.size, 0, none⟩) n n xs := by
  have := World.ownsRow_lit (size := sz) (e := e) w cs n hb hm (by rw [← Array.length_toList, hc, flat_len xs sz hl, hx])
  rw [hc] at this
  exact ⟨hs, hl, hx, this⟩
theorem Rd.new (w : World) (hl : ∀ x ∈ xs, x.length = sz) (cs : Array Value) (hc : cs.toList = xs.flatten) : Rd (w.alloc (.cells cs e)) (w.heap.size + 1) sz (some ⟨w.heap.size, 0, none⟩) xs := by
  refine ⟨hl, fun _ => ⟨w.heap.size, 0, rfl, by omega, fun k x j v hx hv => ?_⟩⟩
  rw [cell_of_row _ w.heap.size (0 + k * sz + j) cs e (0, 0) (heap_alloc_new w _), ← Array.getElem?_toList, hc, Nat.zero_add]
  exact flat_at xs sz hl k x j v hx hv
end

section
variable {P : Program} (w : World)
theorem run_append_rd {t e : TypeId} {sz bytes : Nat} (ty : TypeId) (hE : EI P t e sz bytes) {base : Nat} {A : Option Addr} {n c : Nat} {xs : List (List Value)} (hown : Own w base e sz A n c xs)
    {B : Nat} {A2 : Option Addr} {m c2 : Nat} {ys : List (List Value)} (hr : Rd w B sz A2 ys) (hm : ys.length = m) (h1 : ∀ y ∈ ys, ∀ u ∈ y, u.oneCell' = true)
    (h63 : n + m ≤ maxLen) (hbytes : (n + m) * bytes ≤ 140737488355328) (hbase : base ≤ w.heap.size) :
    ∃ A' c' w', (Builtin.append_ #[t, t] ty #[.slice A n c, .slice A2 m c2]).run P w = .ok (.slice A' (n + m) c') w' ∧ Own w' base e sz A' (n + m) c' (xs ++ ys) ∧ w.grownBy w' (A.map Addr.block) ∧
      (A'.map Addr.block = A.map Addr.block ∨ A'.map Addr.block = some w.heap.size) ∧ Below base w w' := by
  obtain ⟨ht, i, z, hi, hz, hsize, hby, hzs, hsz⟩ := hE
  have hob : (Value.slice A n c).ownBlock = A.map Addr.block := by cases A <;> rfl
  have hbl : ∀ w', w.grownBy w' (A.map Addr.block) → Below base w w' := fun w' hg =>
    (Below.refl base w).grown hg hbase fun k hk => (hown.block hk).1
  by_cases hy : ys = []
  · subst hy
    obtain rfl : m = 0 := by simpa using hm.symm
    refine ⟨A, c, w, ?_, by simpa using hown, World.grownBy.refl w _, .inl rfl, Below.refl _ _⟩
    rcases hown.2.2.2.2 with ⟨hv, h0⟩ | ⟨g, cap, cur, hv, _, _, hnc, _⟩
    · injection hv with h1 _ h3
      subst h1 h3 h0
      cases A2 <;> simp [Builtin.append_, run_underlying ht, sizeOf, typeInfo, hi, Builtin.lenOf, Builtin.firstCells, loadCells, loadCellsFrom]
    · injection hv with h1 _ h3
      subst h1 h3
      cases A2 <;> simp [Builtin.append_, run_underlying ht, sizeOf, typeInfo, hi, Builtin.lenOf, Builtin.firstCells, loadCells, loadCellsFrom, hnc, storeCells]
  · obtain ⟨b, o, rfl, hb, hnews⟩ := hr.news hy
    have hl : ys.flatten.length = m * sz := by rw [flat_len ys sz hr.1, hm]
    have hmp : 0 < m := by
      rcases Nat.eq_zero_or_pos m with h0 | h0
      · exact absurd (List.eq_nil_of_length_eq_zero (hm.trans h0)) hy
      · exact h0
    obtain ⟨v', w', hrun, h2, h3, _, h5⟩ := run_append_own_at (P := P) w base t ty e i z sz bytes ht hi hz hsize hby hzs hsz (.slice A n c) n xs.flatten hown.2.2.2 ⟨b, o, none⟩ m c2 ys.flatten hl hnews
      (fun u hu => by obtain ⟨y, hy, hu⟩ := List.mem_flatten.1 hu; exact h1 y hy u hu) h63 hbytes hbase
    obtain ⟨g, cap, rfl, _, hlt⟩ := h2.form (by omega)
    rw [hob] at h3 h5
    rw [← List.flatten_append] at h2
    refine ⟨_, _, w', hrun, ⟨hsz, ?_, by simp [hown.2.2.1, hm], h2⟩, h3, ?_, hbl w' h3⟩
    · intro x hx
      rcases List.mem_append.1 hx with hx | hx
      · exact hown.2.1 x hx
      · exact hr.1 x hx
    · simpa [Value.ownBlock] using h5

theorem wp_append_rd {o : Oper} {a : Act} {K : Act → World → Prop} {Q : Exit → Act → World → Prop} (s x : Operand) (t : TypeId)
    (ho : o.op = .call { callee := .builtin .append, args := #[s, x], argTypes := #[t, t] }) {e : TypeId} {sz bytes : Nat} (hE : EI P t e sz bytes)
    {base : Nat} {A : Option Addr} {n c : Nat} {xs : List (List Value)} (hs : a.eval s = .slice A n c) (hown : Own w base e sz A n c xs)
    {B : Nat} {A2 : Option Addr} {m c2 : Nat} {ys : List (List Value)} (hx : a.eval x = .slice A2 m c2) (hr : Rd w B sz A2 ys) (hm : ys.length = m) (h1 : ∀ y ∈ ys, ∀ u ∈ y, u.oneCell' = true)
    (h63 : n + m ≤ maxLen) (hbytes : (n + m) * bytes ≤ 140737488355328) (hbase : base ≤ w.heap.size)
    (h : ∀ A' c' w', Own w' base e sz A' (n + m) c' (xs ++ ys) → w.grownBy w' (A.map Addr.block) → (A'.map Addr.block = A.map Addr.block ∨ A'.map Addr.block = some w.heap.size) → Below base w w' → K (a.put o.dst (.slice A' (n + m) c')) w') :
    o.wp P a w K Q := by
  obtain ⟨A', c', w', hrun, h2, h3, h4, h5⟩ := run_append_rd (P := P) w o.type hE hown hr hm h1 h63 hbytes hbase (c2 := c2)
  unfold Oper.wp execOp
  simp only [ho, resolve, invoke, builtin, Sem.run_bind, Sem.run_pure, Result.andThen_ok, List.map_toArray, List.map_cons, List.map_nil, hs, hx, hrun]
  exact h A' c' w' h2 h3 h4 h5

/-- At a plain region's list. -/
theorem wpList_append_rd {ops : Array Oper} {rest : List Oper} {o : Oper} {a : Act} {Q : Exit → Act → World → Prop} (hgd : o.guard = none) (s x : Operand) (t : TypeId)
    (ho : o.op = .call { callee := .builtin .append, args := #[s, x], argTypes := #[t, t] }) {e : TypeId} {sz bytes : Nat} (hE : EI P t e sz bytes)
    {base : Nat} {A : Option Addr} {n c : Nat} {xs : List (List Value)} (hs : a.eval s = .slice A n c) (hown : Own w base e sz A n c xs)
    {B : Nat} {A2 : Option Addr} {m c2 : Nat} {ys : List (List Value)} (hx : a.eval x = .slice A2 m c2) (hr : Rd w B sz A2 ys) (hm : ys.length = m) (h1 : ∀ y ∈ ys, ∀ u ∈ y, u.oneCell' = true)
    (h63 : n + m ≤ maxLen) (hbytes : (n + m) * bytes ≤ 140737488355328) (hbase : base ≤ w.heap.size)
    (h : ∀ A' c' w', Own w' base e sz A' (n + m) c' (xs ++ ys) → w.grownBy w' (A.map Addr.block) → (A'.map Addr.block = A.map Addr.block ∨ A'.map Addr.block = some w.heap.size) → Below base w w' → wpList P ops Q rest (a.put o.dst (.slice A' (n + m) c')) w') :
    wpList P ops Q (o :: rest) a w :=
  wpList_plain hgd fun _ hK => wp_append_rd w s x t ho hE hs hown hx hr hm h1 h63 hbytes hbase fun A' c' w' h2 h3 h4 h5 => hK _ _ (h A' c' w' h2 h3 h4 h5)

/-- At a step of a region that draws its order. -/
theorem step_append_rd {ops : Array Oper} {o : Oper} {a : Act} {K : Act → World → Prop} {Q : Exit → Act → World → Prop} {E : Prop} (hgd : o.guard = none) (s x : Operand) (t : TypeId)
    (ho : o.op = .call { callee := .builtin .append, args := #[s, x], argTypes := #[t, t] }) {e : TypeId} {sz bytes : Nat} (hE : EI P t e sz bytes)
    {base : Nat} {A : Option Addr} {n c : Nat} {xs : List (List Value)} (hs : a.eval s = .slice A n c) (hown : Own w base e sz A n c xs)
    {B : Nat} {A2 : Option Addr} {m c2 : Nat} {ys : List (List Value)} (hx : a.eval x = .slice A2 m c2) (hr : Rd w B sz A2 ys) (hm : ys.length = m) (h1 : ∀ y ∈ ys, ∀ u ∈ y, u.oneCell' = true)
    (h63 : n + m ≤ maxLen) (hbytes : (n + m) * bytes ≤ 140737488355328) (hbase : base ≤ w.heap.size)
    (h : ∀ A' c' w', Own w' base e sz A' (n + m) c' (xs ++ ys) → w.grownBy w' (A.map Addr.block) → (A'.map Addr.block = A.map Addr.block ∨ A'.map Addr.block = some w.heap.size) → Below base w w' → K (a.put o.dst (.slice A' (n + m) c')) w') :
    if Region.wanted o (yielded ops a.tmps) = true then Oper.wp P o a w K Q else E := by
  have hw : Region.wanted o (yielded ops a.tmps) = true := by simp [Region.wanted, hgd]
  rw [if_pos hw]
  exact wp_append_rd w s x t ho hE hs hown hx hr hm h1 h63 hbytes hbase h
end
end
section
/-! ## Drop -/
open Go.RowKit

theorem drop_at {s : ByteArray} {i : Nat} (h : i < s.size) : s.data.toList.drop i = s[i] :: s.data.toList.drop (i + 1) := by
  have h' : i < s.data.toList.length := by rw [← Lib.size_eq]; exact h
  rw [List.drop_eq_getElem_cons h']
  rfl
theorem drop_end {s : ByteArray} : s.data.toList.drop s.size = [] := by rw [List.drop_eq_nil_iff, ← Lib.size_eq]; exact Nat.le_refl _
theorem u8_le (c : UInt8) : c.toNat ≤ 255 := by have := c.toNat_lt; omega
end
section
/-! ## NameB -/
open Go.RowKit

def nchar (c : UInt8) : Bool := c.toNat == 95 || (48 ≤ c.toNat && c.toNat ≤ 57) || (65 ≤ c.toNat && c.toNat ≤ 90) || (97 ≤ c.toNat && c.toNat ≤ 122)
def dchar (c : UInt8) : Bool := 48 ≤ c.toNat && c.toNat ≤ 57
def nameB (s : ByteArray) : Bool := (decide (1 ≤ s.size ∧ s.size ≤ 64)) && !(s.data.toList.head?.any dchar) && s.data.toList.all nchar
theorem nchar_yes {c : UInt8} (h : nchar c = true) : (c.toNat : Int) = 95 ∨ (48 ≤ (c.toNat : Int) ∧ (c.toNat : Int) ≤ 57) ∨ (65 ≤ (c.toNat : Int) ∧ (c.toNat : Int) ≤ 90) ∨ (97 ≤ (c.toNat : Int) ∧ (c.toNat : Int) ≤ 122) := by
  simp [nchar] at h; omega
theorem nchar_no {c : UInt8} (h : nchar c = false) : ¬ ((c.toNat : Int) = 95 ∨ (48 ≤ (c.toNat : Int) ∧ (c.toNat : Int) ≤ 57) ∨ (65 ≤ (c.toNat : Int) ∧ (c.toNat : Int) ≤ 90) ∨ (97 ≤ (c.toNat : Int) ∧ (c.toNat : Int) ≤ 122)) := by
  simp [nchar] at h; omega
theorem nall_true {s : ByteArray} {p : UInt8 → Bool} (h : ∀ j (hj : j < s.size), j < s.size → p s[j] = true) : s.data.toList.all p = true := by
  rw [List.all_eq_true]
  intro c hc
  obtain ⟨i, hi, rfl⟩ := List.getElem_of_mem hc
  exact h i (by simpa using hi) (by simpa using hi)
theorem nall_false {s : ByteArray} {p : UInt8 → Bool} {k : Nat} (hk : k < s.size) (h : p s[k] = false) : s.data.toList.all p = false := by
  rw [List.all_eq_false]
  exact ⟨s[k], by apply List.getElem_mem (l := s.data.toList) (n := k), by simp [h]⟩
theorem nall_step {s : ByteArray} {p : UInt8 → Bool} {k : Nat} (hk : k < s.size) (h : p s[k] = true) (hall : Hid (∀ j (hj : j < s.size), j < k → p s[j] = true)) : Hid (∀ j (hj : j < s.size), j < k + 1 → p s[j] = true) := fun j hj h2 => by
  by_cases e : j = k
  · subst e; exact h
  · exact hall j hj (by omega)
theorem head_at {s : ByteArray} (h : 0 < s.size) : s.data.toList.head? = some s[0] := by
  rw [List.head?_eq_getElem?]
  have h' : 0 < s.data.toList.length := by rw [← Lib.size_eq]; exact h
  rw [List.getElem?_eq_getElem h']
  rfl
theorem name_true {s : ByteArray} (h1 : 1 ≤ s.size) (h2 : s.size ≤ 64) (h0 : dchar s[0] = false) (h : ∀ j (hj : j < s.size), j < s.size → nchar s[j] = true) : nameB s = true := by
  simp only [nameB, h1, h2, and_self, decide_true, Bool.true_and, head_at h1, Option.any_some, h0, Bool.not_false]
  exact nall_true h
theorem name_false {s : ByteArray} {k : Nat} (hk : k < s.size) (h : nchar s[k] = false) : nameB s = false := by
  simp only [nameB, Bool.and_eq_false_iff]
  exact .inr (nall_false hk h)
theorem name_digit {s : ByteArray} (h1 : 1 ≤ s.size) (h0 : dchar s[0] = true) : nameB s = false := by
  simp [nameB, head_at h1, h0]
theorem name_len {s : ByteArray} (h : ¬ (1 ≤ s.size ∧ s.size ≤ 64)) : nameB s = false := by simp [nameB, h]
theorem dchar_yes {c : UInt8} (h : dchar c = true) : 48 ≤ (c.toNat : Int) ∧ (c.toNat : Int) ≤ 57 := by simp [dchar] at h; omega
theorem dchar_no {c : UInt8} (h : dchar c = false) : ¬ (48 ≤ (c.toNat : Int) ∧ (c.toNat : Int) ≤ 57) := by simp [dchar] at h; omega
end
section
/-! ## LexC -/
open Go.RowKit

def letB (c : UInt8) : Bool := (97 ≤ c.toNat && c.toNat ≤ 122) || (65 ≤ c.toNat && c.toNat ≤ 90) || c.toNat == 95 || c.toNat == 58
def digN (l : List UInt8) : Nat := (l.takeWhile dchar).length

theorem lclass (c : Nat) (hc : c ≤ 255) : (0 ≤ c ∧ c ≤ 47) ∨ (48 ≤ c ∧ c ≤ 57) ∨ (58 ≤ c ∧ c ≤ 58) ∨ (59 ≤ c ∧ c ≤ 64) ∨ (65 ≤ c ∧ c ≤ 90) ∨ (91 ≤ c ∧ c ≤ 94) ∨ (95 ≤ c ∧ c ≤ 95) ∨ (96 ≤ c ∧ c ≤ 96) ∨ (97 ≤ c ∧ c ≤ 122) ∨ (123 ≤ c ∧ c ≤ 255) := by omega
set_option maxHeartbeats 1000000 in
theorem digit_any (c : UInt8) (w : World) : Calls Tryz.prog 56 #[.int .u8 (c.toNat : Int)] w fun e w' => e = .returned (.bool (dchar c)) ∧ w = w' := by
  have hu := u8_le c
  have h0 : (0 : Int) ≤ c.toNat := by omega
  have h255 : (c.toNat : Int) ≤ 255 := by omega
  rcases lclass c.toNat hu with h | h | h | h | h | h | h | h | h | h
  · have h1 : (0 : Int) ≤ c.toNat := by omega
    have h2 : (c.toNat : Int) ≤ 47 := by omega
    have HT : Hid (dchar c = false) := by show dchar c = _; simp [dchar]; omega
    clear h hu
    go_enter Tryz.func56, Tryz.ntmps56
    go_wp2
    go_ret
    exact ⟨ret_bool (by first | exact HT.out.symm | (rw [HT.out]; simp; omega)), rfl⟩
  · have h1 : (48 : Int) ≤ c.toNat := by omega
    have h2 : (c.toNat : Int) ≤ 57 := by omega
    have HT : Hid (dchar c = true) := by show dchar c = _; simp [dchar]; omega
    clear h hu
    go_enter Tryz.func56, Tryz.ntmps56
    go_wp2
    go_ret
    exact ⟨ret_bool (by first | exact HT.out.symm | (rw [HT.out]; simp; omega)), rfl⟩
  · have h1 : (58 : Int) ≤ c.toNat := by omega
    have h2 : (c.toNat : Int) ≤ 58 := by omega
    have HT : Hid (dchar c = false) := by show dchar c = _; simp [dchar]; omega
    clear h hu
    go_enter Tryz.func56, Tryz.ntmps56
    go_wp2
    go_ret
    exact ⟨ret_bool (by first | exact HT.out.symm | (rw [HT.out]; simp; omega)), rfl⟩
  · have h1 : (59 : Int) ≤ c.toNat := by omega
    have h2 : (c.toNat : Int) ≤ 64 := by omega
    have HT : Hid (dchar c = false) := by show dchar c = _; simp [dchar]; omega
    clear h hu
    go_enter Tryz.func56, Tryz.ntmps56
    go_wp2
    go_ret
    exact ⟨ret_bool (by first | exact HT.out.symm | (rw [HT.out]; simp; omega)), rfl⟩
  · have h1 : (65 : Int) ≤ c.toNat := by omega
    have h2 : (c.toNat : Int) ≤ 90 := by omega
    have HT : Hid (dchar c = false) := by show dchar c = _; simp [dchar]; omega
    clear h hu
    go_enter Tryz.func56, Tryz.ntmps56
    go_wp2
    go_ret
    exact ⟨ret_bool (by first | exact HT.out.symm | (rw [HT.out]; simp; omega)), rfl⟩
  · have h1 : (91 : Int) ≤ c.toNat := by omega
    have h2 : (c.toNat : Int) ≤ 94 := by omega
    have HT : Hid (dchar c = false) := by show dchar c = _; simp [dchar]; omega
    clear h hu
    go_enter Tryz.func56, Tryz.ntmps56
    go_wp2
    go_ret
    exact ⟨ret_bool (by first | exact HT.out.symm | (rw [HT.out]; simp; omega)), rfl⟩
  · have h1 : (95 : Int) ≤ c.toNat := by omega
    have h2 : (c.toNat : Int) ≤ 95 := by omega
    have HT : Hid (dchar c = false) := by show dchar c = _; simp [dchar]; omega
    clear h hu
    go_enter Tryz.func56, Tryz.ntmps56
    go_wp2
    go_ret
    exact ⟨ret_bool (by first | exact HT.out.symm | (rw [HT.out]; simp; omega)), rfl⟩
  · have h1 : (96 : Int) ≤ c.toNat := by omega
    have h2 : (c.toNat : Int) ≤ 96 := by omega
    have HT : Hid (dchar c = false) := by show dchar c = _; simp [dchar]; omega
    clear h hu
    go_enter Tryz.func56, Tryz.ntmps56
    go_wp2
    go_ret
    exact ⟨ret_bool (by first | exact HT.out.symm | (rw [HT.out]; simp; omega)), rfl⟩
  · have h1 : (97 : Int) ≤ c.toNat := by omega
    have h2 : (c.toNat : Int) ≤ 122 := by omega
    have HT : Hid (dchar c = false) := by show dchar c = _; simp [dchar]; omega
    clear h hu
    go_enter Tryz.func56, Tryz.ntmps56
    go_wp2
    go_ret
    exact ⟨ret_bool (by first | exact HT.out.symm | (rw [HT.out]; simp; omega)), rfl⟩
  · have h1 : (123 : Int) ≤ c.toNat := by omega
    have h2 : (c.toNat : Int) ≤ 255 := by omega
    have HT : Hid (dchar c = false) := by show dchar c = _; simp [dchar]; omega
    clear h hu
    go_enter Tryz.func56, Tryz.ntmps56
    go_wp2
    go_ret
    exact ⟨ret_bool (by first | exact HT.out.symm | (rw [HT.out]; simp; omega)), rfl⟩
set_option maxHeartbeats 1000000 in
theorem letter_any (c : UInt8) (w : World) : Calls Tryz.prog 57 #[.int .u8 (c.toNat : Int)] w fun e w' => e = .returned (.bool (letB c)) ∧ w = w' := by
  have hu := u8_le c
  have h0 : (0 : Int) ≤ c.toNat := by omega
  have h255 : (c.toNat : Int) ≤ 255 := by omega
  rcases lclass c.toNat hu with h | h | h | h | h | h | h | h | h | h
  · have h1 : (0 : Int) ≤ c.toNat := by omega
    have h2 : (c.toNat : Int) ≤ 47 := by omega
    have HT : Hid (letB c = false) := by show letB c = _; simp [letB]; omega
    clear h hu
    go_enter Tryz.func57, Tryz.ntmps57
    go_wp2
    go_ret
    exact ⟨ret_bool (by first | exact HT.out.symm | (rw [HT.out]; simp; omega)), rfl⟩
  · have h1 : (48 : Int) ≤ c.toNat := by omega
    have h2 : (c.toNat : Int) ≤ 57 := by omega
    have HT : Hid (letB c = false) := by show letB c = _; simp [letB]; omega
    clear h hu
    go_enter Tryz.func57, Tryz.ntmps57
    go_wp2
    go_ret
    exact ⟨ret_bool (by first | exact HT.out.symm | (rw [HT.out]; simp; omega)), rfl⟩
  · have h1 : (58 : Int) ≤ c.toNat := by omega
    have h2 : (c.toNat : Int) ≤ 58 := by omega
    have HT : Hid (letB c = true) := by show letB c = _; simp [letB]; omega
    clear h hu
    go_enter Tryz.func57, Tryz.ntmps57
    go_wp2
    go_ret
    exact ⟨ret_bool (by first | exact HT.out.symm | (rw [HT.out]; simp; omega)), rfl⟩
  · have h1 : (59 : Int) ≤ c.toNat := by omega
    have h2 : (c.toNat : Int) ≤ 64 := by omega
    have HT : Hid (letB c = false) := by show letB c = _; simp [letB]; omega
    clear h hu
    go_enter Tryz.func57, Tryz.ntmps57
    go_wp2
    go_ret
    exact ⟨ret_bool (by first | exact HT.out.symm | (rw [HT.out]; simp; omega)), rfl⟩
  · have h1 : (65 : Int) ≤ c.toNat := by omega
    have h2 : (c.toNat : Int) ≤ 90 := by omega
    have HT : Hid (letB c = true) := by show letB c = _; simp [letB]; omega
    clear h hu
    go_enter Tryz.func57, Tryz.ntmps57
    go_wp2
    go_ret
    exact ⟨ret_bool (by first | exact HT.out.symm | (rw [HT.out]; simp; omega)), rfl⟩
  · have h1 : (91 : Int) ≤ c.toNat := by omega
    have h2 : (c.toNat : Int) ≤ 94 := by omega
    have HT : Hid (letB c = false) := by show letB c = _; simp [letB]; omega
    clear h hu
    go_enter Tryz.func57, Tryz.ntmps57
    go_wp2
    go_ret
    exact ⟨ret_bool (by first | exact HT.out.symm | (rw [HT.out]; simp; omega)), rfl⟩
  · have h1 : (95 : Int) ≤ c.toNat := by omega
    have h2 : (c.toNat : Int) ≤ 95 := by omega
    have HT : Hid (letB c = true) := by show letB c = _; simp [letB]; omega
    clear h hu
    go_enter Tryz.func57, Tryz.ntmps57
    go_wp2
    go_ret
    exact ⟨ret_bool (by first | exact HT.out.symm | (rw [HT.out]; simp; omega)), rfl⟩
  · have h1 : (96 : Int) ≤ c.toNat := by omega
    have h2 : (c.toNat : Int) ≤ 96 := by omega
    have HT : Hid (letB c = false) := by show letB c = _; simp [letB]; omega
    clear h hu
    go_enter Tryz.func57, Tryz.ntmps57
    go_wp2
    go_ret
    exact ⟨ret_bool (by first | exact HT.out.symm | (rw [HT.out]; simp; omega)), rfl⟩
  · have h1 : (97 : Int) ≤ c.toNat := by omega
    have h2 : (c.toNat : Int) ≤ 122 := by omega
    have HT : Hid (letB c = true) := by show letB c = _; simp [letB]; omega
    clear h hu
    go_enter Tryz.func57, Tryz.ntmps57
    go_wp2
    go_ret
    exact ⟨ret_bool (by first | exact HT.out.symm | (rw [HT.out]; simp; omega)), rfl⟩
  · have h1 : (123 : Int) ≤ c.toNat := by omega
    have h2 : (c.toNat : Int) ≤ 255 := by omega
    have HT : Hid (letB c = false) := by show letB c = _; simp [letB]; omega
    clear h hu
    go_enter Tryz.func57, Tryz.ntmps57
    go_wp2
    go_ret
    exact ⟨ret_bool (by first | exact HT.out.symm | (rw [HT.out]; simp; omega)), rfl⟩
theorem digN_at {s : ByteArray} {k : Nat} (h : k < s.size) (hd : dchar s[k] = true) : digN (s.data.toList.drop k) = 1 + digN (s.data.toList.drop (k + 1)) := by
  rw [drop_at h, digN, List.takeWhile_cons, if_pos hd, List.length_cons, digN, Nat.add_comm]
theorem digN_no {s : ByteArray} {k : Nat} (h : k < s.size) (hd : dchar s[k] = false) : digN (s.data.toList.drop k) = 0 := by
  rw [drop_at h, digN, List.takeWhile_cons, if_neg (by simp [hd])]; rfl
theorem digN_end {s : ByteArray} : digN (s.data.toList.drop s.size) = 0 := by rw [drop_end]; rfl
set_option maxHeartbeats 1000000 in
theorem digits_any (s : ByteArray) (w : World) (hs : s.size ≤ maxLen) : Calls Tryz.prog 89 #[.string s] w fun e w' => e = .returned (.int .i64 (digN s.data.toList)) ∧ w = w' := by
  have HD := fun (c : UInt8) (W : World) => Lib.hid (digit_any c W)
  unfold maxLen at hs
  go_enter Tryz.func89, Tryz.ntmps89
  go_wp2
  go_loop [3] (fun i => ∃ k : Nat, k ≤ s.size ∧ i = .int .i64 k ∧ Hid (digN s.data.toList = k + digN (s.data.toList.drop k))) (fun i => s.size - (intOf i).toNat)
  case atStart => exact ⟨0, by omega, rfl, by show _ = _; simp⟩
  case round =>
    obtain ⟨k, hk, rfl, HV⟩ := hrel
    by_cases hlt : k < s.size
    · cases hd : dchar s[k] with
      | true =>
        have HV2 := Lib.hid (HV.out.trans (by rw [digN_at hlt hd, ← Nat.add_assoc] : _ = k + 1 + digN (s.data.toList.drop (k + 1))))
        have HD1 := fun (W : World) => Lib.hid (hd ▸ digit_any s[k] W)
        clear hd HV HD
        go_wp2_with (go_at_call 56; refine ((HD1 _).out).mono ?_; rintro e w' ⟨rfl, rfl⟩)
        go_round
        case rel => exact ⟨k + 1, by omega, by go_num, HV2⟩
        case measure => simp [intOf]; omega
      | false =>
        have HV2 := Lib.hid (HV.out.trans (by rw [digN_no hlt hd] : _ = k + 0))
        have HD1 := fun (W : World) => Lib.hid (hd ▸ digit_any s[k] W)
        clear hd HV HD
        go_wp2_with (go_at_call 56; refine ((HD1 _).out).mono ?_; rintro e w' ⟨rfl, rfl⟩)
        go_ret
        exact ⟨ret_int (by rw [HV2.out]; rfl), rfl⟩
    · have hks : k = s.size := by omega
      have HV2 := Lib.hid (HV.out.trans (by rw [hks, digN_end] : _ = k + 0))
      clear hks HV
      go_wp2_with fail
      go_ret
      exact ⟨ret_int (by rw [HV2.out]; rfl), rfl⟩
def needB (l : List UInt8) : Bool := decide (1 < l.length) && (l.head? == some 48)
set_option maxHeartbeats 1000000 in
theorem needless_any (s : ByteArray) (w : World) (hs : s.size ≤ maxLen) : Calls Tryz.prog 90 #[.string s] w fun e w' => e = .returned (.bool (needB s.data.toList)) ∧ w = w' := by
  unfold maxLen at hs
  by_cases h : 1 < s.size
  · have hI : (1 : Int) < s.size := by omega
    have h0 : 0 < s.size := by omega
    cases h1 : ((s[0].toNat : Int) == 48) with
    | _ =>
      have HT : Hid (needB s.data.toList = ((s[0].toNat : Int) == 48)) := by
        show needB _ = _
        have : (s[0] == (48 : UInt8)) = ((s[0].toNat : Int) == 48) := by
          by_cases hc : s[0] = 48
          · rw [hc]; rfl
          · have : s[0].toNat ≠ 48 := fun h' => hc (UInt8.toNat_inj.1 h')
            rw [beq_eq_false_iff_ne.2 hc, eq_comm, beq_eq_false_iff_ne]; omega
        rw [needB, head_at h0, ← Lib.size_eq, decide_eq_true h, Bool.true_and, ← this]; rfl
      rw [h1] at HT
      go_enter Tryz.func90, Tryz.ntmps90
      go_wp2
      go_ret
      exact ⟨ret_bool HT.out.symm, rfl⟩
  · have hI : ¬ (1 : Int) < s.size := by omega
    have HT : Hid (needB s.data.toList = false) := by show needB _ = _; rw [needB, ← Lib.size_eq, decide_eq_false h]; rfl
    go_enter Tryz.func90, Tryz.ntmps90
    go_wp2
    go_ret
    exact ⟨ret_bool HT.out.symm, rfl⟩
end
section
/-! ## LexN -/
open Go.RowKit

theorem extract_toL (s : ByteArray) (i j : Nat) : (s.extract i j).data.toList = (s.data.toList.drop i).take (j - i) := by
  rw [ByteArray.data_extract, Array.toList_extract, List.extract_eq_take_drop]
theorem extract_size_le (s : ByteArray) (i j : Nat) : (s.extract i j).size ≤ s.size := by
  rw [ByteArray.size_extract]; omega
theorem digN_le (l : List UInt8) : digN l ≤ l.length := (List.takeWhile_sublist _).length_le
theorem digN_le' (s : ByteArray) : digN s.data.toList ≤ s.size := by rw [Lib.size_eq]; exact digN_le _

def dotB : Option UInt8 → Bool
  | some c => (c.toNat : Int) == 46
  | none => false
def numB (l : List UInt8) : Bool :=
  if digN l = 0 ∨ needB (l.take (digN l)) = true then false
  else if digN l = l.length then decide (digN l ≤ 15)
  else dotB l[digN l]? && decide (0 < digN (l.drop (digN l + 1))) && decide (digN l + 1 + digN (l.drop (digN l + 1)) = l.length) && decide (digN l + digN (l.drop (digN l + 1)) ≤ 15)

set_option maxHeartbeats 1000000 in
theorem number_any (s : ByteArray) (w : World) (hs : s.size ≤ 140737488355328) : Calls Tryz.prog 60 #[.string s] w fun e w' => e = .returned (.bool (numB s.data.toList)) ∧ w = w' := by
  obtain ⟨n, hn⟩ : ∃ n, digN s.data.toList = n := ⟨_, rfl⟩
  have hns : n ≤ s.size := hn ▸ digN_le' s
  have HD := fun W => Lib.hid (digits_any s W (by unfold maxLen; omega))
  rw [hn] at HD
  have hnI : (n : Int) ≤ s.size := by omega
  have hl : s.data.toList.length = s.size := (Lib.size_eq s).symm
  by_cases h0 : n = 0
  · have HT : Hid (numB s.data.toList = false) := by show numB _ = _; rw [numB, hn, if_pos (.inl h0)]
    clear hn hns hl
    subst h0
    go_enter Tryz.func60, Tryz.ntmps60
    go_wp2_with (go_at_call 89; refine ((HD _).out).mono ?_; rintro e w' ⟨rfl, rfl⟩)
    go_ret
    exact ⟨ret_bool HT.out.symm, rfl⟩
  · have hnz : ((n : Int) == 0) = false := by rw [beq_eq_false_iff_ne]; omega
    have HE := fun W => Lib.hid (needless_any (s.extract 0 n) W (by have := extract_size_le s 0 n; unfold maxLen; omega))
    rw [extract_toL, List.drop_zero, Nat.sub_zero] at HE
    have hn0 : (0 : Int) ≤ n := by omega
    cases hne : needB (s.data.toList.take n) with
    | true =>
      rw [hne] at HE
      have HT : Hid (numB s.data.toList = false) := by show numB _ = _; rw [numB, hn, if_pos (.inr hne)]
      clear hn hns hl hne
      go_enter Tryz.func60, Tryz.ntmps60
      go_wp2_with (first | (go_at_call 89; refine ((HD _).out).mono ?_; rintro e w' ⟨rfl, rfl⟩) | (go_at_call 90; refine ((HE _).out).mono ?_; rintro e w' ⟨rfl, rfl⟩))
      go_ret
      exact ⟨ret_bool HT.out.symm, rfl⟩
    | false =>
      rw [hne] at HE
      by_cases hf : n = s.size
      · have HT : Hid (numB s.data.toList = decide (n ≤ 15)) := by show numB _ = _; rw [numB, hn, if_neg (by simp [h0, hne]), if_pos (by omega)]
        have hfI : ((n : Int) == s.size) = true := by rw [beq_iff_eq]; omega
        clear hn hns hl hne hf h0
        go_enter Tryz.func60, Tryz.ntmps60
        go_wp2_with (first | (go_at_call 89; refine ((HD _).out).mono ?_; rintro e w' ⟨rfl, rfl⟩) | (go_at_call 90; refine ((HE _).out).mono ?_; rintro e w' ⟨rfl, rfl⟩))
        go_ret
        exact ⟨ret_bool (by rw [HT.out]; simp; omega), rfl⟩
      · have hlt : n < s.size := by omega
        obtain ⟨m, hm⟩ : ∃ m, digN (s.data.toList.drop (n + 1)) = m := ⟨_, rfl⟩
        have hm' : digN (s.extract (n + 1) s.size).data.toList = m := by rw [extract_toL, List.take_of_length_le (by simp)]; exact hm
        have HM := fun W => Lib.hid (digits_any (s.extract (n + 1) s.size) W (by have := extract_size_le s (n + 1) s.size; unfold maxLen; omega))
        rw [hm'] at HM
        have hml : m ≤ s.size := by have := digN_le' (s.extract (n + 1) s.size); have := extract_size_le s (n + 1) s.size; omega
        have hfI : ((n : Int) == s.size) = false := by rw [beq_eq_false_iff_ne]; omega
        have HT : Hid (numB s.data.toList = (((s[n].toNat : Int) == 46) && decide (0 < m) && decide (n + 1 + m = s.size) && decide (n + m ≤ 15))) := by
          show numB _ = _
          rw [numB, hn, if_neg (by simp [h0, hne]), if_neg (by omega), hm, hl]
          have : s.data.toList[n]? = some s[n] := by rw [List.getElem?_eq_getElem (by omega)]; rfl
          rw [this]
          rfl
        have hltI : (n : Int) + 1 ≤ s.size := by omega
        have hltJ : (n : Int) < s.size := by omega
        have hw1 : IntKind.i64.wrap ((n : Int) + 1) = ((n + 1 : Nat) : Int) := by rw [IntKind.wrap_i64]; omega
        have hw2 : IntKind.i64.wrap (((n + 1 : Nat) : Int) + m) = ((n + 1 + m : Nat) : Int) := by rw [IntKind.wrap_i64]; omega
        have hw3 : IntKind.i64.wrap ((n : Int) + m) = ((n + m : Nat) : Int) := by rw [IntKind.wrap_i64]; omega
        have hk0 : (0 : Int) ≤ ((n + 1 : Nat) : Int) := by omega
        have hk1 : ((n + 1 : Nat) : Int) ≤ s.size := by omega
        clear hn hns hl hne hf hm hm'
        cases c1 : ((s[n].toNat : Int) == 46)
        all_goals
          go_enter Tryz.func60, Tryz.ntmps60
          go_wp2_with (first | (go_at_call 89; first | (with_reducible refine ((HM _).out).mono ?_; rintro e w' ⟨rfl, rfl⟩) | (with_reducible refine ((HD _).out).mono ?_; rintro e w' ⟨rfl, rfl⟩)) | (go_at_call 90; refine ((HE _).out).mono ?_; rintro e w' ⟨rfl, rfl⟩))
          all_goals
            go_ret
            refine ⟨ret_bool ?_, rfl⟩
            rw [HT.out, c1]
            clear HT HM HE HD hw1 hw2 hw3
            first
              | rfl
              | (simp; done)
              | (simp; intros; omega)
              | (rw [Bool.eq_iff_iff]; simp; omega)
end
section
/-! ## LexS -/
open Go.RowKit

def decN (l : List UInt8) : Nat := l.foldl (fun v c => 10 * v + (c.toNat - 48)) 0
def unitN (c : Nat) : Nat := if c = 115 then 1 else if c = 109 then 60 else if c = 104 then 3600 else if c = 100 then 86400 else 0
def spanU (v u : Nat) : Nat := if 2147483648 ≤ v * u then 0 else v * u
def unitAt : Option UInt8 → Nat
  | some c => unitN c.toNat
  | none => 0
def nought : Option UInt8 → Bool
  | some c => (c.toNat : Int) == 48
  | none => false
def spanN (l : List UInt8) : Nat :=
  if digN l = 0 ∨ 10 < digN l ∨ nought l.head? = true ∨ digN l + 1 ≠ l.length then 0 else spanU (decN (l.take (digN l))) (unitAt l[digN l]?)

theorem take_at {s : ByteArray} {k : Nat} (h : k < s.size) : s.data.toList.take (k + 1) = s.data.toList.take k ++ [s[k]] := by
  have h' : k < s.data.toList.length := by rw [← Lib.size_eq]; exact h
  rw [List.take_add_one, List.getElem?_eq_getElem h']
  rfl
theorem dec_step {s : ByteArray} {k : Nat} (h : k < s.size) : decN (s.data.toList.take (k + 1)) = 10 * decN (s.data.toList.take k) + (s[k].toNat - 48) := by
  rw [take_at h, decN, List.foldl_append]; rfl
theorem take_digs : ∀ (l : List UInt8), ∀ c ∈ l.take (digN l), dchar c = true
  | [], _, h => by simp at h
  | x :: r, c, h => by
    cases hx : dchar x with
    | true =>
      have : digN (x :: r) = digN r + 1 := by rw [digN, List.takeWhile_cons, if_pos hx, List.length_cons]; rfl
      rw [this, List.take_succ_cons] at h
      rcases List.mem_cons.1 h with rfl | h
      · exact hx
      · exact take_digs r c h
    | false =>
      have : digN (x :: r) = 0 := by rw [digN, List.takeWhile_cons, if_neg (by simp [hx])]; rfl
      rw [this] at h
      simp at h
theorem dig_at {s : ByteArray} {k n : Nat} (hn : digN s.data.toList = n) (h : k < n) (hs : k < s.size) : 48 ≤ (s[k].toNat : Int) ∧ (s[k].toNat : Int) ≤ 57 := by
  refine dchar_yes (take_digs s.data.toList _ ?_)
  rw [hn, List.mem_iff_getElem?]
  exact ⟨k, by rw [List.getElem?_take, if_pos h, List.getElem?_eq_getElem (by rw [← Lib.size_eq]; exact hs)]; rfl⟩

set_option maxHeartbeats 2000000 in
theorem span_any (s : ByteArray) (w : World) (hs : s.size ≤ 4096) : Calls Tryz.prog 59 #[.string s] w fun e w' => e = .returned (.int .i64 (spanN s.data.toList)) ∧ w = w' := by
  obtain ⟨n, hn⟩ : ∃ n, digN s.data.toList = n := ⟨_, rfl⟩
  have hns : n ≤ s.size := hn ▸ digN_le' s
  have HD := fun W => Lib.hid (digits_any s W (by unfold maxLen; omega))
  rw [hn] at HD
  have hl : s.data.toList.length = s.size := (Lib.size_eq s).symm
  have hn00 : (0 : Int) ≤ n := by omega
  by_cases h0 : n = 0
  · have HT : Hid (spanN s.data.toList = 0) := by show spanN _ = _; rw [spanN, hn, if_pos (.inl h0)]
    clear hn hns hl hn00
    subst h0
    go_enter Tryz.func59, Tryz.ntmps59
    go_wp2_with (go_at_call 89; refine ((HD _).out).mono ?_; rintro e w' ⟨rfl, rfl⟩)
    go_ret
    exact ⟨ret_int (by rw [HT.out]; rfl), rfl⟩
  have hnz : ((n : Int) == 0) = false := by rw [beq_eq_false_iff_ne]; omega
  by_cases h1 : 10 < n
  · have HT : Hid (spanN s.data.toList = 0) := by show spanN _ = _; rw [spanN, hn, if_pos (.inr (.inl h1))]
    have hI : (10 : Int) < n := by omega
    clear hn hns hl
    go_enter Tryz.func59, Tryz.ntmps59
    go_wp2_with (go_at_call 89; refine ((HD _).out).mono ?_; rintro e w' ⟨rfl, rfl⟩)
    go_ret
    exact ⟨ret_int (by rw [HT.out]; rfl), rfl⟩
  have hI : (n : Int) ≤ 10 := by omega
  have hz : 0 < s.size := by omega
  have hzI : (0 : Int) < s.size := by omega
  cases c0 : ((s[0].toNat : Int) == 48) with
  | true =>
    have HT : Hid (spanN s.data.toList = 0) := by show spanN _ = _; rw [spanN, hn, if_pos (.inr (.inr (.inl (by rw [head_at hz]; exact c0))))]
    clear hn hns hl
    go_enter Tryz.func59, Tryz.ntmps59
    go_wp2_with (go_at_call 89; refine ((HD _).out).mono ?_; rintro e w' ⟨rfl, rfl⟩)
    go_ret
    exact ⟨ret_int (by rw [HT.out]; rfl), rfl⟩
  | false =>
  by_cases h2 : n + 1 = s.size
  · have hlt : n < s.size := by omega
    have HT : Hid (spanN s.data.toList = spanU (decN (s.data.toList.take n)) (unitN s[n].toNat)) := by
      show spanN _ = _
      have h3 : n < s.data.toList.length := by omega
      rw [spanN, hn, if_neg (by rw [head_at hz]; simp [nought, c0]; omega), List.getElem?_eq_getElem h3]
      rfl
    have hw1 : IntKind.i64.wrap ((n : Int) + 1) = ((n + 1 : Nat) : Int) := by rw [IntKind.wrap_i64]; omega
    have hf : ((n : Int) + 1 != s.size) = false := by rw [bne_eq_false_iff_eq]; omega
    have HN := Lib.hid hn
    have hltI : (n : Int) < s.size := by omega
    clear hn hl
    go_enter Tryz.func59, Tryz.ntmps59
    go_wp2_with (go_at_call 89; refine ((HD _).out).mono ?_; rintro e w' ⟨rfl, rfl⟩)
    go_loop [4, 5] (fun v i => ∃ (k V : Nat), k ≤ n ∧ i = .int .i64 k ∧ v = .int .i64 V ∧ Hid (decN (s.data.toList.take k) = V) ∧ V < 10 ^ k) (fun _ i => n - (intOf i).toNat)
    case atStart => exact ⟨0, 0, by omega, rfl, rfl, by show _ = _; rfl, by simp⟩
    case round =>
      obtain ⟨k, V, hk, rfl, rfl, HV, hV⟩ := hrel
      by_cases hkn : k < n
      · have hks : k < s.size := by omega
        have hkI : (k : Int) < n := by omega
        have hksI : (k : Int) < s.size := by omega
        have hk0 : (0 : Int) ≤ k := by omega
        obtain ⟨d1, d2⟩ := dig_at HN.out hkn hks
        have hp : 10 ^ k ≤ 10 ^ 9 := Nat.pow_le_pow_right (by omega) (by omega)
        have hp2 : 10 ^ (k + 1) = 10 * 10 ^ k := by rw [Nat.pow_succ, Nat.mul_comm]
        have hV1 : (V : Int) ≤ 999999999 := by omega
        have hV0 : (0 : Int) ≤ V := by omega
        have HV2 := Lib.hid ((dec_step hks).trans (by rw [HV.out]))
        have HB : Hid (10 * V + (s[k].toNat - 48) < 10 ^ (k + 1)) := by show _ < _; omega
        clear HV hV hp hp2
        go_wp2
        go_round
        case rel => exact ⟨k + 1, 10 * V + (s[k].toNat - 48), by omega, by go_num, by congr 1; omega, HV2, HB.out⟩
        case measure => simp [intOf]; omega
      · have hke : k = n := by omega
        subst hke
        have hp : 10 ^ k ≤ 10 ^ 10 := Nat.pow_le_pow_right (by omega) (by omega)
        have hV1 : (V : Int) ≤ 9999999999 := by omega
        have hV0 : (0 : Int) ≤ V := by omega
        have hnk : ¬ (k : Int) < k := by omega
        rw [HV.out] at HT
        have hu := u8_le s[k]
        have hu0 : (0 : Int) ≤ s[k].toNat := by omega
        have huI : (s[k].toNat : Int) ≤ 255 := by omega
        clear HV hV hp hn00 h1 h2 h0
        by_cases u115 : s[k].toNat = 115
        · have e115 : ((s[k].toNat : Int) == 115) = true := by rw [u115]; rfl
          have HT2 := Lib.hid (HT.out.trans (by rw [u115]; rfl : _ = spanU V 1))
          clear HT u115
          by_cases hb : (2147483648 : Int) ≤ (V : Int)
          · have HT3 : Hid (spanN s.data.toList = 0) := HT2.out.trans (by rw [spanU, if_pos (by omega)])
            go_wp2
            go_ret
            exact ⟨ret_int (by rw [HT3.out]; rfl), rfl⟩
          · have HT3 : Hid (spanN s.data.toList = V * 1) := HT2.out.trans (by rw [spanU, if_neg (by omega)])
            go_wp2
            go_ret
            exact ⟨ret_int (by rw [HT3.out]; simp), rfl⟩
        have f115 : ((s[k].toNat : Int) == 115) = false := by rw [beq_eq_false_iff_ne]; omega
        by_cases u109 : s[k].toNat = 109
        · have e109 : ((s[k].toNat : Int) == 109) = true := by rw [u109]; rfl
          have HT2 := Lib.hid (HT.out.trans (by rw [u109]; rfl : _ = spanU V 60))
          clear HT u109
          by_cases hb : (2147483648 : Int) ≤ (V : Int) * 60
          · have HT3 : Hid (spanN s.data.toList = 0) := HT2.out.trans (by rw [spanU, if_pos (by omega)])
            go_wp2
            go_ret
            exact ⟨ret_int (by rw [HT3.out]; rfl), rfl⟩
          · have HT3 : Hid (spanN s.data.toList = V * 60) := HT2.out.trans (by rw [spanU, if_neg (by omega)])
            go_wp2
            go_ret
            exact ⟨ret_int (by rw [HT3.out]; simp), rfl⟩
        have f109 : ((s[k].toNat : Int) == 109) = false := by rw [beq_eq_false_iff_ne]; omega
        by_cases u104 : s[k].toNat = 104
        · have e104 : ((s[k].toNat : Int) == 104) = true := by rw [u104]; rfl
          have HT2 := Lib.hid (HT.out.trans (by rw [u104]; rfl : _ = spanU V 3600))
          clear HT u104
          by_cases hb : (2147483648 : Int) ≤ (V : Int) * 3600
          · have HT3 : Hid (spanN s.data.toList = 0) := HT2.out.trans (by rw [spanU, if_pos (by omega)])
            go_wp2
            go_ret
            exact ⟨ret_int (by rw [HT3.out]; rfl), rfl⟩
          · have HT3 : Hid (spanN s.data.toList = V * 3600) := HT2.out.trans (by rw [spanU, if_neg (by omega)])
            go_wp2
            go_ret
            exact ⟨ret_int (by rw [HT3.out]; simp), rfl⟩
        have f104 : ((s[k].toNat : Int) == 104) = false := by rw [beq_eq_false_iff_ne]; omega
        by_cases u100 : s[k].toNat = 100
        · have e100 : ((s[k].toNat : Int) == 100) = true := by rw [u100]; rfl
          have HT2 := Lib.hid (HT.out.trans (by rw [u100]; rfl : _ = spanU V 86400))
          clear HT u100
          by_cases hb : (2147483648 : Int) ≤ (V : Int) * 86400
          · have HT3 : Hid (spanN s.data.toList = 0) := HT2.out.trans (by rw [spanU, if_pos (by omega)])
            go_wp2
            go_ret
            exact ⟨ret_int (by rw [HT3.out]; rfl), rfl⟩
          · have HT3 : Hid (spanN s.data.toList = V * 86400) := HT2.out.trans (by rw [spanU, if_neg (by omega)])
            go_wp2
            go_ret
            exact ⟨ret_int (by rw [HT3.out]; simp), rfl⟩
        have f100 : ((s[k].toNat : Int) == 100) = false := by rw [beq_eq_false_iff_ne]; omega
        have HT3 : Hid (spanN s.data.toList = 0) := HT.out.trans (by rw [unitN, if_neg u115, if_neg u109, if_neg u104, if_neg u100]; rfl)
        clear HT u115 u109 u104 u100
        go_wp2
        go_ret
        exact ⟨ret_int (by rw [HT3.out]; rfl), rfl⟩
  · have HT : Hid (spanN s.data.toList = 0) := by show spanN _ = _; rw [spanN, hn, if_pos (.inr (.inr (.inr (by rw [hl]; exact h2))))]
    have hw1 : IntKind.i64.wrap ((n : Int) + 1) = ((n + 1 : Nat) : Int) := by rw [IntKind.wrap_i64]; omega
    have hf : ((n : Int) + 1 != s.size) = true := by rw [bne_iff_ne]; omega
    clear hn hl
    go_enter Tryz.func59, Tryz.ntmps59
    go_wp2_with (go_at_call 89; refine ((HD _).out).mono ?_; rintro e w' ⟨rfl, rfl⟩)
    go_ret
    exact ⟨ret_int (by rw [HT.out]; rfl), rfl⟩
end
section
/-! ## LexG -/
open Go.RowKit

def sign1 (c : UInt8) : Bool := decide (0 ≤ Lib.indexByte [60, 62, 61, 43, 45, 42, 47, 40, 41, 123, 125, 91, 93, 44] c)
def sign2 (x : List UInt8) : Bool := (x == [61, 61]) || (x == [33, 61]) || (x == [60, 61]) || (x == [62, 61]) || (x == [61, 126]) || (x == [33, 126])
def signN (l : List UInt8) : Nat := if decide (1 < l.length) && sign2 (l.take 2) then 2 else if l.head?.any sign1 then 1 else 0
def signS (s : ByteArray) : ByteArray := ⟨(s.data.toList.take (signN s.data.toList)).toArray⟩
theorem extract_upto' (s : ByteArray) (k : Nat) : s.extract 0 k = ⟨(s.data.toList.take k).toArray⟩ := by
  apply ByteArray.ext; apply Array.toList_inj.1; rw [extract_toL]; rfl
theorem toList_data' (s : ByteArray) : s.toList = s.data.toList := ByteArray.toList_eq s
theorem ret_string {a b : ByteArray} (h : a = b) : Ending.returned (.string a) = .returned (.string b) := by rw [h]
theorem signS_2 {s : ByteArray} (h1 : 1 < s.size) (h : sign2 (s.extract 0 2).toList = true) : signS s = s.extract 0 2 := by
  rw [signS, signN, if_pos, extract_upto']
  rw [toList_data', extract_toL] at h
  rw [← Lib.size_eq, decide_eq_true h1, Bool.true_and]
  exact h
theorem signN_1 {s : ByteArray} (h0 : 0 < s.size) (h : ¬ 1 < s.size ∨ sign2 (s.extract 0 2).toList = false) : signN s.data.toList = if sign1 s[0] = true then 1 else 0 := by
  rw [signN, if_neg, head_at h0, Option.any_some]
  rw [← Lib.size_eq]
  rcases h with h | h
  · simp [h]
  · rw [toList_data', extract_toL] at h
    have : sign2 (s.data.toList.take 2) = false := h
    simp [this]
theorem u8_back (c : UInt8) : ((c.toNat : Int)).toNat.toUInt8 = c := by simp
set_option maxRecDepth 100000 in
set_option maxHeartbeats 1000000 in
theorem index1_any (s : ByteArray) (c : UInt8) (w : World) : Calls Tryz.prog 118 #[.string s, .int .u8 (c.toNat : Int)] w fun e w' => e = .returned (.int .i64 (Lib.indexByte s.data.toList c)) ∧ w = w' := by
  go_enter Tryz.func118, Tryz.ntmps118
  go_wp2
  rw [run_callFunc_extern Tryz.func133 (by kernel_rfl) (by kernel_rfl) (by kernel_rfl) (e := Extern.BytealgIndexByte.indexByte) (by kernel_rfl), Lib.run_indexByteString]
  simp only [Result.andThen]
  rw [Oper.upon_value, u8_back]
  go_wp2
  go_ret
  exact ⟨rfl, rfl⟩
set_option maxRecDepth 100000 in
set_option maxHeartbeats 1000000 in
theorem index2_any (s : ByteArray) (c : UInt8) (w : World) : Calls Tryz.prog 88 #[.string s, .int .u8 (c.toNat : Int)] w fun e w' => e = .returned (.int .i64 (Lib.indexByte s.data.toList c)) ∧ w = w' := by
  have H := fun W => Lib.hid (index1_any s c W)
  go_enter Tryz.func88, Tryz.ntmps88
  go_wp2_with (go_at_call 118; refine ((H _).out).mono ?_; rintro e w' ⟨rfl, rfl⟩)
  go_ret
  exact ⟨rfl, rfl⟩
set_option maxRecDepth 100000 in
set_option maxHeartbeats 2000000 in
theorem sign_any (s : ByteArray) (w : World) (h0 : 0 < s.size) : Calls Tryz.prog 58 #[.string s] w fun e w' => e = .returned (.string (signS s)) ∧ w = w' := by
  have h0I : (0 : Int) < s.size := by omega
  have h1J : (1 : Int) ≤ s.size := by omega
  have HX := fun W => Lib.hid (index2_any ⟨#[60, 62, 61, 43, 45, 42, 47, 40, 41, 123, 125, 91, 93, 44]⟩ s[0] W)
  have HS : Hid (sign1 s[0] = decide ((0 : Int) ≤ Lib.indexByte [60, 62, 61, 43, 45, 42, 47, 40, 41, 123, 125, 91, 93, 44] s[0])) := rfl
  by_cases h1 : 1 < s.size
  · have h1I : (1 : Int) < s.size := by omega
    have h2I : (2 : Int) ≤ s.size := by omega
    cases e0 : ((s.extract 0 2).toList == [61, 61]) with
    | true =>
      have HT : Hid (signS s = s.extract 0 2) := signS_2 h1 (by simp [sign2, e0])
      clear HX HS
      go_enter Tryz.func58, Tryz.ntmps58
      go_wp2_with fail
      go_ret
      exact ⟨ret_string HT.out.symm, rfl⟩
    | false =>
    cases e1 : ((s.extract 0 2).toList == [33, 61]) with
    | true =>
      have HT : Hid (signS s = s.extract 0 2) := signS_2 h1 (by simp [sign2, e1])
      clear HX HS
      go_enter Tryz.func58, Tryz.ntmps58
      go_wp2_with fail
      go_ret
      exact ⟨ret_string HT.out.symm, rfl⟩
    | false =>
    cases e2 : ((s.extract 0 2).toList == [60, 61]) with
    | true =>
      have HT : Hid (signS s = s.extract 0 2) := signS_2 h1 (by simp [sign2, e2])
      clear HX HS
      go_enter Tryz.func58, Tryz.ntmps58
      go_wp2_with fail
      go_ret
      exact ⟨ret_string HT.out.symm, rfl⟩
    | false =>
    cases e3 : ((s.extract 0 2).toList == [62, 61]) with
    | true =>
      have HT : Hid (signS s = s.extract 0 2) := signS_2 h1 (by simp [sign2, e3])
      clear HX HS
      go_enter Tryz.func58, Tryz.ntmps58
      go_wp2_with fail
      go_ret
      exact ⟨ret_string HT.out.symm, rfl⟩
    | false =>
    cases e4 : ((s.extract 0 2).toList == [61, 126]) with
    | true =>
      have HT : Hid (signS s = s.extract 0 2) := signS_2 h1 (by simp [sign2, e4])
      clear HX HS
      go_enter Tryz.func58, Tryz.ntmps58
      go_wp2_with fail
      go_ret
      exact ⟨ret_string HT.out.symm, rfl⟩
    | false =>
    cases e5 : ((s.extract 0 2).toList == [33, 126]) with
    | true =>
      have HT : Hid (signS s = s.extract 0 2) := signS_2 h1 (by simp [sign2, e5])
      clear HX HS
      go_enter Tryz.func58, Tryz.ntmps58
      go_wp2_with fail
      go_ret
      exact ⟨ret_string HT.out.symm, rfl⟩
    | false =>
    have HN : Hid (signN s.data.toList = if sign1 s[0] = true then 1 else 0) := signN_1 h0 (.inr (by simp only [sign2, e0, e1, e2, e3, e4, e5]; rfl))
    rw [HS.out] at HN
    by_cases hx : (0 : Int) ≤ Lib.indexByte [60, 62, 61, 43, 45, 42, 47, 40, 41, 123, 125, 91, 93, 44] s[0]
    · have HT : Hid (signS s = s.extract 0 1) := by show signS s = _; rw [signS, HN.out, if_pos (decide_eq_true hx), extract_upto']
      clear HS HN
      go_enter Tryz.func58, Tryz.ntmps58
      go_wp2_with (go_at_call 88; refine ((HX _).out).mono ?_; rintro e w' ⟨rfl, rfl⟩)
      go_ret
      exact ⟨ret_string HT.out.symm, rfl⟩
    · have HT : Hid (signS s = ⟨#[]⟩) := by show signS s = _; rw [signS, HN.out, if_neg (by simpa using hx)]; rfl
      clear HS HN
      go_enter Tryz.func58, Tryz.ntmps58
      go_wp2_with (go_at_call 88; refine ((HX _).out).mono ?_; rintro e w' ⟨rfl, rfl⟩)
      go_ret
      exact ⟨ret_string HT.out.symm, rfl⟩
  · have h1I : ¬ (1 : Int) < s.size := by omega
    have HN : Hid (signN s.data.toList = if sign1 s[0] = true then 1 else 0) := signN_1 h0 (.inl h1)
    rw [HS.out] at HN
    by_cases hx : (0 : Int) ≤ Lib.indexByte [60, 62, 61, 43, 45, 42, 47, 40, 41, 123, 125, 91, 93, 44] s[0]
    · have HT : Hid (signS s = s.extract 0 1) := by show signS s = _; rw [signS, HN.out, if_pos (decide_eq_true hx), extract_upto']
      clear HS HN
      go_enter Tryz.func58, Tryz.ntmps58
      go_wp2_with (go_at_call 88; refine ((HX _).out).mono ?_; rintro e w' ⟨rfl, rfl⟩)
      go_ret
      exact ⟨ret_string HT.out.symm, rfl⟩
    · have HT : Hid (signS s = ⟨#[]⟩) := by show signS s = _; rw [signS, HN.out, if_neg (by simpa using hx)]; rfl
      clear HS HN
      go_enter Tryz.func58, Tryz.ntmps58
      go_wp2_with (go_at_call 88; refine ((HX _).out).mono ?_; rintro e w' ⟨rfl, rfl⟩)
      go_ret
      exact ⟨ret_string HT.out.symm, rfl⟩
end
section
/-! ## LexSpec -/
open Go.RowKit

structure Tok where
  kind : Int
  at_ : Nat
  text : ByteArray
  span : Nat
def tokC (t : Tok) : List Value := [.int .i64 t.kind, .int .i64 t.at_, .string t.text, .int .i64 t.span]
def toksC (ts : List Tok) : List (List Value) := ts.map tokC
theorem toksC_len (ts : List Tok) : (toksC ts).length = ts.length := by simp [toksC]
theorem toksC_sz (ts : List Tok) : ∀ x ∈ toksC ts, x.length = 4 := by
  intro x hx
  obtain ⟨t, _, rfl⟩ := List.mem_map.1 hx
  rfl

inductive LexR where
  | ok (ts : List Tok)
  | err (p : Nat) (e : Int)
def LexR.pre (ds : List Tok) : LexR → LexR
  | .ok ts => .ok (ds ++ ts)
  | .err p e => .err p e

def blankB (c : UInt8) : Bool := c.toNat == 32 || c.toNat == 9 || c.toNat == 13 || c.toNat == 10
def numC (c : UInt8) : Bool := dchar c || (letB c && !(c.toNat == 58)) || c.toNat == 46
def wordC (c : UInt8) : Bool := letB c || dchar c
def runN (p : UInt8 → Bool) (l : List UInt8) : Nat := (l.takeWhile p).length
/-- What a text in quotes says, and how many bytes it has from here to behind its end; the flag: behind a backslash. -/
def textS : Bool → List UInt8 → Option (List UInt8 × Nat)
  | _, [] => none
  | false, c :: r => if c.toNat < 32 then none else if c.toNat = 34 then some ([], 1) else if c.toNat = 92 then (textS true r).map fun x => (x.1, x.2 + 1) else (textS false r).map fun x => (c :: x.1, x.2 + 1)
  | true, c :: r => if c.toNat = 34 ∨ c.toNat = 92 then (textS false r).map fun x => (c :: x.1, x.2 + 1) else if c.toNat = 110 then (textS false r).map fun x => (10 :: x.1, x.2 + 1) else none

def mkB (l : List UInt8) : ByteArray := ⟨l.toArray⟩
/-- The next step at a place where a text goes on: what it adds, and how many bytes it takes. -/
inductive OneR where
  | ok (ts : List Tok) (n : Nat)
  | err (p : Nat) (e : Int)
def numTok (at_ : Nat) (x : List UInt8) : OneR :=
  if 0 < spanN x then .ok [⟨2, at_, mkB x, spanN x⟩] x.length else if numB x then .ok [⟨1, at_, mkB x, 0⟩] x.length else .err at_ 172
def textTok (at_ : Nat) (k : Nat) (acc : List UInt8) : Option (List UInt8 × Nat) → OneR
  | some (x, n) => .ok [⟨4, at_, mkB (acc ++ x), 0⟩] (k + n)
  | none => .err at_ 173
def oneL (at_ : Nat) : List UInt8 → OneR
  | [] => .err at_ 0
  | c :: r =>
    if blankB c then .ok [] 1
    else if dchar c then numTok at_ ((c :: r).takeWhile numC)
    else if letB c then .ok [⟨3, at_, mkB ((c :: r).takeWhile wordC), 0⟩] (runN wordC (c :: r))
    else if c.toNat = 34 then textTok at_ 1 [] (textS false r)
    else if 0 < signN (c :: r) then .ok [⟨5, at_, mkB ((c :: r).take (signN (c :: r))), 0⟩] (signN (c :: r))
    else .err at_ 171
def lexF : Nat → Nat → List UInt8 → LexR
  | _, at_, [] => .ok [⟨0, at_, mkB [], 0⟩]
  | 0, at_, _ :: _ => .err at_ 0
  | f + 1, at_, c :: r => match oneL at_ (c :: r) with
    | .ok ts n => (lexF f (at_ + n) ((c :: r).drop n)).pre ts
    | .err p e => .err p e
def lexL (at_ : Nat) (l : List UInt8) : LexR := lexF l.length at_ l
def lexR (s : ByteArray) : LexR := if 4096 < s.size then .err 0 170 else lexL 0 s.data.toList

theorem dchar_numC {c : UInt8} (h : dchar c = true) : numC c = true := by simp [numC, h]
theorem letB_wordC {c : UInt8} (h : letB c = true) : wordC c = true := by simp [wordC, h]
theorem signN_le (l : List UInt8) : signN l ≤ l.length := by
  rw [signN]
  split
  · rename_i h
    simp at h
    omega
  · split
    · rename_i h
      cases l with
      | nil => simp at h
      | cons => simp
    · omega
theorem textS_le : ∀ (l : List UInt8) (b : Bool) (x : List UInt8) (n : Nat), textS b l = some (x, n) → 1 ≤ n ∧ n ≤ l.length
  | [], b, x, n, h => by cases b <;> simp [textS] at h
  | c :: r, false, x, n, h => by
    rw [textS] at h
    split at h
    · cases h
    · split at h
      · injection h with h; injection h with h1 h2; subst h2; simp
      · split at h
        all_goals
          simp only [Option.map_eq_some_iff] at h
          obtain ⟨⟨y, m⟩, hy, he⟩ := h
          injection he with h1 h2
          have := textS_le r _ y m hy
          simp at h2 ⊢; omega
  | c :: r, true, x, n, h => by
    rw [textS] at h
    split at h
    · simp only [Option.map_eq_some_iff] at h
      obtain ⟨⟨y, m⟩, hy, he⟩ := h
      injection he with h1 h2
      have := textS_le r _ y m hy
      simp at h2 ⊢; omega
    · split at h
      · simp only [Option.map_eq_some_iff] at h
        obtain ⟨⟨y, m⟩, hy, he⟩ := h
        injection he with h1 h2
        have := textS_le r _ y m hy
        simp at h2 ⊢; omega
      · cases h
theorem oneL_n {at_ : Nat} {l : List UInt8} {ts : List Tok} {n : Nat} (h : oneL at_ l = .ok ts n) : 1 ≤ n ∧ n ≤ l.length := by
  cases l with
  | nil => simp [oneL] at h
  | cons c r =>
    rw [oneL] at h
    by_cases h1 : blankB c = true
    · rw [if_pos h1] at h; injection h with _ h; subst h; simp
    rw [if_neg h1] at h
    by_cases h2 : dchar c = true
    · rw [if_pos h2, numTok] at h
      have hx : 1 ≤ ((c :: r).takeWhile numC).length := by rw [List.takeWhile_cons, if_pos (dchar_numC h2)]; simp
      have hy := (List.takeWhile_sublist numC (l := c :: r)).length_le
      split at h
      · injection h with _ h; omega
      · split at h
        · injection h with _ h; omega
        · cases h
    rw [if_neg h2] at h
    by_cases h3 : letB c = true
    · rw [if_pos h3] at h
      have hx : 1 ≤ runN wordC (c :: r) := by rw [runN, List.takeWhile_cons, if_pos (letB_wordC h3)]; simp
      have hy : runN wordC (c :: r) ≤ _ := (List.takeWhile_sublist wordC (l := c :: r)).length_le
      injection h with _ h; omega
    rw [if_neg h3] at h
    by_cases h4 : c.toNat = 34
    · rw [if_pos h4] at h
      cases ht : textS false r with
      | none => rw [ht, textTok] at h; cases h
      | some x =>
        obtain ⟨x, m⟩ := x
        rw [ht, textTok] at h
        have := textS_le r _ x m ht
        injection h with _ h; simp; omega
    rw [if_neg h4] at h
    by_cases h5 : 0 < signN (c :: r)
    · rw [if_pos h5] at h
      have := signN_le (c :: r)
      injection h with _ h; omega
    · rw [if_neg h5] at h; cases h
theorem lexF_more : ∀ (f : Nat) (at_ : Nat) (l : List UInt8), l.length ≤ f → lexF f at_ l = lexL at_ l := by
  intro f
  induction f using Nat.strongRecOn with
  | _ f ih =>
    intro at_ l hl
    cases l with
    | nil => cases f <;> rfl
    | cons c r =>
      cases f with
      | zero => simp at hl
      | succ f =>
        simp only [List.length_cons] at hl
        show (match oneL at_ (c :: r) with | .ok ts n => (lexF f (at_ + n) ((c :: r).drop n)).pre ts | .err p e => LexR.err p e) = lexF (r.length + 1) at_ (c :: r)
        rw [lexF]
        cases h : oneL at_ (c :: r) with
        | err p e => rfl
        | ok ts n =>
          have hn := oneL_n h
          have hd : ((c :: r).drop n).length ≤ r.length := by rw [List.length_drop, List.length_cons]; omega
          show (lexF f (at_ + n) ((c :: r).drop n)).pre ts = (lexF r.length (at_ + n) ((c :: r).drop n)).pre ts
          rw [ih f (by omega) (at_ + n) _ (by omega)]
          by_cases hf : r.length = f
          · rw [hf, ih f (by omega) (at_ + n) _ (by omega)]
          · rw [ih r.length (by omega) (at_ + n) _ hd]
theorem lexL_nil (at_ : Nat) : lexL at_ [] = .ok [⟨0, at_, mkB [], 0⟩] := rfl
theorem lexL_cons (at_ : Nat) (c : UInt8) (r : List UInt8) : lexL at_ (c :: r) = match oneL at_ (c :: r) with
    | .ok ts n => (lexL (at_ + n) ((c :: r).drop n)).pre ts
    | .err p e => .err p e := by
  show lexF (r.length + 1) at_ (c :: r) = _
  rw [lexF]
  cases h : oneL at_ (c :: r) with
  | err p e => rfl
  | ok ts n =>
    have hn := oneL_n h
    show (lexF r.length _ _).pre ts = (lexL _ _).pre ts
    rw [lexF_more r.length _ _ (by rw [List.length_drop, List.length_cons]; omega)]
theorem pre_nil (r : LexR) : r.pre [] = r := by cases r <;> rfl
theorem pre_pre (a b : List Tok) (r : LexR) : (r.pre b).pre a = r.pre (a ++ b) := by cases r <;> simp [LexR.pre]
end
end Go.Proofs.YtakfnojiaakfpaaGreatDoor
