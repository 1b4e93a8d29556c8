/- Words for memory: a slice that reads as a list of elements of several cells each, and what keeps it. Plain lemmas, no program in sight. -/
import Derived.WalkKit
import Derived.WalkSpells
import Derived.WalkLawsBesides
import Derived.Lib.Hide
import Derived.Lib.Strings
import Derived.Deep.Draws
import Derived.Maps.AppendAt
import Derived.Deep.AppendLies
import Derived.Laws.OwnMore
import Derived.BigQuiet
import Derived.Deep.QuietTactic
namespace Go.Proofs.YtnlheomfobpcmaaGreat
open Go.RowKit

theorem ret_bool {a b : Bool} (h : a = b) : Ending.returned (.bool a) = .returned (.bool b) := by rw [h]
theorem ret_int {k : IntKind} {a b : Int} (h : a = b) : Ending.returned (.int k a) = .returned (.int k b) := by rw [h]
theorem isEmpty_no {s : ByteArray} (h : 1 ≤ s.size) : s.toList.isEmpty = false := by
  rw [Lib.toList_data]
  cases hs : s.data.toList with
  | nil => rw [Lib.size_eq, hs] at h; simp at h
  | cons => rfl
theorem isEmpty_yes {s : ByteArray} (h : ¬ 1 ≤ s.size) : s.toList.isEmpty = true := by
  rw [Lib.toList_data]
  cases hs : s.data.toList with
  | nil => rfl
  | cons => rw [Lib.size_eq, hs] at h; simp at h
theorem toList_inj {a b : ByteArray} : a.toList = b.toList ↔ a = b :=
  ⟨fun h => WideShapes.bytes_inj (by rwa [Lib.toList_data, Lib.toList_data] at h), fun h => by rw [h]⟩
theorem beq_toList {a b : ByteArray} : (a.toList == b.toList) = decide (a = b) := by
  rw [Bool.eq_iff_iff]; simp [toList_inj]
theorem below_drewN {B : Nat} {a w : World} (h : Below B a w) (n : Nat) : Below B a (w.drewN n) := ⟨h.os, h.tape, h.output, h.size, h.block⟩
theorem below_le {B : Nat} {a w : World} (h : Below B a w) : a.heap.size ≤ w.heap.size := h.size

/-- A quiet call behind draws. -/
theorem quiet_add {P : Program} {f : FuncId} {args : Array Value} {w : World} {a n : Nat} {v : Value}
    (h : Calls P f args (w.drewN (a + n)) fun e w' => e = .returned v ∧ ∃ m, w' = (w.drewN (a + n)).drewN m) :
    Calls P f args (w.drewN (a + n)) fun e w'' => e = .returned v ∧ ∃ m, w'' = w.drewN (a + m) :=
  h.mono fun _ _ ⟨he, m, hm⟩ => ⟨he, n + m, by rw [hm, World.drewN_drewN, Nat.add_assoc]⟩
theorem quiet_same {P : Program} {f : FuncId} {args : Array Value} {w : World} {a n : Nat} {v : Value}
    (h : Calls P f args (w.drewN (a + n)) fun e w' => e = .returned v ∧ w.drewN (a + n) = w') :
    Calls P f args (w.drewN (a + n)) fun e w'' => e = .returned v ∧ ∃ m, w'' = w.drewN (a + m) :=
  h.mono fun _ _ ⟨he, hm⟩ => ⟨he, n, hm.symm⟩
theorem quiet_same1 {P : Program} {f : FuncId} {args : Array Value} {w : World} {n : Nat} {v : Value}
    (h : Calls P f args (w.drewN n) fun e w' => e = .returned v ∧ w.drewN n = w') :
    Calls P f args (w.drewN n) fun e w'' => e = .returned v ∧ ∃ m, w'' = w.drewN m :=
  h.mono fun _ _ ⟨he, hm⟩ => ⟨he, n, hm.symm⟩

/-- Read at A: the elements xs, each of sz cells, in a block below B. -/
def Rd (w : World) (B sz : Nat) (A : Option Addr) (xs : List (List Value)) : Prop :=
  (∀ x ∈ xs, x.length = sz) ∧ (xs ≠ [] → ∃ b o, A = some ⟨b, o, none⟩ ∧ b < B ∧ ∀ k x j v, xs[k]? = some x → x[j]? = some v → w.cell? ⟨b, o + k * sz + j, none⟩ = some v)

section
variable {w w' : World} {B B' sz n : Nat} {A : Option Addr} {xs : List (List Value)}
theorem Rd.nil_ : Rd w B sz A [] := ⟨by simp, fun h => absurd rfl h⟩
theorem Rd.keep (h : Rd w B sz A xs) (hk : ∀ b o, b < B → w'.cell? ⟨b, o, none⟩ = w.cell? ⟨b, o, none⟩) : Rd w' B sz A xs :=
  ⟨h.1, fun hn => by
    obtain ⟨b, o, e, hb, hc⟩ := h.2 hn
    exact ⟨b, o, e, hb, fun k x j v hx hv => (hk _ _ hb).trans (hc k x j v hx hv)⟩⟩
theorem Rd.more (h : Rd w B sz A xs) (hB : B ≤ B') : Rd w B' sz A xs :=
  ⟨h.1, fun hn => by
    obtain ⟨b, o, e, hb, hc⟩ := h.2 hn
    exact ⟨b, o, e, by omega, hc⟩⟩
theorem Rd.below (h : Rd w B sz A xs) (hb : Below B w w') : Rd w' B sz A xs := h.keep fun _ _ hp => hb.cell (p := ⟨_, _, none⟩) hp
theorem Rd.drewN (h : Rd w B sz A xs) (n : Nat) : Rd (w.drewN n) B sz A xs := h
theorem Rd.drew (h : Rd w B sz A xs) : Rd w.drew B sz A xs := h
theorem Rd.grown {row : Option Nat} (h : Rd w B sz A xs) (hg : w.grownBy w' row) (hB : B ≤ w.heap.size) (hr : ∀ g, row = some g → B ≤ g) : Rd w' B sz A xs :=
  h.keep fun b o hp => World.cell?_of_block (hg.block b (by omega) (fun e => by have := hr _ e.symm; omega))
theorem Rd.at1 {k : Nat} {v0 : Value} (h : Rd w B 1 A xs) (hx : xs[k]? = some [v0]) : ∃ b o, A = some ⟨b, o, none⟩ ∧ b < B ∧ w.cell? ⟨b, o + k, none⟩ = some v0 := by
  obtain ⟨b, o, e, hb, hc⟩ := h.2 (by rintro rfl; simp at hx)
  exact ⟨b, o, e, hb, by simpa using hc k _ 0 v0 hx rfl⟩
theorem Rd.at2 {k : Nat} {v0 v1 : Value} (h : Rd w B 2 A xs) (hx : xs[k]? = some [v0, v1]) : ∃ b o, A = some ⟨b, o, none⟩ ∧ b < B ∧ w.cell? ⟨b, o + k * 2, none⟩ = some v0 ∧ w.cell? ⟨b, o + k * 2 + 1, none⟩ = some v1 := by
  obtain ⟨b, o, e, hb, hc⟩ := h.2 (by rintro rfl; simp at hx)
  exact ⟨b, o, e, hb, by simpa using hc k _ 0 v0 hx rfl, by simpa using hc k _ 1 v1 hx rfl⟩
theorem Rd.at3 {k : Nat} {v0 v1 v2 : Value} (h : Rd w B 3 A xs) (hx : xs[k]? = some [v0, v1, v2]) : ∃ b o, A = some ⟨b, o, none⟩ ∧ b < B ∧ w.cell? ⟨b, o + k * 3, none⟩ = some v0 ∧ w.cell? ⟨b, o + k * 3 + 1, none⟩ = some v1 ∧ w.cell? ⟨b, o + k * 3 + 2, none⟩ = some v2 := by
  obtain ⟨b, o, e, hb, hc⟩ := h.2 (by rintro rfl; simp at hx)
  exact ⟨b, o, e, hb, by simpa using hc k _ 0 v0 hx rfl, by simpa using hc k _ 1 v1 hx rfl, by simpa using hc k _ 2 v2 hx rfl⟩
theorem flat_at {α : Type} : ∀ (xs : List (List α)) (sz : Nat), (∀ x ∈ xs, x.length = sz) → ∀ k x j v, xs[k]? = some x → x[j]? = some v → xs.flatten[k * sz + j]? = some v
  | [], sz, _, k, x, j, v, hx, _ => by simp at hx
  | y :: ys, sz, hl, 0, x, j, v, hx, hv => by
    simp at hx; subst hx
    rw [List.flatten_cons, Nat.zero_mul, Nat.zero_add, List.getElem?_append_left (List.getElem?_eq_some_iff.1 hv).1, hv]
  | y :: ys, sz, hl, k + 1, x, j, v, hx, hv => by
    have hy : y.length = sz := hl y (by simp)
    have h := flat_at ys sz (fun z hz => hl z (by simp [hz])) k x j v (by simpa using hx) hv
    rw [List.flatten_cons, List.getElem?_append_right (by rw [hy, Nat.succ_mul]; omega), hy]
    rw [show (k + 1) * sz + j - sz = k * sz + j from by rw [Nat.succ_mul]; omega]
    exact h
theorem flat_len {α : Type} : ∀ (xs : List (List α)) (sz : Nat), (∀ x ∈ xs, x.length = sz) → xs.flatten.length = xs.length * sz
  | [], sz, _ => by simp
  | y :: ys, sz, hl => by
    have hy : y.length = sz := hl y (by simp)
    rw [List.flatten_cons, List.length_append, hy, flat_len ys sz (fun z hz => hl z (by simp [hz])), List.length_cons, Nat.succ_mul, Nat.add_comm]
theorem flat_get {α : Type} : ∀ (xs : List (List α)) (sz i : Nat) (v : α), (∀ x ∈ xs, x.length = sz) → xs.flatten[i]? = some v → ∃ k x j, xs[k]? = some x ∧ x[j]? = some v ∧ i = k * sz + j
  | [], sz, i, v, _, h => by simp at h
  | y :: ys, sz, i, v, hl, h => by
    have hy : y.length = sz := hl y (by simp)
    by_cases hi : i < sz
    · rw [List.flatten_cons, List.getElem?_append_left (by omega)] at h
      exact ⟨0, y, i, rfl, h, by omega⟩
    · rw [List.flatten_cons, List.getElem?_append_right (by omega), hy] at h
      obtain ⟨k, x, j, hx, hv, e⟩ := flat_get ys sz (i - sz) v (fun z hz => hl z (by simp [hz])) h
      exact ⟨k + 1, x, j, by simpa using hx, hv, by rw [Nat.succ_mul]; omega⟩
theorem add_none (b o i : Nat) : (⟨b, o, none⟩ : Addr).add i = ⟨b, o + i, none⟩ := by unfold Addr.add; split <;> simp_all
/-- What the append laws ask of their source. -/
theorem Rd.news (h : Rd w B sz A xs) (hn : xs ≠ []) : ∃ b o, A = some ⟨b, o, none⟩ ∧ b < B ∧ ∀ j u, xs.flatten[j]? = some u → w.cell? ((⟨b, o, none⟩ : Addr).add j) = some u := by
  obtain ⟨b, o, e, hb, hc⟩ := h.2 hn
  refine ⟨b, o, e, hb, fun i u hu => ?_⟩
  obtain ⟨k, x, j, hx, hv, rfl⟩ := flat_get xs sz i u h.1 hu
  rw [add_none, ← Nat.add_assoc]
  exact hc k x j u hx hv
/-- A row of the call's own reads as its elements. -/
theorem Rd.of_own {base e n c : Nat} (hsz : 0 < sz) (hl : ∀ x ∈ xs, x.length = sz) (h : w.ownsRow base e sz (.slice A n c) n xs.flatten) : Rd w w.heap.size sz A xs := by
  refine ⟨hl, fun hn => ?_⟩
  have hfl : xs.flatten.length = n * sz := h.1
  rcases h.2 with ⟨hv, h0⟩ | ⟨g, cap, cur, hv, hbg, hg, hnc, hcm, hcs, htake⟩
  · subst h0
    rw [flat_len xs sz hl] at hfl
    injection hv with hA
    subst hA
    have hx0 : xs.length * sz = 0 := by omega
    rcases Nat.mul_eq_zero.1 hx0 with h1 | h1
    · exact absurd (List.eq_nil_of_length_eq_zero h1) hn
    · omega
  · injection hv with hA _ _
    subst hA
    have hc := World.ownsRow.cells h (g := g) rfl
    refine ⟨g, 0, rfl, (Array.getElem?_eq_some_iff.1 hg).1, fun k x j v hx hv => ?_⟩
    have := hc (k * sz + j) v (flat_at xs sz hl k x j v hx hv)
    rwa [add_none, ← Nat.add_assoc] at this
end

/-- What the append and make laws ask of the types: t is '[]e', an element has sz cells and so many bytes. -/
def EI (P : Program) (t e : TypeId) (sz bytes : Nat) : Prop :=
  P.underlying t = some (.slice e) ∧ ∃ i z, P.info? e = some i ∧ i.zero = some z ∧ i.size = sz ∧ i.bytes = bytes ∧ z.cells.size = sz ∧ 0 < sz
theorem EI.mk' {P : Program} {t e : TypeId} {sz bytes : Nat} {z : Value} (ht : P.underlying t = some (.slice e)) (hi : (P.info? e).map (fun i => (i.zero, i.size, i.bytes)) = some (some z, sz, bytes)) (hz : z.cells.size = sz) (hs : 0 < sz) : EI P t e sz bytes := by
  obtain ⟨i, h1, h2, h3, h4⟩ := info_parts hi
  exact ⟨ht, i, z, h1, h2, h3, h4, hz, hs⟩

/-- A slice of the call's own (blocks from base on), or nil: its elements xs, n of them. -/
def Own (w : World) (base : Nat) (e : TypeId) (sz : Nat) (A : Option Addr) (n c : Nat) (xs : List (List Value)) : Prop :=
  0 < sz ∧ (∀ x ∈ xs, x.length = sz) ∧ xs.length = n ∧ w.ownsRow base e sz (.slice A n c) n xs.flatten

section
variable {w w' : World} {base B sz n c : Nat} {e : TypeId} {A : Option Addr} {xs : List (List Value)}
theorem Own.nil_ (hs : 0 < sz) : Own w base e sz none 0 0 [] := ⟨hs, by simp, rfl, World.ownsRow_nil _ _ _ _⟩
theorem Own.rd (h : Own w base e sz A n c xs) : Rd w w.heap.size sz A xs := Rd.of_own h.1 h.2.1 h.2.2.2
theorem Own.len (h : Own w base e sz A n c xs) : xs.length = n := h.2.2.1
theorem Own.block (h : Own w base e sz A n c xs) {b : Nat} (hb : A.map Addr.block = some b) : base ≤ b ∧ b < w.heap.size := by
  refine h.2.2.2.lt b ?_
  cases A with
  | none => simp at hb
  | some a => simpa [Value.ownBlock] using hb
theorem Own.cap (h : Own w base e sz A n c xs) : n ≤ c ∧ c ≤ maxLen := by
  rcases h.2.2.2.2 with ⟨hv, h0⟩ | ⟨g, cap, cur, hv, hbg, hg, hnc, hcm, hcs, htake⟩
  · injection hv with _ _ h3; subst h3; exact ⟨by omega, by simp [maxLen]⟩
  · injection hv with _ _ h3; subst h3; exact ⟨hnc, hcm⟩
theorem Own.form (h : Own w base e sz A n c xs) : (A = none ∧ n = 0 ∧ c = 0) ∨ ∃ g, A = some ⟨g, 0, none⟩ ∧ base ≤ g ∧ g < w.heap.size := by
  rcases h.2.2.2.2 with ⟨hv, h0⟩ | ⟨g, cap, cur, hv, hbg, hg, hnc, hcm, hcs, htake⟩
  · injection hv with h1 _ h3; exact .inl ⟨h1, h0, h3⟩
  · injection hv with h1 _ h3; exact .inr ⟨g, h1, hbg, (Array.getElem?_eq_some_iff.1 hg).1⟩
theorem Own.grown {row : Option Nat} (h : Own w base e sz A n c xs) (hg : w.grownBy w' row) (hne : A = none ∨ A.map Addr.block ≠ row) : Own w' base e sz A n c xs :=
  ⟨h.1, h.2.1, h.2.2.1, h.2.2.2.kept hg (by
    rcases hne with rfl | hne
    · exact .inl rfl
    · right
      cases A with
      | none => simpa [Value.ownBlock] using hne
      | some a => simpa [Value.ownBlock] using hne)⟩
theorem Own.alloc (h : Own w base e sz A n c xs) (o : Obj) : Own (w.alloc o) base e sz A n c xs := ⟨h.1, h.2.1, h.2.2.1, h.2.2.2.alloc o⟩
theorem Own.drewN (h : Own w base e sz A n c xs) (q : Nat) : Own (w.drewN q) base e sz A n c xs := h
theorem Own.drew (h : Own w base e sz A n c xs) : Own w.drew base e sz A n c xs := h
theorem Own.below (h : Own w base e sz A n c xs) (hb : Below B w w') (hB : ∀ b, A.map Addr.block = some b → b < B) : Own w' base e sz A n c xs := by
  refine ⟨h.1, h.2.1, h.2.2.1, h.2.2.2.1, ?_⟩
  rcases h.2.2.2.2 with hn | ⟨g, cap, cur, hv, hbg, hg, rest⟩
  · exact .inl hn
  · refine .inr ⟨g, cap, cur, hv, hbg, ?_, rest⟩
    injection hv with h1 _ _
    rw [hb.block g (hB g (by rw [h1]; rfl))]
    exact hg
theorem Own.belowAll (h : Own w base e sz A n c xs) (hb : Below w.heap.size w w') : Own w' base e sz A n c xs :=
  h.below hb fun _ hb' => (h.block hb').2
theorem Own.lower {base' : Nat} (h : Own w base e sz A n c xs) (hb : base' ≤ base) : Own w base' e sz A n c xs := by
  refine ⟨h.1, h.2.1, h.2.2.1, h.2.2.2.1, ?_⟩
  rcases h.2.2.2.2 with hn | ⟨g, cap, cur, hv, hbg, rest⟩
  · exact .inl hn
  · exact .inr ⟨g, cap, cur, hv, by omega, rest⟩
theorem Own.ne_ {base2 sz2 n2 c2 : Nat} {e2 : TypeId} {A2 : Option Addr} {ys : List (List Value)} (h : Own w base e sz A n c xs) (h2 : Own w base2 e2 sz2 A2 n2 c2 ys) (hne : e ≠ e2) : A = none ∨ A.map Addr.block ≠ A2.map Addr.block := by
  rcases h.2.2.2.2 with ⟨hv, h0⟩ | ⟨g, cap, cur, hv, hbg, hg, _⟩
  · injection hv with h1; exact .inl h1
  · right
    injection hv with h1
    subst h1
    rcases h2.2.2.2.2 with ⟨hv2, h0⟩ | ⟨g2, cap2, cur2, hv2, hbg2, hg2, _⟩
    · injection hv2 with h1; subst h1; simp
    · injection hv2 with h1
      subst h1
      intro e
      simp at e
      subst e
      rw [hg] at hg2
      injection hg2 with hg2
      injection hg2 with _ ht
      exact hne ht
/-- A new block of whole elements is one's own. -/
theorem Own.lit (w : World) (hs : 0 < sz) (hl : ∀ x ∈ xs, x.length = sz) (hx : xs.length = n) (hm : n ≤ maxLen) (hb : base ≤ w.heap.size) (cs : Array Value) (hc : cs.toList = xs.flatten) : Own (w.alloc (.cells cs e)) base e sz (some ⟨w.heap.size, 0, none⟩) n n xs := by
  have := World.ownsRow_lit (size := sz) (e := e) w cs n hb hm (by rw [← Array.length_toList, hc, flat_len xs sz hl, hx])
  rw [hc] at this
  exact ⟨hs, hl, hx, this⟩
theorem Rd.new (w : World) (hl : ∀ x ∈ xs, x.length = sz) (cs : Array Value) (hc : cs.toList = xs.flatten) : Rd (w.alloc (.cells cs e)) (w.heap.size + 1) sz (some ⟨w.heap.size, 0, none⟩) xs := by
  refine ⟨hl, fun _ => ⟨w.heap.size, 0, rfl, by omega, fun k x j v hx hv => ?_⟩⟩
  rw [cell_of_row _ w.heap.size (0 + k * sz + j) cs e (0, 0) (heap_alloc_new w _), ← Array.getElem?_toList, hc, Nat.zero_add]
  exact flat_at xs sz hl k x j v hx hv
end

section
variable {P : Program} (w : World)
theorem run_append_rd {t e : TypeId} {sz bytes : Nat} (ty : TypeId) (hE : EI P t e sz bytes) {base : Nat} {A : Option Addr} {n c : Nat} {xs : List (List Value)} (hown : Own w base e sz A n c xs)
    {B : Nat} {A2 : Option Addr} {m c2 : Nat} {ys : List (List Value)} (hr : Rd w B sz A2 ys) (hm : ys.length = m) (h1 : ∀ y ∈ ys, ∀ u ∈ y, u.oneCell' = true)
    (h63 : n + m ≤ maxLen) (hbytes : (n + m) * bytes ≤ 140737488355328) (hbase : base ≤ w.heap.size) :
    ∃ A' c' w', (Builtin.append_ #[t, t] ty #[.slice A n c, .slice A2 m c2]).run P w = .ok (.slice A' (n + m) c') w' ∧ Own w' base e sz A' (n + m) c' (xs ++ ys) ∧ w.grownBy w' (A.map Addr.block) ∧
      (A'.map Addr.block = A.map Addr.block ∨ A'.map Addr.block = some w.heap.size) ∧ Below base w w' := by
  obtain ⟨ht, i, z, hi, hz, hsize, hby, hzs, hsz⟩ := hE
  have hob : (Value.slice A n c).ownBlock = A.map Addr.block := by cases A <;> rfl
  have hbl : ∀ w', w.grownBy w' (A.map Addr.block) → Below base w w' := fun w' hg =>
    (Below.refl base w).grown hg hbase fun k hk => (hown.block hk).1
  by_cases hy : ys = []
  · subst hy
    obtain rfl : m = 0 := by simpa using hm.symm
    refine ⟨A, c, w, ?_, by simpa using hown, World.grownBy.refl w _, .inl rfl, Below.refl _ _⟩
    rcases hown.2.2.2.2 with ⟨hv, h0⟩ | ⟨g, cap, cur, hv, _, _, hnc, _⟩
    · injection hv with h1 _ h3
      subst h1 h3 h0
      cases A2 <;> simp [Builtin.append_, run_underlying ht, sizeOf, typeInfo, hi, Builtin.lenOf, Builtin.firstCells, loadCells, loadCellsFrom]
    · injection hv with h1 _ h3
      subst h1 h3
      cases A2 <;> simp [Builtin.append_, run_underlying ht, sizeOf, typeInfo, hi, Builtin.lenOf, Builtin.firstCells, loadCells, loadCellsFrom, hnc, storeCells]
  · obtain ⟨b, o, rfl, hb, hnews⟩ := hr.news hy
    have hl : ys.flatten.length = m * sz := by rw [flat_len ys sz hr.1, hm]
    have hmp : 0 < m := by
      rcases Nat.eq_zero_or_pos m with h0 | h0
      · exact absurd (List.eq_nil_of_length_eq_zero (hm.trans h0)) hy
      · exact h0
    obtain ⟨v', w', hrun, h2, h3, _, h5⟩ := run_append_own_at (P := P) w base t ty e i z sz bytes ht hi hz hsize hby hzs hsz (.slice A n c) n xs.flatten hown.2.2.2 ⟨b, o, none⟩ m c2 ys.flatten hl hnews
      (fun u hu => by obtain ⟨y, hy, hu⟩ := List.mem_flatten.1 hu; exact h1 y hy u hu) h63 hbytes hbase
    obtain ⟨g, cap, rfl, _, hlt⟩ := h2.form (by omega)
    rw [hob] at h3 h5
    rw [← List.flatten_append] at h2
    refine ⟨_, _, w', hrun, ⟨hsz, ?_, by simp [hown.2.2.1, hm], h2⟩, h3, ?_, hbl w' h3⟩
    · intro x hx
      rcases List.mem_append.1 hx with hx | hx
      · exact hown.2.1 x hx
      · exact hr.1 x hx
    · simpa [Value.ownBlock] using h5

theorem wp_append_rd {o : Oper} {a : Act} {K : Act → World → Prop} {Q : Exit → Act → World → Prop} (s x : Operand) (t : TypeId)
    (ho : o.op = .call { callee := .builtin .append, args := #[s, x], argTypes := #[t, t] }) {e : TypeId} {sz bytes : Nat} (hE : EI P t e sz bytes)
    {base : Nat} {A : Option Addr} {n c : Nat} {xs : List (List Value)} (hs : a.eval s = .slice A n c) (hown : Own w base e sz A n c xs)
    {B : Nat} {A2 : Option Addr} {m c2 : Nat} {ys : List (List Value)} (hx : a.eval x = .slice A2 m c2) (hr : Rd w B sz A2 ys) (hm : ys.length = m) (h1 : ∀ y ∈ ys, ∀ u ∈ y, u.oneCell' = true)
    (h63 : n + m ≤ maxLen) (hbytes : (n + m) * bytes ≤ 140737488355328) (hbase : base ≤ w.heap.size)
    (h : ∀ A' c' w', Own w' base e sz A' (n + m) c' (xs ++ ys) → w.grownBy w' (A.map Addr.block) → (A'.map Addr.block = A.map Addr.block ∨ A'.map Addr.block = some w.heap.size) → Below base w w' → K (a.put o.dst (.slice A' (n + m) c')) w') :
    o.wp P a w K Q := by
  obtain ⟨A', c', w', hrun, h2, h3, h4, h5⟩ := run_append_rd (P := P) w o.type hE hown hr hm h1 h63 hbytes hbase (c2 := c2)
  unfold Oper.wp execOp
  simp only [ho, resolve, invoke, builtin, Sem.run_bind, Sem.run_pure, Result.andThen_ok, List.map_toArray, List.map_cons, List.map_nil, hs, hx, hrun]
  exact h A' c' w' h2 h3 h4 h5

/-- At a plain region's list. -/
theorem wpList_append_rd {ops : Array Oper} {rest : List Oper} {o : Oper} {a : Act} {Q : Exit → Act → World → Prop} (hgd : o.guard = none) (s x : Operand) (t : TypeId)
    (ho : o.op = .call { callee := .builtin .append, args := #[s, x], argTypes := #[t, t] }) {e : TypeId} {sz bytes : Nat} (hE : EI P t e sz bytes)
    {base : Nat} {A : Option Addr} {n c : Nat} {xs : List (List Value)} (hs : a.eval s = .slice A n c) (hown : Own w base e sz A n c xs)
    {B : Nat} {A2 : Option Addr} {m c2 : Nat} {ys : List (List Value)} (hx : a.eval x = .slice A2 m c2) (hr : Rd w B sz A2 ys) (hm : ys.length = m) (h1 : ∀ y ∈ ys, ∀ u ∈ y, u.oneCell' = true)
    (h63 : n + m ≤ maxLen) (hbytes : (n + m) * bytes ≤ 140737488355328) (hbase : base ≤ w.heap.size)
    (h : ∀ A' c' w', Own w' base e sz A' (n + m) c' (xs ++ ys) → w.grownBy w' (A.map Addr.block) → (A'.map Addr.block = A.map Addr.block ∨ A'.map Addr.block = some w.heap.size) → Below base w w' → wpList P ops Q rest (a.put o.dst (.slice A' (n + m) c')) w') :
    wpList P ops Q (o :: rest) a w :=
  wpList_plain hgd fun _ hK => wp_append_rd w s x t ho hE hs hown hx hr hm h1 h63 hbytes hbase fun A' c' w' h2 h3 h4 h5 => hK _ _ (h A' c' w' h2 h3 h4 h5)

/-- At a step of a region that draws its order. -/
theorem step_append_rd {ops : Array Oper} {o : Oper} {a : Act} {K : Act → World → Prop} {Q : Exit → Act → World → Prop} {E : Prop} (hgd : o.guard = none) (s x : Operand) (t : TypeId)
    (ho : o.op = .call { callee := .builtin .append, args := #[s, x], argTypes := #[t, t] }) {e : TypeId} {sz bytes : Nat} (hE : EI P t e sz bytes)
    {base : Nat} {A : Option Addr} {n c : Nat} {xs : List (List Value)} (hs : a.eval s = .slice A n c) (hown : Own w base e sz A n c xs)
    {B : Nat} {A2 : Option Addr} {m c2 : Nat} {ys : List (List Value)} (hx : a.eval x = .slice A2 m c2) (hr : Rd w B sz A2 ys) (hm : ys.length = m) (h1 : ∀ y ∈ ys, ∀ u ∈ y, u.oneCell' = true)
    (h63 : n + m ≤ maxLen) (hbytes : (n + m) * bytes ≤ 140737488355328) (hbase : base ≤ w.heap.size)
    (h : ∀ A' c' w', Own w' base e sz A' (n + m) c' (xs ++ ys) → w.grownBy w' (A.map Addr.block) → (A'.map Addr.block = A.map Addr.block ∨ A'.map Addr.block = some w.heap.size) → Below base w w' → K (a.put o.dst (.slice A' (n + m) c')) w') :
    if Region.wanted o (yielded ops a.tmps) = true then Oper.wp P o a w K Q else E := by
  have hw : Region.wanted o (yielded ops a.tmps) = true := by simp [Region.wanted, hgd]
  rw [if_pos hw]
  exact wp_append_rd w s x t ho hE hs hown hx hr hm h1 h63 hbytes hbase h
end
end Go.Proofs.YtnlheomfobpcmaaGreat
