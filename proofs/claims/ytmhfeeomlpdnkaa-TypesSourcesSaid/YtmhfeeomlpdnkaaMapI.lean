/- A map from whole numbers to any values, filled by a literal, asked for a key that it has. -/
import Derived.Test.YtmhfeeomlpdnkaaLater
import Derived.WideMake
import Derived.ChangeMaps5
import Derived.Maps.Own
namespace Go.Proofs.Ytmhfeeomlpdnkaa
open Go.RowKit
open Go.ChangeMaps Go.MapKept

def IntMap (w : World) (b : Nat) (es : List (Int × Value)) : Prop :=
  ∃ arr clock, w.heap[b]? = some (.map arr clock) ∧ arr.toList.map (fun e => (e.key, e.val)) = es.map fun p => (Value.int .i64 p.1, p.2)
section
variable {w w' : World} {b B : Nat} {es : List (Int × Value)}
theorem IntMap.lt (h : IntMap w b es) : b < w.heap.size := by
  obtain ⟨arr, clock, h, _⟩ := h
  exact (Array.getElem?_eq_some_iff.1 h).1
theorem IntMap.keep (h : IntMap w b es) (hk : w'.heap[b]? = w.heap[b]?) : IntMap w' b es := by
  obtain ⟨arr, clock, h, h2⟩ := h
  exact ⟨arr, clock, hk.trans h, h2⟩
theorem IntMap.below (h : IntMap w b es) (hb : Below B w w') (hT : b < B) : IntMap w' b es := h.keep (hb.block b hT)
theorem IntMap.alloc (h : IntMap w b es) (o : Obj) : IntMap (w.alloc o) b es := h.keep (Below.heap_alloc w o b h.lt)
theorem IntMap.new (w : World) : IntMap (w.alloc (.map #[] 0)) w.heap.size [] := ⟨#[], 0, heap_alloc_new w _, rfl⟩
theorem IntMap.later (h : IntMap w b es) (x : Later w) : IntMap (later w x) b es := h.below x.2 h.lt
end
theorem findNow_int (k : Int) : ∀ (l : List MapEntry) (es : List (Int × Value)) (i : Nat), l.map (fun e => (e.key, e.val)) = es.map (fun p => (Value.int .i64 p.1, p.2)) →
    (∃ j v, Instr.findNow (.int .i64) (.int .i64 k) l i = some (some (j, v)) ∧ es.lookup k = some v) ∨ (Instr.findNow (.int .i64) (.int .i64 k) l i = some none ∧ es.lookup k = none)
  | [], [], i, _ => .inr ⟨rfl, rfl⟩
  | [], _ :: _, i, h => by simp at h
  | _ :: _, [], i, h => by simp at h
  | e :: l, p :: es, i, h => by
    simp only [List.map_cons, List.cons.injEq, Prod.mk.injEq] at h
    obtain ⟨⟨hk, hv⟩, hr⟩ := h
    by_cases hkp : k = p.1
    · left
      refine ⟨i, e.val, ?_, ?_⟩
      · simp [Instr.findNow, Instr.sameNow, hk, hkp]
      · simp [List.lookup, hkp, hv]
    · rcases findNow_int k l es (i + 1) hr with ⟨j, v, h1, h2⟩ | ⟨h1, h2⟩
      · left
        refine ⟨j, v, ?_, ?_⟩
        · have : (k == p.1) = false := by simpa using hkp
          simp [Instr.findNow, Instr.sameNow, hk, this, h1]
        · have : (k == p.1) = false := by simpa using hkp
          simp [List.lookup, this, h2]
      · right
        have : (k == p.1) = false := by simpa using hkp
        exact ⟨by simp [Instr.findNow, Instr.sameNow, hk, this, h1], by simp [List.lookup, this, h2]⟩
section
variable {P : Program} {w : World} {b : Nat} {es : List (Int × Value)}
theorem run_insert_int {t kt et : TypeId} (ht : P.underlying t = some (.map kt et)) (hk : P.underlying kt = some (.int .i64)) (hM : IntMap w b es) (k : Int) (v : Value) (hn : es.lookup k = none) :
    ∃ w', (Instr.mapUpdate t (.map (some b)) (.int .i64 k) v).run P w = .ok () w' ∧ IntMap w' b (es ++ [(k, v)]) ∧ w.grownBy w' (some b) ∧ w'.heap.size = w.heap.size := by
  obtain ⟨arr, clock, hb, he⟩ := hM
  have hf : Instr.findNow (.int .i64) (.int .i64 k) arr.toList 0 = some none := by
    rcases findNow_int k arr.toList es 0 he with ⟨j, u, _, h2⟩ | ⟨h1, _⟩
    · rw [hn] at h2; cases h2
    · exact h1
  have hc : (Instr.checkKey false 10000 kt (.int .i64 k)).run P w = .ok () w := MapKept.run_checkKey (k := Value.int IntKind.i64 k) hk rfl false 9999
  refine ⟨setBlock w b (.map (arr.push { key := .int .i64 k, val := v, born := clock }) (clock + 1)), ?_, ⟨_, _, heap_setBlock_same hb _, ?_⟩, ⟨rfl, rfl, rfl, by simp [setBlock], fun i _ hi => heap_setBlock_other hb _ (fun e => hi (by rw [e]))⟩, by simp [setBlock]⟩
  · simp [Instr.mapUpdate, run_underlying ht, MapKept.run_getObj_map hb, hc, MapKept.run_findKey hk hf, MapKept.run_setObj_map _ hb, Result.andThen, setBlock]
  · simp [he]
theorem run_lookup_int {t kt et : TypeId} (ht : P.underlying t = some (.map kt et)) (hk : P.underlying kt = some (.int .i64)) (hM : IntMap w b es) (k : Int) {v : Value} (hv : es.lookup k = some v) :
    (Instr.lookup t (.map (some b)) (.int .i64 k) false).run P w = .ok v w := by
  obtain ⟨arr, clock, hb, he⟩ := hM
  rcases findNow_int k arr.toList es 0 he with ⟨j, u, h1, h2⟩ | ⟨_, h2⟩
  · rw [hv] at h2
    injection h2 with h2
    subst h2
    have hc : (Instr.checkKey arr.isEmpty 10000 kt (.int .i64 k)).run P w = .ok () w := MapKept.run_checkKey (k := Value.int IntKind.i64 k) hk rfl _ 9999
    simp [Instr.lookup, run_underlying ht, MapKept.run_getObj_map hb, hc, MapKept.run_findKey hk h1, Result.andThen]
  · rw [hv] at h2; cases h2
theorem wpList_insert_int {ops : Array Oper} {rest : List Oper} {o : Oper} {a : Act} {Q : Exit → Act → World → Prop} (hgd : o.guard = none) (m k x : Operand) (t : TypeId) (ho : o.op = .insert t m k x) {kt et : TypeId}
    (ht : P.underlying t = some (.map kt et)) (hk : P.underlying kt = some (.int .i64)) (hm : a.eval m = .map (some b)) (hM : IntMap w b es) (key : Int) (hkey : a.eval k = .int .i64 key) (v : Value) (hv : a.eval x = v) (hn : es.lookup key = none)
    (h : ∀ w', IntMap w' b (es ++ [(key, v)]) → w.grownBy w' (some b) → w'.heap.size = w.heap.size → wpList P ops Q rest (a.put o.dst undef) w') : wpList P ops Q (o :: rest) a w := by
  refine wpList_plain hgd fun K' hK' => ?_
  obtain ⟨w', hrun, h1, h2, h3⟩ := run_insert_int ht hk hM key v hn
  unfold Oper.wp
  simp [execOp, ho, hm, hkey, hv, hrun, Result.andThen]
  exact hK' _ _ (h w' h1 h2 h3)
end
end Go.Proofs.Ytmhfeeomlpdnkaa
