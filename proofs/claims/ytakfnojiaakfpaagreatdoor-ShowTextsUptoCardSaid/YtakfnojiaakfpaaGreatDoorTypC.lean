/- Types of trees: a tree is checked by the program. -/
import Derived.Test.YtakfnojiaakfpaaGreatDoorTypSrc
import Derived.WideMake
import Derived.ChangeMaps5
import Derived.Maps.Own
namespace Go.Proofs.YtakfnojiaakfpaaGreatDoor
section
open Go.RowKit
open Go.ChangeMaps Go.MapKept
def IntMap (w : World) (b : Nat) (es : List (Int × Value)) : Prop :=
  ∃ arr clock, w.heap[b]? = some (.map arr clock) ∧ arr.toList.map (fun e => (e.key, e.val)) = es.map fun p => (Value.int .i64 p.1, p.2)
section
variable {w w' : World} {b B : Nat} {es : List (Int × Value)}
theorem IntMap.lt (h : IntMap w b es) : b < w.heap.size := by
  obtain ⟨arr, clock, h, _⟩ := h
  exact (Array.getElem?_eq_some_iff.1 h).1
theorem IntMap.keep (h : IntMap w b es) (hk : w'.heap[b]? = w.heap[b]?) : IntMap w' b es := by
  obtain ⟨arr, clock, h, h2⟩ := h
  exact ⟨arr, clock, hk.trans h, h2⟩
theorem IntMap.below (h : IntMap w b es) (hb : Below B w w') (hT : b < B) : IntMap w' b es := h.keep (hb.block b hT)
theorem IntMap.alloc (h : IntMap w b es) (o : Obj) : IntMap (w.alloc o) b es := h.keep (Below.heap_alloc w o b h.lt)
theorem IntMap.new (w : World) : IntMap (w.alloc (.map #[] 0)) w.heap.size [] := ⟨#[], 0, heap_alloc_new w _, rfl⟩
theorem IntMap.later (h : IntMap w b es) (x : Later w) : IntMap (later w x) b es := h.below x.2 h.lt
end
theorem findNow_int (k : Int) : ∀ (l : List MapEntry) (es : List (Int × Value)) (i : Nat), l.map (fun e => (e.key, e.val)) = es.map (fun p => (Value.int .i64 p.1, p.2)) →
    (∃ j v, Instr.findNow (.int .i64) (.int .i64 k) l i = some (some (j, v)) ∧ es.lookup k = some v) ∨ (Instr.findNow (.int .i64) (.int .i64 k) l i = some none ∧ es.lookup k = none)
  | [], [], i, _ => .inr ⟨rfl, rfl⟩
  | [], _ :: _, i, h => by simp at h
  | _ :: _, [], i, h => by simp at h
  | e :: l, p :: es, i, h => by
    simp only [List.map_cons, List.cons.injEq, Prod.mk.injEq] at h
    obtain ⟨⟨hk, hv⟩, hr⟩ := h
    by_cases hkp : k = p.1
    · left
      refine ⟨i, e.val, ?_, ?_⟩
      · simp [Instr.findNow, Instr.sameNow, hk, hkp]
      · simp [List.lookup, hkp, hv]
    · rcases findNow_int k l es (i + 1) hr with ⟨j, v, h1, h2⟩ | ⟨h1, h2⟩
      · left
        refine ⟨j, v, ?_, ?_⟩
        · have : (k == p.1) = false := by simpa using hkp
          simp [Instr.findNow, Instr.sameNow, hk, this, h1]
        · have : (k == p.1) = false := by simpa using hkp
          simp [List.lookup, this, h2]
      · right
        have : (k == p.1) = false := by simpa using hkp
        exact ⟨by simp [Instr.findNow, Instr.sameNow, hk, this, h1], by simp [List.lookup, this, h2]⟩
section
variable {P : Program} {w : World} {b : Nat} {es : List (Int × Value)}
theorem run_insert_int {t kt et : TypeId} (ht : P.underlying t = some (.map kt et)) (hk : P.underlying kt = some (.int .i64)) (hM : IntMap w b es) (k : Int) (v : Value) (hn : es.lookup k = none) :
    ∃ w', (Instr.mapUpdate t (.map (some b)) (.int .i64 k) v).run P w = .ok () w' ∧ IntMap w' b (es ++ [(k, v)]) ∧ w.grownBy w' (some b) ∧ w'.heap.size = w.heap.size := by
  obtain ⟨arr, clock, hb, he⟩ := hM
  have hf : Instr.findNow (.int .i64) (.int .i64 k) arr.toList 0 = some none := by
    rcases findNow_int k arr.toList es 0 he with ⟨j, u, _, h2⟩ | ⟨h1, _⟩
    · rw [hn] at h2; cases h2
    · exact h1
  have hc : (Instr.checkKey false 10000 kt (.int .i64 k)).run P w = .ok () w := MapKept.run_checkKey (k := Value.int IntKind.i64 k) hk rfl false 9999
  refine ⟨setBlock w b (.map (arr.push { key := .int .i64 k, val := v, born := clock }) (clock + 1)), ?_, ⟨_, _, heap_setBlock_same hb _, ?_⟩, ⟨rfl, rfl, rfl, by simp [setBlock], fun i _ hi => heap_setBlock_other hb _ (fun e => hi (by rw [e]))⟩, by simp [setBlock]⟩
  · simp [Instr.mapUpdate, run_underlying ht, MapKept.run_getObj_map hb, hc, MapKept.run_findKey hk hf, MapKept.run_setObj_map _ hb, Result.andThen, setBlock]
  · simp [he]
theorem run_lookup_int {t kt et : TypeId} (ht : P.underlying t = some (.map kt et)) (hk : P.underlying kt = some (.int .i64)) (hM : IntMap w b es) (k : Int) {v : Value} (hv : es.lookup k = some v) :
    (Instr.lookup t (.map (some b)) (.int .i64 k) false).run P w = .ok v w := by
  obtain ⟨arr, clock, hb, he⟩ := hM
  rcases findNow_int k arr.toList es 0 he with ⟨j, u, h1, h2⟩ | ⟨_, h2⟩
  · rw [hv] at h2
    injection h2 with h2
    subst h2
    have hc : (Instr.checkKey arr.isEmpty 10000 kt (.int .i64 k)).run P w = .ok () w := MapKept.run_checkKey (k := Value.int IntKind.i64 k) hk rfl _ 9999
    simp [Instr.lookup, run_underlying ht, MapKept.run_getObj_map hb, hc, MapKept.run_findKey hk h1, Result.andThen]
  · rw [hv] at h2; cases h2
theorem wpList_insert_int {ops : Array Oper} {rest : List Oper} {o : Oper} {a : Act} {Q : Exit → Act → World → Prop} (hgd : o.guard = none) (m k x : Operand) (t : TypeId) (ho : o.op = .insert t m k x) {kt et : TypeId}
    (ht : P.underlying t = some (.map kt et)) (hk : P.underlying kt = some (.int .i64)) (hm : a.eval m = .map (some b)) (hM : IntMap w b es) (key : Int) (hkey : a.eval k = .int .i64 key) (v : Value) (hv : a.eval x = v) (hn : es.lookup key = none)
    (h : ∀ w', IntMap w' b (es ++ [(key, v)]) → w.grownBy w' (some b) → w'.heap.size = w.heap.size → wpList P ops Q rest (a.put o.dst undef) w') : wpList P ops Q (o :: rest) a w := by
  refine wpList_plain hgd fun K' hK' => ?_
  obtain ⟨w', hrun, h1, h2, h3⟩ := run_insert_int ht hk hM key v hn
  unfold Oper.wp
  simp [execOp, ho, hm, hkey, hv, hrun, Result.andThen]
  exact hK' _ _ (h w' h1 h2 h3)
end
end
section
open Go.RowKit
def intsC (l : List Int) : List (List Value) := l.map fun v => [.int .i64 v]
theorem intsC_at {l : List Int} {k : Nat} {v : Int} (h : l[k]? = some v) : (intsC l)[k]? = some [.int .i64 v] := by simp [intsC, h]
set_option maxHeartbeats 400000 in
theorem tleaf_any (k : Int) (w : World) : Calls Tryz.prog 66 #[.int .i64 k] w fun e w' => e = .returned (.func (.func 105) #[] #[.pointer (some ⟨w.heap.size, 0, none⟩)]) ∧ w.alloc (.cells #[.int .i64 k] 3) = w' := by
  have hmf : ∀ (fn : Fn) (first cap : Array Value) (w : World), (Instr.makeFunc fn first cap).run Tryz.prog w = .ok (.func fn first cap) w := fun _ _ _ _ => rfl
  go_enter Tryz.func66, Tryz.ntmps66
  go_wp2
  go_ret
  exact ⟨rfl, rfl⟩
set_option maxHeartbeats 400000 in
theorem tleaf1_any (k : Int) (L : Nat) (N S : Value) (cs : Array Value) (hN : N = .agg cs) (w : World) (hc : w.cell? ⟨L, 0, none⟩ = some (.int .i64 k)) (hL : L < w.heap.size) :
    Calls Tryz.prog 105 #[N, S, .pointer (some ⟨L, 0, none⟩)] w fun e w' => e = .returned (.tuple #[.int .i64 k, .int .i64 0]) ∧ Below w.heap.size w w' := by
  subst hN
  go_enter Tryz.func105, Tryz.ntmps105
  go_wp2
  go_ret2
  exact ⟨rfl, (Below.refl _ _).alloc (Nat.le_refl _) _⟩
theorem ofN_1 {x : Nod} {p : List Int} (h : x.kind = 1) : ofN x p = (1, 0) := by simp [ofN, h]
theorem ofN_2 {x : Nod} {p : List Int} (h : x.kind = 2) : ofN x p = (2, 0) := by simp [ofN, h]
theorem ofN_3 {x : Nod} {p : List Int} (h : x.kind = 3) : ofN x p = (3, 0) := by simp [ofN, h]
theorem ofN_4 {x : Nod} {p0 : Int} {r : List Int} (h : x.kind = 4) : ofN x (p0 :: r) = if p0 = (if x.op = 11 ∨ x.op = 12 then 2 else 3) then (2, 0) else (0, 191) := by simp [ofN, h]
theorem ofN_5 {x : Nod} {p0 : Int} {r : List Int} (h : x.kind = 5) : ofN x (p0 :: r) = if p0 = 2 then (2, 0) else (0, 191) := by simp [ofN, h]
theorem ofN_7 {x : Nod} {p0 : Int} {r : List Int} (h : x.kind = 7) : ofN x (p0 :: r) = if p0 = 3 then (0, 191) else (p0, 0) := by simp [ofN, h]
theorem ofN_6 {x : Nod} {p0 p1 : Int} {r : List Int} (h : x.kind = 6) : ofN x (p0 :: p1 :: r) = if p0 = 3 ∨ p1 = 3 ∨ (11 ≤ x.op ∨ x.grp ≠ 0) ∧ ¬ (p0 = 2 ∧ p1 = 2) ∨ (p0 = 1 ∧ p1 = 1) ∧ cmpB x.op = true ∧ x.cmp = false then (0, 192) else (max p0 p1, 0) := by simp [ofN, h]
theorem ret_two {a b c d : Int} (h1 : a = c) (h2 : b = d) : Ending.returned (.tuple #[.int .i64 a, .int .i64 b]) = .returned (.tuple #[.int .i64 c, .int .i64 d]) := by rw [h1, h2]
theorem bne_p {a b : Int} (h : (a != b) = true) : ¬ a = b := by simpa using h
theorem bne_n {a b : Int} (h : (a != b) = false) : a = b := by simpa using h
theorem beq_or {a b c d : Int} (h : (a == b) = true ∨ (c == d) = true) : a = b ∨ c = d := by simpa using h
theorem beq_nor {a b c d : Int} (h : (a == b) = false ∧ (c == d) = false) : ¬ (a = b ∨ c = d) := by simpa using h
set_option maxRecDepth 100000 in
set_option maxHeartbeats 1000000 in
theorem tcall_any (x : Nod) (Am An : Option Addr) (cm cn : Nat) (P : Value) (p0 : Int) (b o c : Nat) (w : World) (hc : w.cell? ⟨b, o, none⟩ = some (.int .i64 p0)) (hb : b < w.heap.size) (hk : x.kind = 4) :
    Calls Tryz.prog 67 #[P, .agg #[.int .i64 x.kind, .int .i64 x.op, .string x.text, .slice Am x.mat.length cm, .int .i64 x.width, .int .i64 x.back, .int .i64 x.grp, .slice An x.names.length cn, .bool x.cmp, .int .i64 x.parts], .slice (some ⟨b, o, none⟩) 1 c] w fun e w' => e = .returned (.tuple #[.int .i64 (ofN x [p0]).1, .int .i64 (ofN x [p0]).2]) ∧ Below w.heap.size w w' := by
  have HO := Lib.hid (ofN_4 (p0 := p0) (r := []) hk)
  clear hk
  go_enter Tryz.func67, Tryz.ntmps67
  go_wp2
  all_goals
    go_ret2
    refine ⟨?_, (Below.refl _ _).alloc (Nat.le_refl _) _⟩
    first
    | (rw [HO.out, if_pos (Or.inl ‹x.op = 11› : x.op = 11 ∨ x.op = 12), if_neg (bne_p ‹(p0 != 2) = true›)]; rfl)
    | (rw [HO.out, if_pos (Or.inl ‹x.op = 11› : x.op = 11 ∨ x.op = 12), if_pos (bne_n ‹(p0 != 2) = false›)]; rfl)
    | (rw [HO.out, if_pos (beq_or ‹(x.op == 11) = true ∨ (x.op == 12) = true›), if_neg (bne_p ‹(p0 != 2) = true›)]; rfl)
    | (rw [HO.out, if_pos (beq_or ‹(x.op == 11) = true ∨ (x.op == 12) = true›), if_pos (bne_n ‹(p0 != 2) = false›)]; rfl)
    | (rw [HO.out, if_neg (beq_nor ‹(x.op == 11) = false ∧ (x.op == 12) = false›), if_neg (bne_p ‹(p0 != 3) = true›)]; rfl)
    | (rw [HO.out, if_neg (beq_nor ‹(x.op == 11) = false ∧ (x.op == 12) = false›), if_pos (bne_n ‹(p0 != 3) = false›)]; rfl)
set_option maxRecDepth 100000 in
set_option maxHeartbeats 1000000 in
theorem tagg_any (x : Nod) (Am An : Option Addr) (cm cn : Nat) (P : Value) (p0 : Int) (b o c : Nat) (w : World) (hc : w.cell? ⟨b, o, none⟩ = some (.int .i64 p0)) (hb : b < w.heap.size) (hk : x.kind = 5) :
    Calls Tryz.prog 68 #[P, .agg #[.int .i64 x.kind, .int .i64 x.op, .string x.text, .slice Am x.mat.length cm, .int .i64 x.width, .int .i64 x.back, .int .i64 x.grp, .slice An x.names.length cn, .bool x.cmp, .int .i64 x.parts], .slice (some ⟨b, o, none⟩) 1 c] w fun e w' => e = .returned (.tuple #[.int .i64 (ofN x [p0]).1, .int .i64 (ofN x [p0]).2]) ∧ Below w.heap.size w w' := by
  have HO := Lib.hid (ofN_5 (p0 := p0) (r := []) hk)
  clear hk
  go_enter Tryz.func68, Tryz.ntmps68
  go_wp2
  all_goals
    go_ret2
    refine ⟨?_, (Below.refl _ _).alloc (Nat.le_refl _) _⟩
    first
    | (rw [HO.out, if_neg (bne_p ‹(p0 != 2) = true›)]; rfl)
    | (rw [HO.out, if_pos (bne_n ‹(p0 != 2) = false›)]; rfl)
set_option maxRecDepth 100000 in
set_option maxHeartbeats 1000000 in
theorem tneg_any (x : Nod) (Am An : Option Addr) (cm cn : Nat) (P : Value) (p0 : Int) (b o c : Nat) (w : World) (hc : w.cell? ⟨b, o, none⟩ = some (.int .i64 p0)) (hb : b < w.heap.size) (hk : x.kind = 7) :
    Calls Tryz.prog 70 #[P, .agg #[.int .i64 x.kind, .int .i64 x.op, .string x.text, .slice Am x.mat.length cm, .int .i64 x.width, .int .i64 x.back, .int .i64 x.grp, .slice An x.names.length cn, .bool x.cmp, .int .i64 x.parts], .slice (some ⟨b, o, none⟩) 1 c] w fun e w' => e = .returned (.tuple #[.int .i64 (ofN x [p0]).1, .int .i64 (ofN x [p0]).2]) ∧ Below w.heap.size w w' := by
  have HO := Lib.hid (ofN_7 (p0 := p0) (r := []) hk)
  clear hk
  go_enter Tryz.func70, Tryz.ntmps70
  go_wp2
  all_goals
    go_ret2
    refine ⟨?_, (Below.refl _ _).alloc (Nat.le_refl _) _⟩
    first
    | (rw [HO.out, if_pos (kk ‹(p0 == 3) = true›)]; rfl)
    | (rw [HO.out, if_neg (kn ‹(p0 == 3) = false›)]; rfl)
set_option maxRecDepth 100000 in
set_option maxHeartbeats 1000000 in
theorem tbin_any (x : Nod) (Am An : Option Addr) (cm cn : Nat) (P : Value) (p0 p1 : Int) (b o c : Nat) (w : World) (hc : w.cell? ⟨b, o, none⟩ = some (.int .i64 p0)) (hc1 : w.cell? ⟨b, o + 1, none⟩ = some (.int .i64 p1)) (hb : b < w.heap.size) (hk : x.kind = 6) (hop : x.op ≤ 13) :
    Calls Tryz.prog 69 #[P, .agg #[.int .i64 x.kind, .int .i64 x.op, .string x.text, .slice Am x.mat.length cm, .int .i64 x.width, .int .i64 x.back, .int .i64 x.grp, .slice An x.names.length cn, .bool x.cmp, .int .i64 x.parts], .slice (some ⟨b, o, none⟩) 2 c] w fun e w' => e = .returned (.tuple #[.int .i64 (ofN x [p0, p1]).1, .int .i64 (ofN x [p0, p1]).2]) ∧ Below w.heap.size w w' := by
  have HS := fun W => Lib.hid (tsetB_any x.op W)
  have HC := fun W => Lib.hid (tcmpB_any x.op W)
  have h6 := ofN_6 (p0 := p0) (p1 := p1) (r := []) hk
  clear hk
  by_cases hs : 11 ≤ x.op
  · have e1 : setB x.op = true := by simp [setB, inB]; omega
    have e2 : cmpB x.op = false := by simp [cmpB, inB]; omega
    simp only [e1] at HS
    simp only [e2] at HC
    rw [e2] at h6
    simp only [false_and, and_false, or_false, reduceCtorEq] at h6
    have HO := Lib.hid h6
    clear h6 e1 e2 hop
    go_enter Tryz.func69, Tryz.ntmps69
    go_wp2
    go_quiet (fail)
    go_wp2_with (first | (go_at_call 106; refine ((HS _).out).mono ?_; rintro e w' ⟨rfl, rfl⟩) | (go_at_call 102; refine ((HC _).out).mono ?_; rintro e w' ⟨rfl, rfl⟩))
    all_goals
      go_ret2
      refine ⟨?_, by first | exact (Below.refl _ _).alloc (Nat.le_refl _) _ | exact below_drewN ((Below.refl _ _).alloc (Nat.le_refl _) _) _⟩
      simp only [ne_eq] at *
      first
      | (rw [HO.out, if_pos (by omega)]; rfl)
      | (rw [HO.out, if_neg (by omega)]; exact ret_two (by simp only; omega) rfl)
      | (obtain rfl : p0 = 2 := by omega
         rw [HO.out, if_neg (by omega)]; exact ret_two (by simp only; omega) rfl)
      | (obtain rfl : p0 = 1 := by omega
         rw [HO.out, if_neg (by omega)]; exact ret_two (by simp only; omega) rfl)
      | (trace_state; fail)
  · have e1 : setB x.op = false := by simp [setB, inB]; omega
    simp only [e1] at HS
    clear e1 hop
    cases hcm : cmpB x.op with
    | false =>
      simp only [hcm] at HC
      rw [hcm] at h6
      simp only [false_and, and_false, or_false, reduceCtorEq] at h6
      have HO := Lib.hid h6
      clear h6 hcm
      go_enter Tryz.func69, Tryz.ntmps69
      go_wp2
      go_quiet (fail)
      go_wp2_with (first | (go_at_call 106; refine ((HS _).out).mono ?_; rintro e w' ⟨rfl, rfl⟩) | (go_at_call 102; refine ((HC _).out).mono ?_; rintro e w' ⟨rfl, rfl⟩))
      all_goals
        go_ret2
        refine ⟨?_, by first | exact (Below.refl _ _).alloc (Nat.le_refl _) _ | exact below_drewN ((Below.refl _ _).alloc (Nat.le_refl _) _) _⟩
        simp only [beq_iff_eq, beq_eq_false_iff_ne, ne_eq] at *
        first
        | (rw [HO.out, if_pos (by omega)]; rfl)
        | (rw [HO.out, if_neg (by omega)]; exact ret_two (by simp only; omega) rfl)
        | (obtain rfl : p0 = 2 := by omega
           rw [HO.out, if_neg (by omega)]; exact ret_two (by simp only; omega) rfl)
        | (obtain rfl : p0 = 1 := by omega
           rw [HO.out, if_neg (by omega)]; exact ret_two (by simp only; omega) rfl)
        | (trace_state; fail)
    | true =>
      simp only [hcm] at HC
      rw [hcm] at h6
      cases hx : x.cmp
      · rw [hx] at h6
        simp only [and_true] at h6
        have HO := Lib.hid h6
        clear h6 hcm hx
        go_enter Tryz.func69, Tryz.ntmps69
        go_wp2
        go_quiet (fail)
        go_wp2_with (first | (go_at_call 106; refine ((HS _).out).mono ?_; rintro e w' ⟨rfl, rfl⟩) | (go_at_call 102; refine ((HC _).out).mono ?_; rintro e w' ⟨rfl, rfl⟩))
        all_goals
          go_ret2
          refine ⟨?_, by first | exact (Below.refl _ _).alloc (Nat.le_refl _) _ | exact below_drewN ((Below.refl _ _).alloc (Nat.le_refl _) _) _⟩
          simp only [beq_iff_eq, beq_eq_false_iff_ne, ne_eq] at *
          first
          | (rw [HO.out, if_pos (by omega)]; rfl)
          | (rw [HO.out, if_neg (by omega)]; exact ret_two (by simp only; omega) rfl)
          | (obtain rfl : p0 = 2 := by omega
             rw [HO.out, if_neg (by omega)]; exact ret_two (by simp only; omega) rfl)
          | (obtain rfl : p0 = 1 := by omega
             rw [HO.out, if_neg (by omega)]; exact ret_two (by simp only; omega) rfl)
          | (trace_state; fail)
      · rw [hx] at h6
        simp only [and_false, or_false, reduceCtorEq] at h6
        have HO := Lib.hid h6
        clear h6 hcm hx
        go_enter Tryz.func69, Tryz.ntmps69
        go_wp2
        go_quiet (fail)
        go_wp2_with (first | (go_at_call 106; refine ((HS _).out).mono ?_; rintro e w' ⟨rfl, rfl⟩) | (go_at_call 102; refine ((HC _).out).mono ?_; rintro e w' ⟨rfl, rfl⟩))
        all_goals
          go_ret2
          refine ⟨?_, by first | exact (Below.refl _ _).alloc (Nat.le_refl _) _ | exact below_drewN ((Below.refl _ _).alloc (Nat.le_refl _) _) _⟩
          simp only [beq_iff_eq, beq_eq_false_iff_ne, ne_eq] at *
          first
          | (rw [HO.out, if_pos (by omega)]; rfl)
          | (rw [HO.out, if_neg (by omega)]; exact ret_two (by simp only; omega) rfl)
          | (obtain rfl : p0 = 2 := by omega
             rw [HO.out, if_neg (by omega)]; exact ret_two (by simp only; omega) rfl)
          | (obtain rfl : p0 = 1 := by omega
             rw [HO.out, if_neg (by omega)]; exact ret_two (by simp only; omega) rfl)
          | (trace_state; fail)
end
section
open Go.RowKit
theorem Own.cut {w : World} {base sz n c : Nat} {e : TypeId} {A : Option Addr} {xs : List (List Value)} (h : Own w base e sz A n c xs) {k : Nat} (hk : k ≤ n) : Own w base e sz A k c (xs.take k) := by
  have hl := h.len
  have hfl : ∀ x ∈ xs.take k, x.length = sz := fun x hx => h.2.1 x (List.mem_of_mem_take hx)
  have hlen : (xs.take k).length = k := by rw [List.length_take]; omega
  have htk : (xs.take k).flatten = xs.flatten.take (k * sz) := by
    have h2 : xs.flatten = (xs.take k).flatten ++ (xs.drop k).flatten := by rw [← List.flatten_append, List.take_append_drop]
    have h3 : (xs.take k).flatten.length = k * sz := by rw [flat_len _ sz hfl, hlen]
    rw [h2, ← h3, List.take_left]
  refine ⟨h.1, hfl, hlen, by rw [flat_len _ sz hfl, hlen], ?_⟩
  rcases h.2.2.2.2 with ⟨hv, h0⟩ | ⟨g, cap, cur, hv, hbg, hg, hnc, hcm, hcs, htake⟩
  · injection hv with e1 e2 e3
    subst e1 e3
    obtain rfl : k = 0 := by omega
    have : xs = [] := List.eq_nil_of_length_eq_zero (by omega)
    subst this
    exact .inl ⟨rfl, rfl⟩
  · injection hv with e1 e2 e3
    subst e1 e3
    refine .inr ⟨g, c, cur, rfl, hbg, hg, by omega, hcm, hcs, ?_⟩
    rw [htk, ← htake, List.take_take]
    rw [Nat.min_eq_left (Nat.mul_le_mul_right _ hk)]
theorem eiTyped : EI Tryz.prog 70 75 1 8 := EI.mk' Tryz.underlying70 (z := .agg #[.int .i64 0]) (by kernel_rfl) rfl (by omega)
/-- The walk's stack. -/
def StkW (w : World) (P base : Nat) (A : Option Addr) (c : Nat) (st : List Int) : Prop := Blk w P 72 [.slice A st.length c] ∧ Own w base 75 1 A st.length c (intsC st) ∧ base ≤ P
theorem StkW.belowAll {w w' : World} {P base : Nat} {A : Option Addr} {c : Nat} {st : List Int} (h : StkW w P base A c st) (hb : Below w.heap.size w w') : StkW w' P base A c st :=
  ⟨h.1.below hb h.1.lt, h.2.1.belowAll hb, h.2.2⟩
/-- A new value is laid upon what is left of the stack. -/
theorem StkW.laid {w w' : World} {P base n : Nat} {A A' : Option Addr} {c c' : Nat} {st : List Int} {q : Nat} {k : Int} (hP : Blk w P 72 [.slice A n c]) (hbP : base ≤ P) (hO : Own w base 75 1 A q c ((intsC st).take q))
    (hq : q ≤ st.length) (hn : Own w' base 75 1 A' (q + 1) c' ((intsC st).take q ++ [[.int .i64 k]])) (hg : w.grownBy w' (A.map Addr.block)) :
    StkW (w'.setCell ⟨P, 0, none⟩ (.slice A' (q + 1) c')) P base A' c' (st.take q ++ [k]) := by
  have hP' := hP.grown hg (own_ne_blk hO hP (by decide))
  have hl : (st.take q ++ [k]).length = q + 1 := by simp; omega
  have hi : intsC (st.take q ++ [k]) = (intsC st).take q ++ [[.int .i64 k]] := by simp [intsC, List.map_take]
  refine ⟨?_, ?_, hbP⟩
  · rw [hl]; exact hP'.set 0 _
  · rw [hl, hi]; exact hn.setOther (own_ne_blk hn hP' (by decide)) 0 _
def LeafsAt (M : Nat) (w : World) (es : List (Int × Value)) : Prop := ∀ p ∈ es, ∀ L, p.2 = .func (.func 105) #[] #[.pointer (some ⟨L, 0, none⟩)] → L < w.heap.size ∧ M < L ∧ w.cell? ⟨L, 0, none⟩ = some (.int .i64 p.1)
def LitM (M : Nat) (w2 w : World) (es : List (Int × Value)) : Prop :=
  IntMap w M es ∧ Below M w2 w ∧ M < w.heap.size ∧ ∀ p ∈ es, ∀ L, p.2 = .func (.func 105) #[] #[.pointer (some ⟨L, 0, none⟩)] → L < w.heap.size ∧ M < L ∧ w.cell? ⟨L, 0, none⟩ = some (.int .i64 p.1)
theorem LitM.new {M : Nat} (w2 : World) (h : w2.heap.size = M) : LitM M w2 (w2.alloc (.map #[] 0)) [] := by
  subst h
  exact ⟨IntMap.new w2, (Below.refl _ _).alloc (Nat.le_refl _) _, by simp, by simp⟩
theorem LitM.alloc {M : Nat} {w2 w : World} {es : List (Int × Value)} (h : LitM M w2 w es) (o : Obj) : LitM M w2 (w.alloc o) es := by
  obtain ⟨h1, h2, h3, h4⟩ := h
  refine ⟨h1.alloc o, h2.alloc (by omega) o, by simp; omega, fun p hp L hL => ?_⟩
  obtain ⟨g1, g2, g3⟩ := h4 p hp L hL
  exact ⟨by simp; omega, g2, (World.cell?_alloc_lt w o _ g1).trans g3⟩
theorem LitM.insert {M : Nat} {w2 w w' : World} {es : List (Int × Value)} (h : LitM M w2 w es) {k : Int} {v : Value} (h1 : IntMap w' M (es ++ [(k, v)])) (hg : w.grownBy w' (some M)) (hz : w'.heap.size = w.heap.size)
    (hv : ∀ L, v = .func (.func 105) #[] #[.pointer (some ⟨L, 0, none⟩)] → L < w.heap.size ∧ M < L ∧ w.cell? ⟨L, 0, none⟩ = some (.int .i64 k)) : LitM M w2 w' (es ++ [(k, v)]) := by
  obtain ⟨_, h2, h3, h4⟩ := h
  refine ⟨h1, h2.trans (below_of_grown hg (by omega) (fun g e => by injection e with e; omega)), by omega, fun p hp L hL => ?_⟩
  have key : L < w.heap.size ∧ M < L ∧ w.cell? ⟨L, 0, none⟩ = some (.int .i64 p.1) := by
    rcases List.mem_append.1 hp with hp | hp
    · exact h4 p hp L hL
    · simp at hp
      subst hp
      exact hv L hL
  obtain ⟨g1, g2, g3⟩ := key
  exact ⟨by omega, g2, (World.cell?_of_block (hg.block L g1 (by intro e; injection e with e; omega))).trans g3⟩
theorem wpList_insert_leaf {P : Program} {w2 w : World} {es : List (Int × Value)} {ops : Array Oper} {rest : List Oper} {a : Act} {Q : Exit → Act → World → Prop} {m k x : Operand} {t ty t2 : TypeId} {pos : String} {after : Array Edge} {kt et : TypeId} {key : Int} {L : Nat}
    (ht : P.underlying t = some (.map kt et)) (hk : P.underlying kt = some (.int .i64)) (hm : a.eval m = .map (some w2.heap.size)) (hkey : a.eval k = .int .i64 key) (hv : a.eval x = .func (.func 105) #[] #[.pointer (some ⟨L, 0, none⟩)])
    (hM : LitM w2.heap.size w2 w es) (hL : L = w.heap.size) (hn : es.lookup key = none)
    (h : ∀ w', LitM w2.heap.size w2 w' (es ++ [(key, .func (.func 105) #[] #[.pointer (some ⟨L, 0, none⟩)])]) → wpList P ops Q rest a w') : wpList P ops Q (⟨none, .insert t m k x, ty, pos, after, none⟩ :: rest) a (w.alloc (.cells #[.int .i64 key] t2)) :=
  wpList_insert_int rfl m k x t rfl ht hk hm (hM.alloc _).1 key hkey _ hv hn fun w' h1 h2 h3 => h w' ((hM.alloc _).insert h1 h2 h3 fun L' e => by
    have e2 : L' = L := by simpa using e.symm
    subst e2 hL
    exact ⟨by simp, hM.2.2.1, (Blk.new w t2 [.int .i64 key]).cell rfl⟩)
theorem wpList_insert_fn {P : Program} {w2 w : World} {es : List (Int × Value)} {ops : Array Oper} {rest : List Oper} {a : Act} {Q : Exit → Act → World → Prop} {m k x : Operand} {t ty : TypeId} {pos : String} {after : Array Edge} {kt et : TypeId} {key : Int} {f : FuncId} {fs cs : Array Value}
    (ht : P.underlying t = some (.map kt et)) (hk : P.underlying kt = some (.int .i64)) (hm : a.eval m = .map (some w2.heap.size)) (hkey : a.eval k = .int .i64 key) (hv : a.eval x = .func (.func f) fs cs) (hf : f ≠ 105)
    (hM : LitM w2.heap.size w2 w es) (hn : es.lookup key = none)
    (h : ∀ w', LitM w2.heap.size w2 w' (es ++ [(key, .func (.func f) fs cs)]) → wpList P ops Q rest a w') : wpList P ops Q (⟨none, .insert t m k x, ty, pos, after, none⟩ :: rest) a w :=
  wpList_insert_int rfl m k x t rfl ht hk hm hM.1 key hkey _ hv hn fun w' h1 h2 h3 => h w' (hM.insert h1 h2 h3 fun L' e => absurd (by simpa using congrArg (fun v => match v with | Value.func (.func g) _ _ => g | _ => 0) e) hf)
theorem formB_op {n : Nod} (h : formB n = true) (hk : n.kind = 6) : n.op ≤ 13 := by
  simp only [formB, Bool.and_eq_true] at h
  have h4 := h.2
  rw [kindOk_6 hk] at h4
  simp [inB] at h4
  omega
def NodeRes (base P : Nat) (st : List Int) (x : Nod) (w : World) (e : Ending) (w' : World) : Prop := e = .returned (.int .i64 (stepN st x).1) ∧ Below base w w' ∧ ∃ A c, StkW w' P base A c (stepN st x).2
theorem stepN_bad {st : List Int} {x : Nod} (h : formB x = false) : stepN st x = (190, st) := by simp [stepN, h]
theorem stepN_few {st : List Int} {x : Nod} (h : (st.length : Int) < x.parts) : stepN st x = (190, st) := by simp [stepN, h]
theorem stepN_mat {st : List Int} {x : Nod} (hf : formB x = true) (h : ¬ (st.length : Int) < x.parts) (hm : matCode x.mat ≠ 0) : stepN st x = (193, st) := by simp [stepN, h, hf, hm]
theorem stepN_go {st : List Int} {x : Nod} (hf : formB x = true) (h : ¬ (st.length : Int) < x.parts) (hm : matCode x.mat = 0) :
    stepN st x = ((ofN x (st.drop (st.length - x.parts.toNat))).2, st.take (st.length - x.parts.toNat) ++ [(ofN x (st.drop (st.length - x.parts.toNat))).1]) := by simp [stepN, h, hf, hm]
set_option maxRecDepth 100000 in
set_option maxHeartbeats 8000000 in
theorem tnode_any (x : Nod) (Am An : Option Addr) (cm cn B P base : Nat) (A : Option Addr) (c : Nat) (st : List Int) (w : World) (hrm : Rd w B 3 Am (matsC x.mat)) (hr : Rd w B 1 An (textsC x.names)) (hB : B ≤ base) (hbs : base ≤ w.heap.size) (hok : okNodT x) (hst : StkW w P base A c st) (hml : st.length * 8 + 8 ≤ 140737488355328) :
    Calls Tryz.prog 31 #[.pointer (some ⟨P, 0, none⟩), .agg #[.int .i64 x.kind, .int .i64 x.op, .string x.text, .slice Am x.mat.length cm, .int .i64 x.width, .int .i64 x.back, .int .i64 x.grp, .slice An x.names.length cn, .bool x.cmp, .int .i64 x.parts]] w (NodeRes base P st x w) := by
  have HOK := Lib.hid hok
  obtain ⟨o1, o2, o3, o4, o5⟩ := hok
  have hcap := hst.2.1.cap
  unfold maxLen at o2 o3 hcap
  have HST := Lib.hid hst
  have hmm := @run_makeMap_plain Tryz.prog
  have hmf : ∀ (fn : Fn) (first cap : Array Value) (w : World), (Instr.makeFunc fn first cap).run Tryz.prog w = .ok (.func fn first cap) w := fun _ _ _ _ => rfl
  go_enter Tryz.func31, Tryz.ntmps31
  go_wp2
  generalize hW : World.alloc _ _ = W0
  have hX : Blk W0 w.heap.size 41 (nodC x Am cm An cn) := by rw [← hW]; exact Blk.new w _ _
  have hb0 : Below w.heap.size w W0 := by rw [← hW]; exact (Below.refl _ _).alloc (Nat.le_refl _) _
  clear hW
  have hP := hst.1.below hb0 hst.1.lt
  have hsz0 := hb0.size
  clear hst
  have c0 := later_cell hX (j := 0) rfl
  have c1 := later_cell hX (j := 1) rfl
  have c2 := later_cell hX (j := 2) rfl
  have c3 := later_cell hX (j := 3) rfl
  have c4 := later_cell hX (j := 4) rfl
  have c5 := later_cell hX (j := 5) rfl
  have c6 := later_cell hX (j := 6) rfl
  have c7 := later_cell hX (j := 7) rfl
  have c8 := later_cell hX (j := 8) rfl
  have c9 := later_cell hX (j := 9) rfl
  have d0 := later_cell hP (j := 0) rfl
  have HF := fun (z : Later W0) => Lib.hid (tform_any x Am An cm cn B (later W0 z) (later_rd (hr.below (hb0.mono (Nat.le_trans hB hbs))) (Nat.le_trans hB (Nat.le_trans hbs hsz0)) z) (Nat.le_trans hB (Nat.le_trans hbs (Nat.le_trans hsz0 (later_size z)))) HOK.out)
  refine wp_region_later (by kernel_rfl) (by kernel_rfl) ?_
  repeat (any_goals (first | go_big_quiet_step ((go_at_call 64; exact later_call (HF _).out)) | quiet_step ((go_at_call 64; exact later_call (HF _).out)) | (refine wpQuiet_step (fun K hK => ?_); go_simp; split <;> (refine hK _ ?_; clear hK K))))
  all_goals
    refine wpQuiet_nil ?_
    intro _ hw'
    obtain ⟨z, rfl⟩ := hw'
    have hW := hb0.trans ((later_below z).mono hsz0)
    have HM := Lib.hid (matCheck_any x.mat Am x.mat.length cm B (later W0 z) (later_rd (hrm.below (hb0.mono (Nat.le_trans hB hbs))) (Nat.le_trans hB (Nat.le_trans hbs hsz0)) z) rfl (Nat.le_trans hB (Nat.le_trans hbs (Nat.le_trans hsz0 (later_size z)))) o3 o4)
    go_wp2_with (go_at_call 65; refine (HM.out).mono ?_; rintro e w2 ⟨rfl, hb2⟩)
  · go_ret
    exact ⟨ret_int (by rw [stepN_few ‹_›]), hW.mono hbs, A, c, by rw [stepN_few ‹_›]; exact HST.out.belowAll hW⟩
  · have hW2 := hW.trans (hb2.mono hW.size)
    have hf := ‹formB x = true›
    have hp : ¬ (st.length : Int) < x.parts := by omega
    have hm := bne_p ‹(matCode x.mat != 0) = true›
    go_ret
    exact ⟨ret_int (by rw [stepN_mat hf hp hm]), hW2.mono hbs, A, c, by rw [stepN_mat hf hp hm]; exact HST.out.belowAll hW2⟩
  · have hW2 := hW.trans (hb2.mono hW.size)
    have hX2 := (later_blk hX z).below hb2 (later_blk hX z).lt
    have hP2 := (later_blk hP z).below hb2 (later_blk hP z).lt
    have hf := ‹formB x = true›
    have hp : ¬ (st.length : Int) < x.parts := by omega
    have hm := bne_n ‹(matCode x.mat != 0) = false›
    have HG := Lib.hid (stepN_go hf hp hm)
    have HFm := Lib.hid hf
    have hO2 := HST.out.2.1.belowAll hW2
    clear hm hf HM HF
    obtain ⟨hp1, hp2, hp3, hp4⟩ := formB_parts HFm.out
    have HP1 := Lib.hid hp1
    clear hp1 c0 c1 c2 c3 c4 c5 c6 c7 c8 c9 d0
    have hsz2 := hW2.size
    have HL := LitM.new w2 rfl
    go_wp2_with (first
      | (go_at_call 66; refine (tleaf_any _ _).mono ?_; rintro e w' ⟨rfl, rfl⟩)
      | (apply wpList_insert_leaf (w2 := w2) Tryz.underlying99 Tryz.underlying3; rfl; rfl; rfl; exact HL; simp; rfl; intro wI HL2; clear HL; have HL := HL2; clear HL2)
      | (apply wpList_insert_fn (w2 := w2) Tryz.underlying99 Tryz.underlying3; rfl; rfl; rfl; decide; exact HL; rfl; intro wI HL2; clear HL; have HL := HL2; clear HL2))
    have hPI := hP2.below HL.2.1 hP2.lt
    have hXI := hX2.below HL.2.1 hX2.lt
    have hOI := hO2.belowAll HL.2.1
    have hWI := hW2.trans (HL.2.1.mono hsz2)
    have HM2 := HL.1
    have HC : LeafsAt w2.heap.size wI _ := HL.2.2.2
    have hszI := hWI.size
    clear HL hmm hmf
    obtain ⟨q, hq⟩ : ∃ q, st.length - x.parts.toNat = q := ⟨_, rfl⟩
    rw [hq] at HG
    have hfrom : IntKind.i64.wrap ((st.length : Int) - x.parts) = (q : Int) := by rw [IntKind.wrap_i64]; omega
    have hql : q ≤ st.length := by omega
    have hq0 : (0 : Int) ≤ q := by omega
    have hqI : (q : Int) ≤ st.length := by omega
    have hqp : st.length - q = x.parts.toNat := by omega
    have c9 := hXI.cell (j := 9) rfl
    have d0 := hPI.cell (j := 0) rfl
    have HQP := Lib.hid hqp
    clear hq hqp
    go_quiet (fail)
    go_wp2_with fail
    have hM3 : IntMap (wI.drewN nq) w2.heap.size _ := HM2
    have hP3 : Blk (wI.drewN nq) P _ _ := hPI
    have hX3 : Blk (wI.drewN nq) w.heap.size _ _ := hXI
    have hO3 : Own (wI.drewN nq) base _ 1 A st.length c (intsC st) := hOI
    have hW3 := below_drewN hWI nq
    have hs3 : w.heap.size ≤ (wI.drewN nq).heap.size := hszI
    have HC4 : LeafsAt w2.heap.size (wI.drewN nq) _ := HC
    clear HC hPI hXI hOI hWI hszI HM2 c9 d0 hP2 hX2 hO2 hW2 hsz2
    generalize wI.drewN nq = W3 at *
    have c0 := later_cell hX3 (j := 0) rfl
    have c1 := later_cell hX3 (j := 1) rfl
    have c2 := later_cell hX3 (j := 2) rfl
    have c3 := later_cell hX3 (j := 3) rfl
    have c4 := later_cell hX3 (j := 4) rfl
    have c5 := later_cell hX3 (j := 5) rfl
    have c6 := later_cell hX3 (j := 6) rfl
    have c7 := later_cell hX3 (j := 7) rfl
    have c8 := later_cell hX3 (j := 8) rfl
    have c9 := later_cell hX3 (j := 9) rfl
    have d0 := later_cell hP3 (j := 0) rfl
    simp only [List.nil_append, List.cons_append] at HC4 hM3
    have key : ∀ k : Int, x.kind = k → partsN k = x.parts := fun k e => by rw [← e]; exact HP1.out
    by_cases k1 : x.kind = 1
    · have HOf := Lib.hid (ofN_1 (p := st.drop q) k1)
      have hlk := fun z => run_lookup_int (w := later W3 z) Tryz.underlying99 Tryz.underlying3 (hM3.later z) x.kind (by rw [k1]; rfl)
      obtain ⟨l1, l2, l3⟩ := HC4 _ (List.mem_cons_self) _ rfl
      have l4 := later_at l1 l3
      have l5 := fun z : Later W3 => Nat.lt_of_lt_of_le l1 (later_size z)
      clear k1 HC4 hM3 key l1 l2 l3
      rcases hO3.form with ⟨rfl, h0, rfl⟩ | ⟨g, rfl, _, hg⟩
      · obtain rfl : st = [] := List.eq_nil_of_length_eq_zero h0
        obtain rfl : q = 0 := by simpa using hql
        clear h0
        refine wp_region_later (by kernel_rfl) (by kernel_rfl) ?_
        repeat (go_big_quiet_step ((go_at_call 105; exact later_call (tleaf1_any 1 _ _ _ _ rfl _ (l4 _) (l5 _)))))
        refine wpQuiet_nil ?_
        intro _ hw'
        obtain ⟨z, rfl⟩ := hw'
        have hP4 := later_blk hP3 z
        have hO4 := hO3.belowAll (later_below z)
        have hW4 := hW3.trans ((later_below z).mono hs3)
        have hs4 := hW4.size
        clear c0 c1 c2 c3 c4 c5 c6 c7 c8 c9 d0 hlk l4 l5 hP3 hX3 hO3 hW3 hs3
        generalize later W3 z = W4 at *
        have d0 := hP4.cell (j := 0) rfl
        go_wp2_with (at_builtin; refine wpList_append_rd (ys := [[.int .i64 1]]) _ rfl (.tmp 68) (.tmp 71) _ rfl eiTyped rfl ((hO4.cut hql).alloc _) rfl (Rd.new W4 (xs := [[.int .i64 1]]) (by simp) _ rfl) rfl (by intro y hy u hu; simp at hy; subst hy; simp at hu; subst hu; rfl) (by simp only [maxLen]; omega) (by omega) (by simp; omega) ?_; intro A' c' w5 ho hg hat hb5; have hP5 := (hP4.alloc _).grown hg (own_ne_blk (hO4.cut hql) hP4 (by decide)); have d5 := hP5.cell (j := 0) rfl; have f5 := hP5.frozen 0)
        all_goals
          go_ret
          have hE := HG.out
          rw [HOf.out] at hE
          refine ⟨ret_int (by rw [hE]), ?_, A', c', ?_⟩
          · exact (((hW4.mono hbs).alloc (by omega) _).trans hb5).setCell (p := ⟨P, 0, none⟩) HST.out.2.2 _
          · rw [hE]; exact StkW.laid (hP4.alloc _) HST.out.2.2 ((hO4.cut hql).alloc _) hql ho hg
      · clear hg
        refine wp_region_later (by kernel_rfl) (by kernel_rfl) ?_
        repeat (go_big_quiet_step ((go_at_call 105; exact later_call (tleaf1_any 1 _ _ _ _ rfl _ (l4 _) (l5 _)))))
        refine wpQuiet_nil ?_
        intro _ hw'
        obtain ⟨z, rfl⟩ := hw'
        have hP4 := later_blk hP3 z
        have hO4 := hO3.belowAll (later_below z)
        have hW4 := hW3.trans ((later_below z).mono hs3)
        have hs4 := hW4.size
        clear c0 c1 c2 c3 c4 c5 c6 c7 c8 c9 d0 hlk l4 l5 hP3 hX3 hO3 hW3 hs3
        generalize later W3 z = W4 at *
        have d0 := hP4.cell (j := 0) rfl
        go_wp2_with (at_builtin; refine wpList_append_rd (ys := [[.int .i64 1]]) _ rfl (.tmp 68) (.tmp 71) _ rfl eiTyped rfl ((hO4.cut hql).alloc _) rfl (Rd.new W4 (xs := [[.int .i64 1]]) (by simp) _ rfl) rfl (by intro y hy u hu; simp at hy; subst hy; simp at hu; subst hu; rfl) (by simp only [maxLen]; omega) (by omega) (by simp; omega) ?_; intro A' c' w5 ho hg hat hb5; have hP5 := (hP4.alloc _).grown hg (own_ne_blk (hO4.cut hql) hP4 (by decide)); have d5 := hP5.cell (j := 0) rfl; have f5 := hP5.frozen 0)
        all_goals
          go_ret
          have hE := HG.out
          rw [HOf.out] at hE
          refine ⟨ret_int (by rw [hE]), ?_, A', c', ?_⟩
          · exact (((hW4.mono hbs).alloc (by omega) _).trans hb5).setCell (p := ⟨P, 0, none⟩) HST.out.2.2 _
          · rw [hE]; exact StkW.laid (hP4.alloc _) HST.out.2.2 ((hO4.cut hql).alloc _) hql ho hg
    by_cases k2 : x.kind = 2
    · have HOf := Lib.hid (ofN_2 (p := st.drop q) k2)
      have hlk := fun z => run_lookup_int (w := later W3 z) Tryz.underlying99 Tryz.underlying3 (hM3.later z) x.kind (by rw [k2]; rfl)
      obtain ⟨l1, l2, l3⟩ := HC4 _ (List.mem_cons_of_mem _ List.mem_cons_self) _ rfl
      have l4 := later_at l1 l3
      have l5 := fun z : Later W3 => Nat.lt_of_lt_of_le l1 (later_size z)
      clear k2 HC4 hM3 key l1 l2 l3
      rcases hO3.form with ⟨rfl, h0, rfl⟩ | ⟨g, rfl, _, hg⟩
      · obtain rfl : st = [] := List.eq_nil_of_length_eq_zero h0
        obtain rfl : q = 0 := by simpa using hql
        clear h0
        refine wp_region_later (by kernel_rfl) (by kernel_rfl) ?_
        repeat (go_big_quiet_step ((go_at_call 105; exact later_call (tleaf1_any 2 _ _ _ _ rfl _ (l4 _) (l5 _)))))
        refine wpQuiet_nil ?_
        intro _ hw'
        obtain ⟨z, rfl⟩ := hw'
        have hP4 := later_blk hP3 z
        have hO4 := hO3.belowAll (later_below z)
        have hW4 := hW3.trans ((later_below z).mono hs3)
        have hs4 := hW4.size
        clear c0 c1 c2 c3 c4 c5 c6 c7 c8 c9 d0 hlk l4 l5 hP3 hX3 hO3 hW3 hs3
        generalize later W3 z = W4 at *
        have d0 := hP4.cell (j := 0) rfl
        go_wp2_with (at_builtin; refine wpList_append_rd (ys := [[.int .i64 2]]) _ rfl (.tmp 68) (.tmp 71) _ rfl eiTyped rfl ((hO4.cut hql).alloc _) rfl (Rd.new W4 (xs := [[.int .i64 2]]) (by simp) _ rfl) rfl (by intro y hy u hu; simp at hy; subst hy; simp at hu; subst hu; rfl) (by simp only [maxLen]; omega) (by omega) (by simp; omega) ?_; intro A' c' w5 ho hg hat hb5; have hP5 := (hP4.alloc _).grown hg (own_ne_blk (hO4.cut hql) hP4 (by decide)); have d5 := hP5.cell (j := 0) rfl; have f5 := hP5.frozen 0)
        all_goals
          go_ret
          have hE := HG.out
          rw [HOf.out] at hE
          refine ⟨ret_int (by rw [hE]), ?_, A', c', ?_⟩
          · exact (((hW4.mono hbs).alloc (by omega) _).trans hb5).setCell (p := ⟨P, 0, none⟩) HST.out.2.2 _
          · rw [hE]; exact StkW.laid (hP4.alloc _) HST.out.2.2 ((hO4.cut hql).alloc _) hql ho hg
      · clear hg
        refine wp_region_later (by kernel_rfl) (by kernel_rfl) ?_
        repeat (go_big_quiet_step ((go_at_call 105; exact later_call (tleaf1_any 2 _ _ _ _ rfl _ (l4 _) (l5 _)))))
        refine wpQuiet_nil ?_
        intro _ hw'
        obtain ⟨z, rfl⟩ := hw'
        have hP4 := later_blk hP3 z
        have hO4 := hO3.belowAll (later_below z)
        have hW4 := hW3.trans ((later_below z).mono hs3)
        have hs4 := hW4.size
        clear c0 c1 c2 c3 c4 c5 c6 c7 c8 c9 d0 hlk l4 l5 hP3 hX3 hO3 hW3 hs3
        generalize later W3 z = W4 at *
        have d0 := hP4.cell (j := 0) rfl
        go_wp2_with (at_builtin; refine wpList_append_rd (ys := [[.int .i64 2]]) _ rfl (.tmp 68) (.tmp 71) _ rfl eiTyped rfl ((hO4.cut hql).alloc _) rfl (Rd.new W4 (xs := [[.int .i64 2]]) (by simp) _ rfl) rfl (by intro y hy u hu; simp at hy; subst hy; simp at hu; subst hu; rfl) (by simp only [maxLen]; omega) (by omega) (by simp; omega) ?_; intro A' c' w5 ho hg hat hb5; have hP5 := (hP4.alloc _).grown hg (own_ne_blk (hO4.cut hql) hP4 (by decide)); have d5 := hP5.cell (j := 0) rfl; have f5 := hP5.frozen 0)
        all_goals
          go_ret
          have hE := HG.out
          rw [HOf.out] at hE
          refine ⟨ret_int (by rw [hE]), ?_, A', c', ?_⟩
          · exact (((hW4.mono hbs).alloc (by omega) _).trans hb5).setCell (p := ⟨P, 0, none⟩) HST.out.2.2 _
          · rw [hE]; exact StkW.laid (hP4.alloc _) HST.out.2.2 ((hO4.cut hql).alloc _) hql ho hg
    by_cases k3 : x.kind = 3
    · have HOf := Lib.hid (ofN_3 (p := st.drop q) k3)
      have hlk := fun z => run_lookup_int (w := later W3 z) Tryz.underlying99 Tryz.underlying3 (hM3.later z) x.kind (by rw [k3]; rfl)
      obtain ⟨l1, l2, l3⟩ := HC4 _ (List.mem_cons_of_mem _ (List.mem_cons_of_mem _ List.mem_cons_self)) _ rfl
      have l4 := later_at l1 l3
      have l5 := fun z : Later W3 => Nat.lt_of_lt_of_le l1 (later_size z)
      clear k3 HC4 hM3 key l1 l2 l3
      rcases hO3.form with ⟨rfl, h0, rfl⟩ | ⟨g, rfl, _, hg⟩
      · obtain rfl : st = [] := List.eq_nil_of_length_eq_zero h0
        obtain rfl : q = 0 := by simpa using hql
        clear h0
        refine wp_region_later (by kernel_rfl) (by kernel_rfl) ?_
        repeat (go_big_quiet_step ((go_at_call 105; exact later_call (tleaf1_any 3 _ _ _ _ rfl _ (l4 _) (l5 _)))))
        refine wpQuiet_nil ?_
        intro _ hw'
        obtain ⟨z, rfl⟩ := hw'
        have hP4 := later_blk hP3 z
        have hO4 := hO3.belowAll (later_below z)
        have hW4 := hW3.trans ((later_below z).mono hs3)
        have hs4 := hW4.size
        clear c0 c1 c2 c3 c4 c5 c6 c7 c8 c9 d0 hlk l4 l5 hP3 hX3 hO3 hW3 hs3
        generalize later W3 z = W4 at *
        have d0 := hP4.cell (j := 0) rfl
        go_wp2_with (at_builtin; refine wpList_append_rd (ys := [[.int .i64 3]]) _ rfl (.tmp 68) (.tmp 71) _ rfl eiTyped rfl ((hO4.cut hql).alloc _) rfl (Rd.new W4 (xs := [[.int .i64 3]]) (by simp) _ rfl) rfl (by intro y hy u hu; simp at hy; subst hy; simp at hu; subst hu; rfl) (by simp only [maxLen]; omega) (by omega) (by simp; omega) ?_; intro A' c' w5 ho hg hat hb5; have hP5 := (hP4.alloc _).grown hg (own_ne_blk (hO4.cut hql) hP4 (by decide)); have d5 := hP5.cell (j := 0) rfl; have f5 := hP5.frozen 0)
        all_goals
          go_ret
          have hE := HG.out
          rw [HOf.out] at hE
          refine ⟨ret_int (by rw [hE]), ?_, A', c', ?_⟩
          · exact (((hW4.mono hbs).alloc (by omega) _).trans hb5).setCell (p := ⟨P, 0, none⟩) HST.out.2.2 _
          · rw [hE]; exact StkW.laid (hP4.alloc _) HST.out.2.2 ((hO4.cut hql).alloc _) hql ho hg
      · clear hg
        refine wp_region_later (by kernel_rfl) (by kernel_rfl) ?_
        repeat (go_big_quiet_step ((go_at_call 105; exact later_call (tleaf1_any 3 _ _ _ _ rfl _ (l4 _) (l5 _)))))
        refine wpQuiet_nil ?_
        intro _ hw'
        obtain ⟨z, rfl⟩ := hw'
        have hP4 := later_blk hP3 z
        have hO4 := hO3.belowAll (later_below z)
        have hW4 := hW3.trans ((later_below z).mono hs3)
        have hs4 := hW4.size
        clear c0 c1 c2 c3 c4 c5 c6 c7 c8 c9 d0 hlk l4 l5 hP3 hX3 hO3 hW3 hs3
        generalize later W3 z = W4 at *
        have d0 := hP4.cell (j := 0) rfl
        go_wp2_with (at_builtin; refine wpList_append_rd (ys := [[.int .i64 3]]) _ rfl (.tmp 68) (.tmp 71) _ rfl eiTyped rfl ((hO4.cut hql).alloc _) rfl (Rd.new W4 (xs := [[.int .i64 3]]) (by simp) _ rfl) rfl (by intro y hy u hu; simp at hy; subst hy; simp at hu; subst hu; rfl) (by simp only [maxLen]; omega) (by omega) (by simp; omega) ?_; intro A' c' w5 ho hg hat hb5; have hP5 := (hP4.alloc _).grown hg (own_ne_blk (hO4.cut hql) hP4 (by decide)); have d5 := hP5.cell (j := 0) rfl; have f5 := hP5.frozen 0)
        all_goals
          go_ret
          have hE := HG.out
          rw [HOf.out] at hE
          refine ⟨ret_int (by rw [hE]), ?_, A', c', ?_⟩
          · exact (((hW4.mono hbs).alloc (by omega) _).trans hb5).setCell (p := ⟨P, 0, none⟩) HST.out.2.2 _
          · rw [hE]; exact StkW.laid (hP4.alloc _) HST.out.2.2 ((hO4.cut hql).alloc _) hql ho hg
    by_cases k4 : x.kind = 4
    · have hpt := key 4 k4
      have hp1 : x.parts = 1 := by rw [← hpt]; rfl
      have hlen : (st.drop q).length = 1 := by rw [List.length_drop, HQP.out, hp1]; rfl
      obtain ⟨p0, hp0⟩ : ∃ p0, st.drop q = [p0] := by
        match st.drop q, hlen with
        | [p0], _ => exact ⟨p0, rfl⟩
      rw [hp0] at HG
      have hlk := fun z => run_lookup_int (w := later W3 z) Tryz.underlying99 Tryz.underlying3 (hM3.later z) x.kind (by rw [k4]; rfl)
      have hq1 : q + 1 = st.length := by rw [List.length_drop] at hlen; omega
      have hat0 : (intsC st)[q]? = some [.int .i64 p0] := intsC_at (by have := congrArg (fun l => l[0]?) hp0; simpa using this)
      rcases hO3.form with ⟨_, h0, _⟩ | ⟨g, rfl, _, hg⟩
      · omega
      have q0 := hO3.rd.at1 hat0
      obtain ⟨b, o, e, _, hc⟩ := q0
      injection e with e
      injection e with e1 e2
      subst e1 e2
      have l4 := later_at hg hc
      have l5 := fun z : Later W3 => Nat.lt_of_lt_of_le hg (later_size z)
      have hcap3 := hO3.cap
      have hcq : ¬ c = q := by omega
      have hnq : st.length - q = 1 := by omega
      have HK := Lib.hid k4
      clear k4 HC4 hM3 key hpt hp1 hlen hp0 hat0 hc hg hq1
      refine wp_region_later (by kernel_rfl) (by kernel_rfl) ?_
      repeat (go_big_quiet_step ((go_at_call 67; exact later_call (tcall_any x Am An cm cn _ p0 _ _ _ _ (by simpa using l4 _) (l5 _) HK.out))))
      refine wpQuiet_nil ?_
      intro _ hw'
      obtain ⟨z, rfl⟩ := hw'
      have hP4 := later_blk hP3 z
      have hO4 := hO3.belowAll (later_below z)
      have hW4 := hW3.trans ((later_below z).mono hs3)
      have hs4 := hW4.size
      clear c0 c1 c2 c3 c4 c5 c6 c7 c8 c9 d0 hlk l4 l5 hP3 hX3 hO3 hW3 hs3
      generalize later W3 z = W4 at *
      have d0 := hP4.cell (j := 0) rfl
      go_wp2_with (at_builtin; refine wpList_append_rd (ys := [[.int .i64 (ofN x [p0]).1]]) _ rfl (.tmp 68) (.tmp 71) _ rfl eiTyped rfl ((hO4.cut hql).alloc _) rfl (Rd.new W4 (xs := [[.int .i64 (ofN x [p0]).1]]) (by simp) _ rfl) rfl (by intro y hy u hu; simp at hy; subst hy; simp at hu; subst hu; rfl) (by simp only [maxLen]; omega) (by omega) (by simp; omega) ?_; intro A' c' w5 ho hg hat hb5; have hP5 := (hP4.alloc _).grown hg (own_ne_blk (hO4.cut hql) hP4 (by decide)); have d5 := hP5.cell (j := 0) rfl; have f5 := hP5.frozen 0)
      all_goals
        go_ret
        have hE := HG.out
        refine ⟨ret_int (by rw [hE]), ?_, A', c', ?_⟩
        · exact (((hW4.mono hbs).alloc (by omega) _).trans hb5).setCell (p := ⟨P, 0, none⟩) HST.out.2.2 _
        · rw [hE]; exact StkW.laid (hP4.alloc _) HST.out.2.2 ((hO4.cut hql).alloc _) hql ho hg
    by_cases k5 : x.kind = 5
    · have hpt := key 5 k5
      have hp1 : x.parts = 1 := by rw [← hpt]; rfl
      have hlen : (st.drop q).length = 1 := by rw [List.length_drop, HQP.out, hp1]; rfl
      obtain ⟨p0, hp0⟩ : ∃ p0, st.drop q = [p0] := by
        match st.drop q, hlen with
        | [p0], _ => exact ⟨p0, rfl⟩
      rw [hp0] at HG
      have hlk := fun z => run_lookup_int (w := later W3 z) Tryz.underlying99 Tryz.underlying3 (hM3.later z) x.kind (by rw [k5]; rfl)
      have hq1 : q + 1 = st.length := by rw [List.length_drop] at hlen; omega
      have hat0 : (intsC st)[q]? = some [.int .i64 p0] := intsC_at (by have := congrArg (fun l => l[0]?) hp0; simpa using this)
      rcases hO3.form with ⟨_, h0, _⟩ | ⟨g, rfl, _, hg⟩
      · omega
      have q0 := hO3.rd.at1 hat0
      obtain ⟨b, o, e, _, hc⟩ := q0
      injection e with e
      injection e with e1 e2
      subst e1 e2
      have l4 := later_at hg hc
      have l5 := fun z : Later W3 => Nat.lt_of_lt_of_le hg (later_size z)
      have hcap3 := hO3.cap
      have hcq : ¬ c = q := by omega
      have hnq : st.length - q = 1 := by omega
      have HK := Lib.hid k5
      clear k5 HC4 hM3 key hpt hp1 hlen hp0 hat0 hc hg hq1
      refine wp_region_later (by kernel_rfl) (by kernel_rfl) ?_
      repeat (go_big_quiet_step ((go_at_call 68; exact later_call (tagg_any x Am An cm cn _ p0 _ _ _ _ (by simpa using l4 _) (l5 _) HK.out))))
      refine wpQuiet_nil ?_
      intro _ hw'
      obtain ⟨z, rfl⟩ := hw'
      have hP4 := later_blk hP3 z
      have hO4 := hO3.belowAll (later_below z)
      have hW4 := hW3.trans ((later_below z).mono hs3)
      have hs4 := hW4.size
      clear c0 c1 c2 c3 c4 c5 c6 c7 c8 c9 d0 hlk l4 l5 hP3 hX3 hO3 hW3 hs3
      generalize later W3 z = W4 at *
      have d0 := hP4.cell (j := 0) rfl
      go_wp2_with (at_builtin; refine wpList_append_rd (ys := [[.int .i64 (ofN x [p0]).1]]) _ rfl (.tmp 68) (.tmp 71) _ rfl eiTyped rfl ((hO4.cut hql).alloc _) rfl (Rd.new W4 (xs := [[.int .i64 (ofN x [p0]).1]]) (by simp) _ rfl) rfl (by intro y hy u hu; simp at hy; subst hy; simp at hu; subst hu; rfl) (by simp only [maxLen]; omega) (by omega) (by simp; omega) ?_; intro A' c' w5 ho hg hat hb5; have hP5 := (hP4.alloc _).grown hg (own_ne_blk (hO4.cut hql) hP4 (by decide)); have d5 := hP5.cell (j := 0) rfl; have f5 := hP5.frozen 0)
      all_goals
        go_ret
        have hE := HG.out
        refine ⟨ret_int (by rw [hE]), ?_, A', c', ?_⟩
        · exact (((hW4.mono hbs).alloc (by omega) _).trans hb5).setCell (p := ⟨P, 0, none⟩) HST.out.2.2 _
        · rw [hE]; exact StkW.laid (hP4.alloc _) HST.out.2.2 ((hO4.cut hql).alloc _) hql ho hg
    by_cases k7 : x.kind = 7
    · have hpt := key 7 k7
      have hp1 : x.parts = 1 := by rw [← hpt]; rfl
      have hlen : (st.drop q).length = 1 := by rw [List.length_drop, HQP.out, hp1]; rfl
      obtain ⟨p0, hp0⟩ : ∃ p0, st.drop q = [p0] := by
        match st.drop q, hlen with
        | [p0], _ => exact ⟨p0, rfl⟩
      rw [hp0] at HG
      have hlk := fun z => run_lookup_int (w := later W3 z) Tryz.underlying99 Tryz.underlying3 (hM3.later z) x.kind (by rw [k7]; rfl)
      have hq1 : q + 1 = st.length := by rw [List.length_drop] at hlen; omega
      have hat0 : (intsC st)[q]? = some [.int .i64 p0] := intsC_at (by have := congrArg (fun l => l[0]?) hp0; simpa using this)
      rcases hO3.form with ⟨_, h0, _⟩ | ⟨g, rfl, _, hg⟩
      · omega
      have q0 := hO3.rd.at1 hat0
      obtain ⟨b, o, e, _, hc⟩ := q0
      injection e with e
      injection e with e1 e2
      subst e1 e2
      have l4 := later_at hg hc
      have l5 := fun z : Later W3 => Nat.lt_of_lt_of_le hg (later_size z)
      have hcap3 := hO3.cap
      have hcq : ¬ c = q := by omega
      have hnq : st.length - q = 1 := by omega
      have HK := Lib.hid k7
      clear k7 HC4 hM3 key hpt hp1 hlen hp0 hat0 hc hg hq1
      refine wp_region_later (by kernel_rfl) (by kernel_rfl) ?_
      repeat (go_big_quiet_step ((go_at_call 70; exact later_call (tneg_any x Am An cm cn _ p0 _ _ _ _ (by simpa using l4 _) (l5 _) HK.out))))
      refine wpQuiet_nil ?_
      intro _ hw'
      obtain ⟨z, rfl⟩ := hw'
      have hP4 := later_blk hP3 z
      have hO4 := hO3.belowAll (later_below z)
      have hW4 := hW3.trans ((later_below z).mono hs3)
      have hs4 := hW4.size
      clear c0 c1 c2 c3 c4 c5 c6 c7 c8 c9 d0 hlk l4 l5 hP3 hX3 hO3 hW3 hs3
      generalize later W3 z = W4 at *
      have d0 := hP4.cell (j := 0) rfl
      go_wp2_with (at_builtin; refine wpList_append_rd (ys := [[.int .i64 (ofN x [p0]).1]]) _ rfl (.tmp 68) (.tmp 71) _ rfl eiTyped rfl ((hO4.cut hql).alloc _) rfl (Rd.new W4 (xs := [[.int .i64 (ofN x [p0]).1]]) (by simp) _ rfl) rfl (by intro y hy u hu; simp at hy; subst hy; simp at hu; subst hu; rfl) (by simp only [maxLen]; omega) (by omega) (by simp; omega) ?_; intro A' c' w5 ho hg hat hb5; have hP5 := (hP4.alloc _).grown hg (own_ne_blk (hO4.cut hql) hP4 (by decide)); have d5 := hP5.cell (j := 0) rfl; have f5 := hP5.frozen 0)
      all_goals
        go_ret
        have hE := HG.out
        refine ⟨ret_int (by rw [hE]), ?_, A', c', ?_⟩
        · exact (((hW4.mono hbs).alloc (by omega) _).trans hb5).setCell (p := ⟨P, 0, none⟩) HST.out.2.2 _
        · rw [hE]; exact StkW.laid (hP4.alloc _) HST.out.2.2 ((hO4.cut hql).alloc _) hql ho hg
    have hk : x.kind = 6 := by omega
    have hpt := key 6 hk
    have hp1 : x.parts = 2 := by rw [← hpt]; rfl
    have hlen : (st.drop q).length = 2 := by rw [List.length_drop, HQP.out, hp1]; rfl
    obtain ⟨p0, p1, hp0⟩ : ∃ p0 p1, st.drop q = [p0, p1] := by
      match st.drop q, hlen with
      | [p0, p1], _ => exact ⟨p0, p1, rfl⟩
    rw [hp0] at HG
    have hlk := fun z => run_lookup_int (w := later W3 z) Tryz.underlying99 Tryz.underlying3 (hM3.later z) x.kind (by rw [hk]; rfl)
    have hq1 : q + 2 = st.length := by rw [List.length_drop] at hlen; omega
    have hat0 : (intsC st)[q]? = some [.int .i64 p0] := intsC_at (by have := congrArg (fun l => l[0]?) hp0; simpa using this)
    have hat1 : (intsC st)[q + 1]? = some [.int .i64 p1] := intsC_at (by have := congrArg (fun l => l[1]?) hp0; simpa using this)
    rcases hO3.form with ⟨_, h0, _⟩ | ⟨g, rfl, _, hg⟩
    · omega
    obtain ⟨b, o, e, _, hc⟩ := hO3.rd.at1 hat0
    injection e with e
    injection e with e1 e2
    subst e1 e2
    obtain ⟨b, o, e, _, hc1⟩ := hO3.rd.at1 hat1
    injection e with e
    injection e with e1 e2
    subst e1 e2
    have l4 := later_at hg hc
    have l6 := later_at hg hc1
    have l5 := fun z : Later W3 => Nat.lt_of_lt_of_le hg (later_size z)
    have hcap3 := hO3.cap
    have hcq : ¬ c = q := by omega
    have hnq : st.length - q = 2 := by omega
    have HK := Lib.hid hk
    have hop : x.op ≤ 13 := formB_op HFm.out hk
    clear k1 k2 k3 k4 k5 k7 hk HC4 hM3 key hpt hp1 hlen hp0 hat0 hat1 hc hc1 hg hq1
    refine wp_region_later (by kernel_rfl) (by kernel_rfl) ?_
    repeat (go_big_quiet_step ((go_at_call 69; exact later_call (tbin_any x Am An cm cn _ p0 p1 _ _ _ _ (by simpa using l4 _) (by simpa [Nat.add_assoc] using l6 _) (l5 _) HK.out hop))))
    refine wpQuiet_nil ?_
    intro _ hw'
    obtain ⟨z, rfl⟩ := hw'
    have hP4 := later_blk hP3 z
    have hO4 := hO3.belowAll (later_below z)
    have hW4 := hW3.trans ((later_below z).mono hs3)
    have hs4 := hW4.size
    clear c0 c1 c2 c3 c4 c5 c6 c7 c8 c9 d0 hlk l4 l5 l6 hP3 hX3 hO3 hW3 hs3
    generalize later W3 z = W4 at *
    have d0 := hP4.cell (j := 0) rfl
    go_wp2_with (at_builtin; refine wpList_append_rd (ys := [[.int .i64 (ofN x [p0, p1]).1]]) _ rfl (.tmp 68) (.tmp 71) _ rfl eiTyped rfl ((hO4.cut hql).alloc _) rfl (Rd.new W4 (xs := [[.int .i64 (ofN x [p0, p1]).1]]) (by simp) _ rfl) rfl (by intro y hy u hu; simp at hy; subst hy; simp at hu; subst hu; rfl) (by simp only [maxLen]; omega) (by omega) (by simp; omega) ?_; intro A' c' w5 ho hg hat hb5; have hP5 := (hP4.alloc _).grown hg (own_ne_blk (hO4.cut hql) hP4 (by decide)); have d5 := hP5.cell (j := 0) rfl; have f5 := hP5.frozen 0)
    all_goals
      go_ret
      have hE := HG.out
      refine ⟨ret_int (by rw [hE]), ?_, A', c', ?_⟩
      · exact (((hW4.mono hbs).alloc (by omega) _).trans hb5).setCell (p := ⟨P, 0, none⟩) HST.out.2.2 _
      · rw [hE]; exact StkW.laid (hP4.alloc _) HST.out.2.2 ((hO4.cut hql).alloc _) hql ho hg
  · have hf : formB x = false := by simpa using ‹¬ formB x = true›
    go_ret
    exact ⟨ret_int (by rw [stepN_bad hf]), hW.mono hbs, A, c, by rw [stepN_bad hf]; exact HST.out.belowAll hW⟩
end
section
open Go.RowKit
theorem stepN_len (st : List Int) (n : Nod) : (stepN st n).2.length ≤ st.length + 1 := by
  unfold stepN
  split
  · simp
  · split
    · simp
    · simp; try omega
theorem runN_step {ns : List Nod} {k : Nat} {x : Nod} {st : List Int} (hx : ns[k]? = some x) (h0 : (stepN st x).1 = 0) : runN' (ns.drop (k + 1)) (k + 1) (stepN st x).2 = runN' (ns.drop k) k st := by
  obtain ⟨hk, e⟩ := List.getElem?_eq_some_iff.1 hx
  rw [List.drop_eq_getElem_cons hk, e, runN', if_pos h0]
theorem runN_stop {ns : List Nod} {k : Nat} {x : Nod} {st : List Int} (hx : ns[k]? = some x) (h0 : (stepN st x).1 ≠ 0) : runN' (ns.drop k) k st = .error (k, (stepN st x).1) := by
  obtain ⟨hk, e⟩ := List.getElem?_eq_some_iff.1 hx
  rw [List.drop_eq_getElem_cons hk, e, runN', if_neg h0]
theorem checkN_err {ns : List Nod} {k : Nat} {e : Int} (h : runN' ns 0 [] = .error (k, e)) : checkN ns = (0, k, e) := by rw [checkN, h]
theorem checkN_bad {ns : List Nod} {st : List Int} (h : runN' ns 0 [] = .ok st) (hb : st.length ≠ 1 ∨ 4096 < ns.length) : checkN ns = (0, ns.length, 190) := by rw [checkN, h]; simp only; rw [if_pos hb]
theorem checkN_good {ns : List Nod} {st : List Int} (h : runN' ns 0 [] = .ok st) (h1 : st.length = 1) (h2 : ¬ 4096 < ns.length) : checkN ns = (st.getD 0 0, 0, 0) := by rw [checkN, h]; simp only; rw [if_neg (by omega)]
theorem ret_three {a b c d e f : Int} (h1 : a = d) (h2 : b = e) (h3 : c = f) : Ending.returned (.tuple #[.int .i64 a, .int .i64 b, .int .i64 c]) = .returned (.tuple #[.int .i64 d, .int .i64 e, .int .i64 f]) := by rw [h1, h2, h3]
def CheckRes (ns : List Nod) (w : World) (e : Ending) (w' : World) : Prop := e = .returned (.tuple #[.int .i64 (checkN ns).1, .int .i64 (checkN ns).2.1, .int .i64 (checkN ns).2.2]) ∧ Below w.heap.size w w'
set_option maxRecDepth 100000 in
set_option maxHeartbeats 4000000 in
theorem tcheck_any (ns : List Nod) (A1 : Option Addr) (n1 c1 B1 : Nat) (w : World) (h1 : RdNods w B1 A1 ns) (hn1 : ns.length = n1) (hB : B1 ≤ w.heap.size) (hm1 : n1 * 120 ≤ 140737488355328) (hok : ∀ x ∈ ns, okNodT x) :
    Calls Tryz.prog 15 #[.slice A1 n1 c1] w (CheckRes ns w) := by
  have Hn1 := Lib.hid hn1
  have HOK := Lib.hid hok
  clear hn1 hok
  go_enter Tryz.func15, Tryz.ntmps15
  go_wp2
  go_loopw [13] (fun i wr => ∃ (k c : Nat) (A : Option Addr) (st : List Int), k ≤ n1 ∧ i = .int .i64 k ∧ st.length ≤ k ∧ StkW wr w.heap.size w.heap.size A c st ∧ Hid (runN' (ns.drop k) k st = runN' ns 0 []) ∧ Below w.heap.size w wr) (fun i _ => n1 - (intOf i).toNat)
  case atStart => exact ⟨0, 0, none, [], by omega, rfl, by simp, ⟨Blk.new w _ [.slice none 0 0], Own.nil_ (by omega), Nat.le_refl _⟩, rfl, (Below.refl _ _).alloc (Nat.le_refl _) _⟩
  case round =>
    obtain ⟨k, c, A, st, hk, rfl, hst, hS, HR, hb⟩ := hrel
    have hk0 : (0 : Int) ≤ (k : Int) := Int.natCast_nonneg _
    have hsz := hb.size
    have hPlt := hS.1.lt
    by_cases hlt : k < n1
    · have hk1 : (k : Int) < (n1 : Int) := by omega
      obtain ⟨x, e1⟩ := get_lt Hn1 hlt
      obtain ⟨b1, o1, Am, cm, An, cn, hA1, hb1, p0, p1, p2, p3, p4, p5, p6, p7, p8, p9, r1, r2, _, _, _, _⟩ := (h1.below (hb.mono hB)).at_ e1
      subst hA1
      have E1 := Lib.hid e1
      have hbl : b1 < wr.heap.size := by omega
      have ok := HOK.out x (List.mem_of_getElem? e1)
      have HX := Lib.hid ok
      clear e1 ok
      have hbX := (Below.refl wr.heap.size wr).alloc (Nat.le_refl _) (.cells (nodC x Am cm An cn).toArray 41)
      have HNd := Lib.hid (tnode_any x Am An cm cn B1 w.heap.size w.heap.size A c st (wr.alloc (.cells (nodC x Am cm An cn).toArray 41)) ((r1.below (hbX.mono (by omega)))) ((r2.below (hbX.mono (by omega)))) hB (by simp; omega) HX.out (hS.belowAll hbX) (by omega))
      go_wp2_with fail
      refine (HNd.out).mono ?_
      rintro e w2 ⟨rfl, hb2, A', c', hS2⟩
      have hbn := (hb.alloc hsz (.cells (nodC x Am cm An cn).toArray 41)).trans hb2
      clear HNd hbX r1 r2 p0 p1 p2 p3 p4 p5 p6 p7 p8 p9 hS
      by_cases h0 : (stepN st x).1 = 0
      · have HR2 := (runN_step E1.out h0).trans HR.out
        have hl2 := stepN_len st x
        have HR3 := Lib.hid HR2
        clear HR2
        rw [h0]
        go_wp2
        go_roundw
        case rel => exact ⟨k + 1, c', A', (stepN st x).2, by omega, by go_num, by omega, hS2, HR3, hbn⟩
        case measure => simp [intOf]; omega
      · have HC := Lib.hid (checkN_err ((HR.out.symm).trans (runN_stop E1.out h0)))
        have hne : ((stepN st x).1 == 0) = false := by rw [beq_eq_false_iff_ne]; exact h0
        have hne' : ((stepN st x).1 != 0) = true := by rw [bne_iff_ne]; exact h0
        clear h0
        go_wp2
        go_ret3
        exact ⟨by rw [HC.out]; exact ret_three rfl rfl rfl, hbn⟩
    · have hkn : k = n1 := by omega
      have hkI : ¬ (k : Int) < n1 := by omega
      have HR2 : Hid (runN' ns 0 [] = .ok st) := by
        have := HR.out
        rw [List.drop_of_length_le (by have := Hn1.out; omega)] at this
        exact this.symm
      have q0 := hS.1.cell (j := 0) rfl
      clear hkn
      by_cases h1 : st.length = 1 ∧ ¬ 4096 < n1
      · obtain ⟨h1, h2⟩ := h1
        match st, h1 with
        | [v], _ =>
          have HC := Lib.hid (checkN_good HR2.out rfl (by rw [Hn1.out]; exact h2))
          rcases hS.2.1.form with ⟨_, h0, _⟩ | ⟨g, rfl, _, hg⟩
          · simp at h0
          obtain ⟨b, o, e, _, hc⟩ := hS.2.1.rd.at1 (k := 0) (v0 := .int .i64 v) rfl
          injection e with e
          injection e with e1 e2
          subst e1 e2
          have h2I : ¬ (4096 : Int) < n1 := by omega
          clear h2
          go_wp2
          go_ret3
          exact ⟨by rw [HC.out]; exact ret_three rfl rfl rfl, hb⟩
      · have HC := Lib.hid (checkN_bad HR2.out (by rw [Hn1.out]; omega))
        by_cases h2 : st.length = 1
        · have h3 : (4096 : Int) < n1 := by omega
          have h4 : ((st.length : Int) != 1) = false := by rw [bne_eq_false_iff_eq]; omega
          have h5 : ((st.length : Int) == 1) = true := by rw [beq_iff_eq]; omega
          clear h1 h2
          go_wp2
          go_ret3
          exact ⟨by rw [HC.out]; exact ret_three rfl (by show (n1 : Int) = (ns.length : Int); rw [Hn1.out]) rfl, hb⟩
        · have h4 : ((st.length : Int) != 1) = true := by rw [bne_iff_ne]; omega
          have h5 : ((st.length : Int) == 1) = false := by rw [beq_eq_false_iff_ne]; omega
          clear h1 h2
          go_wp2
          go_ret3
          exact ⟨by rw [HC.out]; exact ret_three rfl (by show (n1 : Int) = (ns.length : Int); rw [Hn1.out]) rfl, hb⟩
end
end Go.Proofs.YtakfnojiaakfpaaGreatDoor
