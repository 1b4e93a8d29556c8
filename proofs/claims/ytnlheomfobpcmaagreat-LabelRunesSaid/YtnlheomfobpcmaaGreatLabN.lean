/- slices.Insert of one label into a row of the call's own. -/
import Derived.Test.YtnlheomfobpcmaaGreatLabF
import Derived.Lib.Overlaps
import Derived.Lib.AppendZeros
import Derived.Laws.CopyRow
import Derived.Laws.CopyOwn
import Derived.Shelf.Spec.SlicesInsert
namespace Go.Proofs.YtnlheomfobpcmaaGreat
open Go.RowKit

/-- copy onto a block whose cells are all told, from wherever; elements of several cells. -/
theorem run_copy_sz {P : Program} (w : World) (dT sT ty elem : TypeId) (sz g o dLen dCap : Nat) (a : Addr) (sLen sCap : Nat) (cur : Array Value) (t : TypeId) (cs : List Value)
    (hu : P.underlying dT = some (.slice elem)) (hs : (P.info? elem).map (·.size) = some sz)
    (hg : w.heap[g]? = some (.cells cur t (0, 0))) {m : Nat} (hm : Nat.min sLen dLen = m) (hn : cs.length = m * sz)
    (hsrc : ∀ j v, cs[j]? = some v → w.cell? (a.add j) = some v) (hfit : o + cs.length ≤ cur.size) (h1 : ∀ v ∈ cs, v.oneCell' = true) :
    (Builtin.copy_ #[dT, sT] ty #[.slice (some ⟨g, o, none⟩) dLen dCap, .slice (some a) sLen sCap]).run P w =
      .ok (goInt m) (w.setRow g (cur.toList.take o ++ cs ++ cur.toList.drop (o + cs.length)).toArray) := by
  have hl := run_loadCells_list (P := P) w a cs hsrc
  have hst := run_storeCells_at P g o t cs 0 cur w hg (by simpa using hfit) h1
  rw [hn] at hl
  cases hq : P.info? elem with
  | none => simp [hq] at hs
  | some i =>
    have hi : i.size = sz := by simpa [hq] using hs
    simp [Builtin.copy_, run_underlying hu, Builtin.lenOf, Builtin.firstCells, sizeOf, typeInfo, hq, hi, hm, hl, hst]
theorem run_append_grow_zeros {P : Program} (w : World) (t tn ty e : TypeId) (i : TypeInfo) (z : Value) (k : IntKind) (kn : IntKind) (ht : P.underlying t = some (.slice e)) (htn : P.underlying tn = some (.int kn)) (hi : P.info? e = some i) (hz : i.zero = some z)
    (b : Addr) (sLen sCap : Nat) (olds : List Value) (hlo : olds.length = sLen * i.size) (holds : ∀ j v, olds[j]? = some v → w.cell? (b.add j) = some v)
    (n : Nat) (h0 : 0 < n) (hs : 0 < i.size) (hg : sCap < sLen + n) (h63 : ((sLen + n : Nat) : Int) ≤ 9223372036854775807) (hfit : Builtin.nextslicecap (sLen + n) sCap * i.bytes ≤ 281474976710656) (hfn : n * i.bytes ≤ 281474976710656) :
    (Builtin.append_ #[t, tn] ty #[.slice (some b) sLen sCap, .int k n]).run P w =
      .ok (.slice (some ⟨w.heap.size, 0, none⟩) (sLen + n) (grownCap w (sLen + n) sCap e))
        (w.drew.alloc (.cells (olds.toArray ++ Builtin.zeroCells z.cells n ++ Builtin.zeroCells z.cells (grownCap w (sLen + n) sCap e - (sLen + n))) e)) := by
  have hn : ¬ (sLen + n ≤ sCap) := by omega
  have h63' : ¬ (9223372036854775807 < ((sLen : Int) + (n : Int))) := by omega
  have h48' : ¬ (281474976710656 < Builtin.nextslicecap (sLen + n) sCap * i.bytes) := by omega
  have hw : IntKind.i64.wrap (n : Int) = n := by rw [IntKind.wrap_i64]; omega
  have h48i : ¬ (281474976710656 < (n : Int) * (i.bytes : Int)) := by rw [← Int.natCast_mul]; omega
  have hneg : ¬ ((n : Int) < 0) := by omega
  have hns : ¬ (n * i.size = 0) := Nat.mul_ne_zero (by omega) (by omega)
  have hfo := run_firstCells_some (P := P) w.drew i.size sLen b sLen sCap olds hlo (by simpa using holds)
  simp [Builtin.append_, run_underlying ht, run_underlying htn, sizeOf, typeInfo, zeroValue, hi, hz, asInt, asIntOf, hw, hneg, h48i, hns, hn, h63', h48', Question.forced, hfo, newRow, grownCap]
/-- What the walk asks of slices.overlaps. -/
theorem overlaps_no (V g o la lb ca cb k : Nat) (cur : Array Value) (l : List Value) (w : World) (hne : V ≠ g) (hV : Blk w V 51 l) (hg : w.heap[g]? = some (.cells cur 51 (0, 0))) (hc : cur.size = k + 1) :
    (callFunc 76 #[.slice (some ⟨V, 0, none⟩) la ca, .slice (some ⟨g, o, none⟩) lb cb]).run Tryz.prog w = .ok (.value (.bool false)) w := by
  have hz : ∀ w, (Go.sizeOf 51).run Tryz.prog w = .ok 2 w := fun w => by kernel_rfl
  rw [run_callFunc_extern Tryz.func76 (by kernel_rfl) (by kernel_rfl) (by kernel_rfl) (e := Extern.SlicesOverlaps.overlaps #[22, 22] #[4]) (by kernel_rfl),
    Lib.run_overlaps_apart w 22 4 51 Tryz.underlying22 2 hz ⟨V, 0, none⟩ ⟨g, o, none⟩ la ca lb cb hne 51 51 l.length (k + 1) (by unfold World.shape?; rw [hV]; simp) (by unfold World.shape?; rw [hg]; simp [hc]) (by omega) (Blk.frozen hV 0) (Blk.frozen hV _)]
  rfl
theorem labsC_flat_len (ls : List Lab) : (labsC ls).flatten.length = ls.length * 2 := by rw [flat_len _ 2 (labsC_all ls), labsC_len]
theorem labsC_cut (ls : List Lab) (i : Nat) : (labsC ls).flatten = (labsC (ls.take i)).flatten ++ (labsC (ls.drop i)).flatten := by
  rw [← List.flatten_append, labsC, labsC, labsC, ← List.map_append, List.take_append_drop]
theorem labsC_ins (ls : List Lab) (l : Lab) (i : Nat) : (labsC (ls.take i ++ l :: ls.drop i)).flatten = (labsC (ls.take i)).flatten ++ [.string l.1, .string l.2] ++ (labsC (ls.drop i)).flatten := by
  simp [labsC, labC]
/-- Shifted by two in place, then the new ones laid in. -/
theorem ins_shift (P D S X : List Value) (hX : X.length = 2) (hS : 2 ≤ S.length) :
    let L := P ++ D ++ S
    let L1 := L.take (P.length + 2) ++ D ++ L.drop (P.length + 2 + D.length)
    let L2 := L1.take P.length ++ X ++ L1.drop (P.length + 2)
    L2.length = L.length ∧ L2.take (P.length + 2 + D.length) = P ++ X ++ D := by
  intro L L1 L2
  have hL : L.length = P.length + D.length + S.length := by simp [L]; omega
  have ht : (L.take (P.length + 2)).length = P.length + 2 := by rw [List.length_take]; omega
  have h1 : L1.take P.length = P := by
    show (L.take (P.length + 2) ++ D ++ _).take P.length = P
    rw [List.append_assoc, List.take_append_of_le_length (by omega), List.take_take, Nat.min_eq_left (by omega)]
    simp [L, List.append_assoc]
  have h2 : L1.drop (P.length + 2) = D ++ L.drop (P.length + 2 + D.length) := by
    show (L.take (P.length + 2) ++ D ++ _).drop (P.length + 2) = _
    rw [List.append_assoc, List.drop_append_of_le_length (by omega), List.drop_of_length_le (by omega)]
    rfl
  have h3 : L2 = P ++ X ++ (D ++ L.drop (P.length + 2 + D.length)) := by
    show L1.take P.length ++ X ++ L1.drop (P.length + 2) = _
    rw [h1, h2]
  rw [h3]
  constructor
  · simp only [List.length_append, List.length_drop]; omega
  · rw [← List.append_assoc]
    exact List.take_left' (by simp only [List.length_append]; omega)
/-- New memory: what stood ahead, then the new ones and the rest laid in. -/
theorem ins_new (P D Z X : List Value) (hX : X.length = 2) (hZ : P.length + 2 + D.length ≤ Z.length) (hP : Z.take P.length = P) :
    let Z1 := Z.take P.length ++ X ++ Z.drop (P.length + 2)
    let Z2 := Z1.take (P.length + 2) ++ D ++ Z1.drop (P.length + 2 + D.length)
    Z2.length = Z.length ∧ Z2.take (P.length + 2 + D.length) = P ++ X ++ D := by
  intro Z1 Z2
  have h1 : Z1 = P ++ X ++ Z.drop (P.length + 2) := by show Z.take P.length ++ X ++ _ = _; rw [hP]
  have h2 : Z1.take (P.length + 2) = P ++ X := by rw [h1]; exact List.take_left' (by simp only [List.length_append]; omega)
  have hl : Z1.length = Z.length := by rw [h1]; simp only [List.length_append, List.length_drop]; omega
  have h3 : Z2 = P ++ X ++ D ++ Z1.drop (P.length + 2 + D.length) := by show Z1.take (P.length + 2) ++ D ++ _ = _; rw [h2]
  rw [h3]
  constructor
  · simp only [List.length_append, List.length_drop]; omega
  · exact List.take_left' (by simp only [List.length_append]; omega)
theorem hlen' {ls : List Lab} {n : Nat} (h : (labsC ls).length = n) : ls.length = n := by rw [← h, labsC_len]
def InsAt (w : World) (base n : Nat) (ls : List Lab) (e : Ending) (w' : World) : Prop := ∃ A' c', e = .returned (.slice A' n c') ∧ Own w' base 51 2 A' n c' (labsC ls) ∧ Below base w w'
theorem rd_of_blk {w : World} {V : Nat} {l : Lab} (hV : Blk w V 51 [.string l.1, .string l.2]) : Rd w w.heap.size 2 (some ⟨V, 0, none⟩) (labsC [l]) := by
  refine ⟨labsC_all _, fun _ => ⟨V, 0, rfl, hV.lt, fun k x j v hx hv => ?_⟩⟩
  match k, hx with
  | 0, hx =>
    simp [labsC, labC] at hx
    subst hx
    have := Blk.cell hV hv
    simpa using this
set_option maxRecDepth 100000 in
set_option maxHeartbeats 2000000 in
theorem insert_end (ls : List Lab) (l : Lab) (n c base V : Nat) (A : Option Addr) (w : World) (ho : Own w base 51 2 A n c (labsC ls)) (hV : Blk w V 51 [.string l.1, .string l.2]) (hbase : base ≤ w.heap.size) (hm : (n + 1) * 32 ≤ 140737488355328) :
    Calls Tryz.prog 58 #[.slice A n c, .int .i64 n, .slice (some ⟨V, 0, none⟩) 1 1] w (InsAt w base (n + 1) (ls ++ [l])) := by
  have hcap := ho.cap
  have hmx := hcap.2
  unfold maxLen at hmx
  have hnc := hcap.1
  have HO := Lib.hid ho
  have HV := Lib.hid hV
  clear ho hV hcap
  go_enter Tryz.func58, Tryz.ntmps58
  go_wp2_with (at_builtin; go_must (refine wpList_append_rd (ys := labsC [l]) _ rfl (.tmp 23) (.tmp 24) _ rfl eiLab rfl HO.out rfl (rd_of_blk HV.out) rfl (labsC_one _) (by simp only [maxLen]; omega) (by omega) hbase ?_; intro A3 c3 w3 ho3 hg3 hat3 hb3))
  all_goals (go_ret; exact ⟨A3, c3, rfl, by simpa [labsC] using ho3, hb3⟩)
set_option maxRecDepth 100000 in
set_option maxHeartbeats 2000000 in
theorem insert_room (ls : List Lab) (l : Lab) (i n c base V : Nat) (A : Option Addr) (w : World) (ho : Own w base 51 2 A n c (labsC ls)) (hi : i < n) (hroom : n + 1 ≤ c) (hV : Blk w V 51 [.string l.1, .string l.2]) (hVA : A.map Addr.block ≠ some V) (_hbase : base ≤ w.heap.size) (hm : (n + 1) * 32 ≤ 140737488355328) :
    Calls Tryz.prog 58 #[.slice A n c, .int .i64 i, .slice (some ⟨V, 0, none⟩) 1 1] w (InsAt w base (n + 1) (ls.take i ++ l :: ls.drop i)) := by
  have hcap := ho.cap
  have hmx := hcap.2
  unfold maxLen at hmx
  obtain ⟨_, hall, hlen, hfl, hc⟩ := ho
  rcases hc with ⟨hv, h0⟩ | ⟨g, cap, cur, hv, hbg, hg, hnc, hcm, hcs, htake⟩
  · omega
  injection hv with e1 _ e3
  subst e1 e3
  have hsz : (Tryz.prog.info? 51).map (·.size) = some 2 := by kernel_rfl
  have hVg : V ≠ g := fun e => hVA (by rw [e]; rfl)
  have hov := fun la lb ca cb => overlaps_no V g ((i + 1) * 2) la lb ca cb (c * 2 - 1) cur [.string l.1, .string l.2] w hVg hV hg (by omega)
  have hP : (labsC (ls.take i)).flatten.length = i * 2 := by rw [labsC_flat_len, List.length_take, hlen' hlen]; rw [Nat.min_eq_left (by omega)]
  have hD : (labsC (ls.drop i)).flatten.length = (n - i) * 2 := by rw [labsC_flat_len, List.length_drop, hlen' hlen]
  have hcl : cur.toList.length = c * 2 := by rw [Array.length_toList]; exact hcs
  have hL : cur.toList = (labsC (ls.take i)).flatten ++ (labsC (ls.drop i)).flatten ++ cur.toList.drop (n * 2) := by
    rw [← labsC_cut, ← htake, List.take_append_drop]
  obtain ⟨D, hDe⟩ : ∃ D, D = (labsC (ls.drop i)).flatten := ⟨_, rfl⟩
  have hD1 : ∀ v ∈ D, v.oneCell' = true := by
    intro v hv
    rw [hDe] at hv
    obtain ⟨y, hy, hu⟩ := List.mem_flatten.1 hv
    exact labsC_one _ y hy v hu
  obtain ⟨L1, hL1⟩ : ∃ L1, L1 = cur.toList.take ((i + 1) * 2) ++ D ++ cur.toList.drop ((i + 1) * 2 + D.length) := ⟨_, rfl⟩
  obtain ⟨L2, hL2⟩ : ∃ L2, L2 = L1.take (i * 2) ++ [.string l.1, .string l.2] ++ L1.drop (i * 2 + 2) := ⟨_, rfl⟩
  have hins := ins_shift (labsC (ls.take i)).flatten (labsC (ls.drop i)).flatten (cur.toList.drop (n * 2)) [.string l.1, .string l.2] rfl (by rw [List.length_drop]; omega)
  simp only [← hL, hP] at hins
  rw [← hDe, show i * 2 + 2 = (i + 1) * 2 from by omega, ← hL1, show (i + 1) * 2 = i * 2 + 2 from by omega, ← hL2] at hins
  have hDl : D.length = (n - i) * 2 := by rw [hDe]; exact hD
  have hL1l : L1.length = c * 2 := by rw [hL1]; simp only [List.length_append, List.length_take, List.length_drop]; omega
  have hcp1 : ∀ ty dc sc, (Builtin.copy_ #[22, 22] ty #[.slice (some ⟨g, (i + 1) * 2, none⟩) (n - i) dc, .slice (some ⟨g, i * 2, none⟩) (n + 1 - i) sc]).run Tryz.prog w.drew = .ok (goInt ((n - i : Nat) : Int)) (w.drew.setRow g L1.toArray) := fun ty dc sc => by
    rw [hL1]
    exact run_copy_sz w.drew _ _ ty 51 2 g ((i + 1) * 2) (n - i) dc ⟨g, i * 2, none⟩ (n + 1 - i) sc cur _ D Tryz.underlying22 hsz hg (by simp only [Nat.min_def]; split <;> omega) hDl
      (fun j v hj => by
        rw [add_none, show w.drew.cell? ⟨g, i * 2 + j, none⟩ = w.cell? ⟨g, i * 2 + j, none⟩ from rfl, cell_of_row w g _ cur _ (0, 0) hg, ← Array.getElem?_toList, hL, List.append_assoc, List.getElem?_append_right (by omega), hP, Nat.add_sub_cancel_left, ← hDe, List.getElem?_append_left (List.getElem?_eq_some_iff.1 hj).1]
        exact hj) (by omega) hD1
  have hg1 : (w.drew.setRow g L1.toArray).heap[g]? = some (.cells L1.toArray 51 (0, 0)) := setRow_heap w.drew g cur _ _ _ hg
  have hV1 : Blk (w.drew.setRow g L1.toArray) V 51 [.string l.1, .string l.2] := hV.keep (setRow_other w.drew g V _ (fun e => hVg e))
  have hcp2 : ∀ ty dc, (Builtin.copy_ #[22, 22] ty #[.slice (some ⟨g, i * 2, none⟩) (n + 1 - i) dc, .slice (some ⟨V, 0, none⟩) 1 1]).run Tryz.prog (w.drew.setRow g L1.toArray) = .ok (goInt 1) ((w.drew.setRow g L1.toArray).setRow g L2.toArray) := fun ty dc => by
    have := run_copy_sz (P := Tryz.prog) (w.drew.setRow g L1.toArray) 22 22 ty 51 2 g (i * 2) (n + 1 - i) dc ⟨V, 0, none⟩ 1 1 L1.toArray _ [.string l.1, .string l.2] Tryz.underlying22 hsz hg1 (m := 1) (by simp only [Nat.min_def]; split <;> omega) rfl
      (fun j v hj => by rw [add_none, Nat.zero_add]; exact Blk.cell hV1 hj) (by simp; omega) (fun v hv => by simp at hv; rcases hv with rfl | rfl <;> rfl)
    rw [this]
    congr 2
    rw [hL2]
    rfl
  have hg2 : ((w.drew.setRow g L1.toArray).setRow g L2.toArray).heap[g]? = some (.cells L2.toArray 51 (0, 0)) := setRow_heap _ g _ _ _ _ hg1
  have hbel : Below base w ((w.drew.setRow g L1.toArray).setRow g L2.toArray) := below_setRow (below_setRow (Below.refl base w).drew hbg _) hbg _
  have hfin : Hid (InsAt w base (n + 1) (ls.take i ++ l :: ls.drop i) (.returned (.slice (some ⟨g, 0, none⟩) (n + 1) c)) ((w.drew.setRow g L1.toArray).setRow g L2.toArray)) := by
    refine ⟨_, _, rfl, ⟨by omega, labsC_all _, ?_, ?_, .inr ⟨g, c, _, rfl, hbg, hg2, hroom, hcm, ?_, ?_⟩⟩, hbel⟩
    · rw [labsC_len, List.length_append, List.length_cons, List.length_take, List.length_drop, hlen' hlen]; omega
    · rw [labsC_flat_len, List.length_append, List.length_cons, List.length_take, List.length_drop, hlen' hlen]; omega
    · rw [List.size_toArray, hins.1]; exact hcl
    · rw [List.toList_toArray, labsC_ins, ← hDe, show (n + 1) * 2 = i * 2 + 2 + D.length from by omega]
      exact hins.2
  have hiI : (i : Int) < (n : Int) := by omega
  have hne : ((i : Int) == (n : Int)) = false := by rw [beq_eq_false_iff_ne]; omega
  have hrI : ¬ (c : Int) < (n : Int) + 1 := by omega
  have mixed : Tryz.prog.follows .mixedOrders = true := by kernel_rfl
  have hb1 : (0 : Int) ≤ (i : Int) + 1 := by omega
  have hb3 : (i : Int) + 1 ≤ (n : Int) + 1 := by omega
  have hb3' : (i : Int) ≤ (n : Int) := by omega
  have hb5 : (i : Int) ≤ (n : Int) + 1 := by omega
  have htn : ((i : Int) + 1).toNat = i + 1 := by omega
  have hw1 : IntKind.i64.wrap ((i : Int) + 1) = (i : Int) + 1 := by rw [IntKind.wrap_i64]; omega
  have hb2 : ¬ (c = i + 1) := by omega
  have hb4 : ¬ (c = i) := by omega
  have hin : i ≤ n := by omega
  have hsub : n + 1 - (i + 1) = n - i := by omega
  clear hins hL hL1 hL2 hDe hD1 hD hP hDl hL1l hg1 hV1 hg2 hbel hg hV htake hcs hcl hfl hall hlen
  go_enter Tryz.func58, Tryz.ntmps58
  go_wp2_with (simp only [hov])
  go_region_law_o (refine step_copy_runI rfl _ _ 22 22 rfl _ _ (by simp [Act.eval, Act.put]) (by simp [Act.eval, Act.put]) (hcp1 _ _ _) ?_)
  go_wp2_with (at_builtin; refine wpList_copy_runI _ rfl _ _ 22 22 rfl _ _ rfl rfl (hcp2 _ _) ?_)
  go_ret
  exact hfin.out
set_option maxRecDepth 100000 in
set_option maxHeartbeats 2000000 in
theorem insert_grow (ls : List Lab) (l : Lab) (i n c base V : Nat) (A : Option Addr) (w : World) (ho : Own w base 51 2 A n c (labsC ls)) (hi : i < n) (hroom : c < n + 1) (hV : Blk w V 51 [.string l.1, .string l.2]) (hbase : base ≤ w.heap.size) (hm : (n + 1) * 32 ≤ 140737488355328) :
    Calls Tryz.prog 58 #[.slice A n c, .int .i64 i, .slice (some ⟨V, 0, none⟩) 1 1] w (InsAt w base (n + 1) (ls.take i ++ l :: ls.drop i)) := by
  have hcap := ho.cap
  have hmx := hcap.2
  unfold maxLen at hmx
  obtain ⟨_, hall, hlen, hfl, hc⟩ := ho
  rcases hc with ⟨hv, h0⟩ | ⟨g, cap, cur, hv, hbg, hg, hnc, hcm, hcs, htake⟩
  · omega
  injection hv with e1 _ e3
  subst e1 e3
  have hsz : (Tryz.prog.info? 51).map (·.size) = some 2 := by kernel_rfl
  obtain ⟨ht, inf, z, hinf, hz, hsize, hby, hzs, _⟩ := eiLab
  have hP : (labsC (ls.take i)).flatten.length = i * 2 := by rw [labsC_flat_len, List.length_take, hlen' hlen]; rw [Nat.min_eq_left (by omega)]
  have hD : (labsC (ls.drop i)).flatten.length = (n - i) * 2 := by rw [labsC_flat_len, List.length_drop, hlen' hlen]
  have hcl : cur.toList.length = c * 2 := by rw [Array.length_toList]; exact hcs
  have hL : cur.toList = (labsC (ls.take i)).flatten ++ (labsC (ls.drop i)).flatten ++ cur.toList.drop (n * 2) := by
    rw [← labsC_cut, ← htake, List.take_append_drop]
  obtain ⟨D, hDe⟩ : ∃ D, D = (labsC (ls.drop i)).flatten := ⟨_, rfl⟩
  obtain ⟨Pl, hPe⟩ : ∃ Pl, Pl = (labsC (ls.take i)).flatten := ⟨_, rfl⟩
  rw [← hDe, ← hPe] at hL
  rw [← hDe] at hD
  rw [← hPe] at hP
  have hD1 : ∀ v ∈ D, v.oneCell' = true := by
    intro v hv
    rw [hDe] at hv
    obtain ⟨y, hy, hu⟩ := List.mem_flatten.1 hv
    exact labsC_one _ y hy v hu
  have hatP : ∀ j v, Pl[j]? = some v → w.cell? ((⟨g, 0, none⟩ : Addr).add j) = some v := fun j v hj => by
    rw [add_none, Nat.zero_add, cell_of_row w g _ cur _ (0, 0) hg, ← Array.getElem?_toList, hL, List.append_assoc, List.getElem?_append_left (List.getElem?_eq_some_iff.1 hj).1]
    exact hj
  have happ : ∀ ty, (Builtin.append_ #[22, 3] ty #[.slice (some ⟨g, 0, none⟩) i c, .int .i64 ((n : Int) + 1 - (i : Int))]).run Tryz.prog w = .ok (.slice (some ⟨w.heap.size, 0, none⟩) (n + 1) (grownCap w (n + 1) c 51)) (w.drew.alloc (.cells (Pl.toArray ++ Builtin.zeroCells z.cells (n + 1 - i) ++ Builtin.zeroCells z.cells (grownCap w (n + 1) c 51 - (n + 1))) 51)) := fun ty => by
    have h := run_append_grow_zeros (P := Tryz.prog) w 22 3 ty 51 inf z .i64 .i64 ht Tryz.underlying3 hinf hz ⟨g, 0, none⟩ i c Pl (by rw [hsize]; exact hP) hatP (n + 1 - i) (by omega) (by omega) (by omega) (by omega)
      (growslice_fits (by omega) (by rw [hby, show i + (n + 1 - i) = n + 1 from by omega]; exact hm)) (by rw [hby]; omega)
    rw [show i + (n + 1 - i) = n + 1 from by omega, show (((n + 1 - i : Nat)) : Int) = (n : Int) + 1 - (i : Int) from by omega] at h
    exact h
  obtain ⟨G, hGe⟩ : ∃ G, grownCap w (n + 1) c 51 = G := ⟨_, rfl⟩
  have hGn : n + 1 ≤ G := hGe ▸ grownCap_ge w (n + 1) c _
  have hGm : G ≤ maxLen := hGe ▸ grownCap_le_maxLen w (n + 1) c _ (by simp only [maxLen]; omega)
  have hGx := hGm
  unfold maxLen at hGx
  rw [hGe] at happ
  obtain ⟨Z, hZe⟩ : ∃ Z, Z = Pl.toArray ++ Builtin.zeroCells z.cells (n + 1 - i) ++ Builtin.zeroCells z.cells (G - (n + 1)) := ⟨_, rfl⟩
  rw [← hZe] at happ
  have hZl : Z.toList.length = G * 2 := by rw [hZe]; simp [size_zeroCells, hzs, hP]; omega
  have hZP : Z.toList.take Pl.length = Pl := by rw [hZe]; simp
  have hZs : Z.size = G * 2 := by rw [← Array.length_toList]; exact hZl
  obtain ⟨W1, hW1⟩ : ∃ W1, W1 = w.drew.alloc (.cells Z 51) := ⟨_, rfl⟩
  obtain ⟨N, hN⟩ : ∃ N, N = w.heap.size := ⟨_, rfl⟩
  have hgN : g < N := by rw [hN]; exact (Array.getElem?_eq_some_iff.1 hg).1
  have hVN : V < N := by rw [hN]; exact hV.lt
  rw [← hW1, ← hN] at happ
  have hbN : base ≤ N := by omega
  have hnew : W1.heap[N]? = some (.cells Z 51 (0, 0)) := by rw [hW1, hN]; exact heap_alloc_new w.drew _
  have hold : ∀ k, k < N → W1.heap[k]? = w.heap[k]? := fun k hk => by rw [hW1]; exact Below.heap_alloc w.drew _ k (by rw [hN] at hk; exact hk)
  have hb1 : Below base w W1 := by rw [hW1]; exact ((Below.refl base w).drew).alloc hbase _
  obtain ⟨Z1, hZ1⟩ : ∃ Z1, Z1 = Z.toList.take (i * 2) ++ [.string l.1, .string l.2] ++ Z.toList.drop (i * 2 + 2) := ⟨_, rfl⟩
  obtain ⟨Z2, hZ2⟩ : ∃ Z2, Z2 = Z1.take ((i + 1) * 2) ++ D ++ Z1.drop ((i + 1) * 2 + D.length) := ⟨_, rfl⟩
  have hins := ins_new Pl D Z.toList [.string l.1, .string l.2] rfl (by rw [hP, hD, hZl]; omega) hZP
  simp only [hP] at hins
  rw [← hZ1, show i * 2 + 2 = (i + 1) * 2 from by omega, ← hZ2] at hins
  have hV1 : Blk W1 V 51 [.string l.1, .string l.2] := hV.keep (hold V hVN)
  have hcp1 : ∀ ty dc, (Builtin.copy_ #[22, 22] ty #[.slice (some ⟨N, i * 2, none⟩) (n + 1 - i) dc, .slice (some ⟨V, 0, none⟩) 1 1]).run Tryz.prog W1 = .ok (goInt 1) (W1.setRow N Z1.toArray) := fun ty dc => by
    have := run_copy_sz (P := Tryz.prog) W1 22 22 ty 51 2 N (i * 2) (n + 1 - i) dc ⟨V, 0, none⟩ 1 1 Z _ [.string l.1, .string l.2] Tryz.underlying22 hsz hnew (m := 1) (by simp only [Nat.min_def]; split <;> omega) rfl
      (fun j v hj => by rw [add_none, Nat.zero_add]; exact Blk.cell hV1 hj) (by simp; omega) (fun v hv => by simp at hv; rcases hv with rfl | rfl <;> rfl)
    rw [this, hZ1]
    rfl
  have hg1 : (W1.setRow N Z1.toArray).heap[N]? = some (.cells Z1.toArray 51 (0, 0)) := setRow_heap W1 N Z _ _ _ hnew
  have hgo : ∀ o, (W1.setRow N Z1.toArray).drew.cell? ⟨g, o, none⟩ = w.cell? ⟨g, o, none⟩ := fun o => World.cell?_of_block (a := ⟨g, o, none⟩) ((setRow_other W1 N g _ (by omega)).trans (hold g hgN))
  have hZ1l : Z1.length = G * 2 := by rw [hZ1]; simp only [List.length_append, List.length_take, List.length_drop, List.length_cons, List.length_nil]; omega
  have hcp2 : ∀ ty dc sc, (Builtin.copy_ #[22, 22] ty #[.slice (some ⟨N, (i + 1) * 2, none⟩) (n - i) dc, .slice (some ⟨g, i * 2, none⟩) (n - i) sc]).run Tryz.prog (W1.setRow N Z1.toArray).drew = .ok (goInt ((n - i : Nat) : Int)) ((W1.setRow N Z1.toArray).drew.setRow N Z2.toArray) := fun ty dc sc => by
    rw [hZ2]
    have := run_copy_sz (P := Tryz.prog) (W1.setRow N Z1.toArray).drew 22 22 ty 51 2 N ((i + 1) * 2) (n - i) dc ⟨g, i * 2, none⟩ (n - i) sc Z1.toArray _ D Tryz.underlying22 hsz hg1 (m := n - i) (by simp) hD
      (fun j v hj => by
        rw [add_none, hgo, cell_of_row w g _ cur _ (0, 0) hg, ← Array.getElem?_toList, hL, List.append_assoc, List.getElem?_append_right (by omega), hP, Nat.add_sub_cancel_left, List.getElem?_append_left (List.getElem?_eq_some_iff.1 hj).1]
        exact hj) (by simp; omega) hD1
    exact this
  have hg2 : ((W1.setRow N Z1.toArray).drew.setRow N Z2.toArray).heap[N]? = some (.cells Z2.toArray 51 (0, 0)) := setRow_heap _ N _ _ _ _ hg1
  have hbel : Below base w ((W1.setRow N Z1.toArray).drew.setRow N Z2.toArray) := below_setRow (below_setRow hb1 hbN _).drew hbN _
  have hfin : Hid (InsAt w base (n + 1) (ls.take i ++ l :: ls.drop i) (.returned (.slice (some ⟨N, 0, none⟩) (n + 1) G)) ((W1.setRow N Z1.toArray).drew.setRow N Z2.toArray)) := by
    refine ⟨_, _, rfl, ⟨by omega, labsC_all _, ?_, ?_, .inr ⟨N, G, _, rfl, hbN, hg2, hGn, hGm, ?_, ?_⟩⟩, hbel⟩
    · rw [labsC_len, List.length_append, List.length_cons, List.length_take, List.length_drop, hlen' hlen]; omega
    · rw [labsC_flat_len, List.length_append, List.length_cons, List.length_take, List.length_drop, hlen' hlen]; omega
    · rw [List.size_toArray, hins.1]; exact hZl
    · rw [List.toList_toArray, labsC_ins, ← hDe, ← hPe, show (n + 1) * 2 = (i + 1) * 2 + D.length from by omega]
      exact hins.2
  have hiI : (i : Int) < (n : Int) := by omega
  have hne : ((i : Int) == (n : Int)) = false := by rw [beq_eq_false_iff_ne]; omega
  have hrI : (c : Int) < (n : Int) + 1 := by omega
  have mixed : Tryz.prog.follows .mixedOrders = true := by kernel_rfl
  have hb1' : (0 : Int) ≤ (i : Int) + 1 := by omega
  have hb3 : (i : Int) + 1 ≤ (n : Int) + 1 := by omega
  have hb3' : (i : Int) ≤ (n : Int) := by omega
  have hb5 : (i : Int) ≤ (n : Int) + 1 := by omega
  have hb6 : (i : Int) ≤ (c : Int) := by omega
  have htn : ((i : Int) + 1).toNat = i + 1 := by omega
  have hw1 : IntKind.i64.wrap ((i : Int) + 1) = (i : Int) + 1 := by rw [IntKind.wrap_i64]; omega
  have hw2 : IntKind.i64.wrap ((n : Int) + 1) = (n : Int) + 1 := by rw [IntKind.wrap_i64]; omega
  have hw3 : IntKind.i64.wrap ((n : Int) + 1 - (i : Int)) = (n : Int) + 1 - (i : Int) := by rw [IntKind.wrap_i64]; omega
  have hb4 : ¬ (c = i) := by omega
  have hbG2 : ¬ (G = i + 1) := by omega
  have hbG4 : ¬ (G = i) := by omega
  have hin : i ≤ n := by omega
  have hsub : n + 1 - (i + 1) = n - i := by omega
  clear hins hL hZ1 hZ2 hDe hPe hD1 hD hP hZ1l hg1 hV1 hg2 hbel hg hV htake hcs hcl hfl hall hlen hgo hatP hZe hZl hZP hZs hnew hold hGe hW1 hN
  go_enter Tryz.func58, Tryz.ntmps58
  go_wp2_with (first
    | (at_builtin; refine Lib.wpList_append_run _ rfl _ _ 22 3 rfl _ _ rfl rfl _ _ (happ _) ?_)
    | (at_builtin; refine wpList_copy_runI _ rfl _ _ 22 22 rfl _ _ rfl rfl (hcp1 _ _) ?_))
  go_region_law_o (refine step_copy_runI rfl _ _ 22 22 rfl _ _ (by simp [Act.eval, Act.put]) (by simp [Act.eval, Act.put]) (hcp2 _ _ _) ?_)
  go_wp2_with fail
  go_ret
  exact hfin.out
theorem insert_any (ls : List Lab) (l : Lab) (i n c base V : Nat) (A : Option Addr) (w : World) (ho : Own w base 51 2 A n c (labsC ls)) (hi : i ≤ n) (hV : Blk w V 51 [.string l.1, .string l.2]) (hVA : A.map Addr.block ≠ some V) (hbase : base ≤ w.heap.size) (hm : (n + 1) * 32 ≤ 140737488355328) :
    Calls Tryz.prog 58 #[.slice A n c, .int .i64 i, .slice (some ⟨V, 0, none⟩) 1 1] w (InsAt w base (n + 1) (ls.take i ++ l :: ls.drop i)) := by
  by_cases h : i = n
  · subst h
    have hl := hlen' ho.len
    have e : ls.take i ++ l :: ls.drop i = ls ++ [l] := by rw [← hl, List.take_length, List.drop_length]
    rw [e]
    exact insert_end ls l i c base V A w ho hV hbase hm
  · by_cases h2 : n + 1 ≤ c
    · exact insert_room ls l i n c base V A w ho (by omega) h2 hV hVA hbase hm
    · exact insert_grow ls l i n c base V A w ho (by omega) (by omega) hV hbase hm
end Go.Proofs.YtnlheomfobpcmaaGreat
