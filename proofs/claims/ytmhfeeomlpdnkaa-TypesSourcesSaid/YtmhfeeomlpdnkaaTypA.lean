/- Types of trees: the small functions. -/
import Derived.Test.YtmhfeeomlpdnkaaTypS
import Derived.Test.YtmhfeeomlpdnkaaBlk
import Derived.RegionTactic
namespace Go.Proofs.Ytmhfeeomlpdnkaa
open Go.RowKit

set_option maxHeartbeats 400000 in
theorem tspan_any (v l : Int) (w : World) : Calls Try.prog 52 #[.int .i64 v, .int .i64 l] w fun e w' => e = .returned (.bool (spanB v l)) ∧ w = w' := by
  go_enter Try.func52, Try.ntmps52
  go_wp2
  all_goals
    go_ret
    refine ⟨ret_bool ?_, rfl⟩
    simp only [spanB]
    simp; try omega
set_option maxHeartbeats 400000 in
theorem tcmpB_any (v : Int) (w : World) : Calls Try.prog 53 #[.int .i64 v] w fun e w' => e = .returned (.bool (cmpB v)) ∧ w = w' := by
  go_enter Try.func53, Try.ntmps53
  go_wp2
  all_goals
    go_ret
    refine ⟨ret_bool ?_, rfl⟩
    simp only [cmpB, inB]
    simp; try omega
set_option maxHeartbeats 400000 in
theorem tsetB_any (v : Int) (w : World) : Calls Try.prog 57 #[.int .i64 v] w fun e w' => e = .returned (.bool (setB v)) ∧ w = w' := by
  go_enter Try.func57, Try.ntmps57
  go_wp2
  all_goals
    go_ret
    refine ⟨ret_bool ?_, rfl⟩
    simp only [setB, inB]
    simp; try omega
theorem plain_no {x y : Nod} (h : ¬ x.kind = y.kind ∨ ¬ x.op = y.op ∨ ¬ x.text.toList = y.text.toList ∨ ¬ x.width = y.width ∨ ¬ x.back = y.back ∨ ¬ x.grp = y.grp ∨ ¬ x.cmp = y.cmp) : plainB x y = false := by
  rw [toList_inj] at h
  rcases h with h | h | h | h | h | h | h <;> simp [plainB, h]
theorem plain_all {x y : Nod} (h0 : x.kind = y.kind) (h1 : x.op = y.op) (h2 : x.text.toList = y.text.toList) (h3 : x.width = y.width) (h4 : x.back = y.back) (h5 : x.grp = y.grp) (h6 : x.cmp = y.cmp) : plainB x y = decide (x.parts = y.parts) := by
  simp [plainB, h0, h1, toList_inj.1 h2, h3, h4, h5, h6]
set_option maxRecDepth 100000 in
set_option maxHeartbeats 4000000 in
theorem tplain_any (x y : Nod) (A1 A2 A3 A4 : Option Addr) (l1 c1 l2 c2 l3 c3 l4 c4 : Nat) (w : World) :
    Calls Try.prog 49 #[.agg #[.int .i64 x.kind, .int .i64 x.op, .string x.text, .slice A1 l1 c1, .int .i64 x.width, .int .i64 x.back, .int .i64 x.grp, .slice A2 l2 c2, .bool x.cmp, .int .i64 x.parts], .agg #[.int .i64 y.kind, .int .i64 y.op, .string y.text, .slice A3 l3 c3, .int .i64 y.width, .int .i64 y.back, .int .i64 y.grp, .slice A4 l4 c4, .bool y.cmp, .int .i64 y.parts]] w
      fun e w' => e = .returned (.bool (plainB x y)) ∧ Below w.heap.size w w' := by
  go_enter Try.func49, Try.ntmps49
  go_wp2
  all_goals
    go_ret
    refine ⟨ret_bool ?_, ((Below.refl _ _).alloc (Nat.le_refl _) _).alloc (by simp) _⟩
    first
    | (rw [plain_all ‹_› ‹_› ‹_› ‹_› ‹_› ‹_› ‹_›]; rw [Bool.eq_iff_iff]; simp; done)
    | (rw [plain_no (by first | exact .inl ‹_› | exact .inr (.inl ‹_›) | exact .inr (.inr (.inl ‹_›)) | exact .inr (.inr (.inr (.inl ‹_›))) | exact .inr (.inr (.inr (.inr (.inl ‹_›)))) | exact .inr (.inr (.inr (.inr (.inr (.inl ‹_›))))) | exact .inr (.inr (.inr (.inr (.inr (.inr ‹_›))))))])
theorem nodeNames_bad {x : Nod} {k : Nat} {s : ByteArray} (hk : x.names[k]? = some s) (h : nameB s = false) : nodeNames x = false := by
  have : x.names.all nameB = false := by
    rw [List.all_eq_false]
    exact ⟨s, List.mem_of_getElem? hk, by simp [h]⟩
  simp [nodeNames, this]
theorem nodeNames_all {x : Nod} (h : ∀ j s, j < x.names.length → x.names[j]? = some s → nameB s = true) : nodeNames x = (decide (x.names = []) || !decide (x.grp = 0)) := by
  have : x.names.all nameB = true := by
    rw [List.all_eq_true]
    intro s hs
    obtain ⟨j, hj, rfl⟩ := List.getElem_of_mem hs
    exact h j _ hj (List.getElem?_eq_getElem hj)
  simp [nodeNames, this]
theorem names_step {l : List ByteArray} {k : Nat} {s : ByteArray} (h : Hid (∀ j x, j < k → l[j]? = some x → nameB x = true)) (hk : l[k]? = some s) (hm : nameB s = true) : Hid (∀ j x, j < k + 1 → l[j]? = some x → nameB x = true) := by
  intro j x hj hx
  by_cases e : j = k
  · subst e; rw [hk] at hx; injection hx with hx; subst hx; exact hm
  · exact h.out j x (by omega) hx
set_option maxRecDepth 100000 in
set_option maxHeartbeats 4000000 in
theorem tnames_any (x : Nod) (Am An : Option Addr) (cm cn B : Nat) (w : World) (hr : Rd w B 1 An (textsC x.names)) (hB : B ≤ w.heap.size) (hv : ∀ s ∈ x.names, s.size ≤ maxLen) (hm : x.names.length ≤ maxLen) :
    Calls Try.prog 51 #[.agg #[.int .i64 x.kind, .int .i64 x.op, .string x.text, .slice Am x.mat.length cm, .int .i64 x.width, .int .i64 x.back, .int .i64 x.grp, .slice An x.names.length cn, .bool x.cmp, .int .i64 x.parts]] w fun e w' => e = .returned (.bool (nodeNames x)) ∧ Below w.heap.size w w' := by
  unfold maxLen at hm
  have HV := Lib.hid hv
  clear hv
  go_enter Try.func51, Try.ntmps51
  go_wp2
  go_loopw [8] (fun i wr => ∃ k : Nat, k ≤ x.names.length ∧ i = .int .i64 k ∧ Hid (∀ j s, j < k → x.names[j]? = some s → nameB s = true) ∧ Below w.heap.size w wr ∧ wr.cell? ⟨w.heap.size, 7, none⟩ = some (.slice An x.names.length cn) ∧ wr.cell? ⟨w.heap.size, 6, none⟩ = some (.int .i64 x.grp)) (fun i _ => x.names.length - (intOf i).toNat)
  case atStart => exact ⟨0, by omega, rfl, fun j s h => by omega, (Below.refl _ _).alloc (Nat.le_refl _) _, (Blk.new w 34 (nodC x Am cm An cn)).cell rfl, (Blk.new w 34 (nodC x Am cm An cn)).cell rfl⟩
  case round =>
    obtain ⟨k, hk, rfl, HA, hb, q7, q6⟩ := hrel
    have hk0 : (0 : Int) ≤ k := by omega
    by_cases hlt : k < x.names.length
    · have hltI : (k : Int) < x.names.length := by omega
      obtain ⟨s, hs⟩ := get_lt (Lib.hid (rfl : x.names.length = x.names.length)) hlt
      obtain ⟨b, o, hA, hbl, p0⟩ := (hr.below (hb.mono hB)).at1 (textsC_at hs)
      subst hA
      have HS := Lib.hid hs
      have HN := fun W => Lib.hid (lname_any s W (HV.out s (List.mem_of_getElem? hs)))
      clear hs
      cases h1 : nameB s with
      | false =>
        rw [h1] at HN
        have HT := Lib.hid (nodeNames_bad HS.out h1)
        clear h1
        go_wp2_with (go_at_call 55; refine ((HN _).out).mono ?_; rintro e w' ⟨rfl, rfl⟩)
        go_ret
        exact ⟨ret_bool HT.out.symm, hb⟩
      | true =>
        rw [h1] at HN
        have HA2 := names_step HA HS.out h1
        clear h1 HA
        go_wp2_with (go_at_call 55; refine ((HN _).out).mono ?_; rintro e w' ⟨rfl, rfl⟩)
        go_roundw
        case rel => exact ⟨k + 1, by omega, by go_num, HA2, hb, q7, q6⟩
        case measure => simp [intOf]; omega
    · have hltI : ¬ (k : Int) < x.names.length := by omega
      have HT := Lib.hid (nodeNames_all (fun j s hj hs => HA.out j s (by omega) hs))
      go_wp2
      all_goals
        go_ret
        refine ⟨ret_bool ?_, hb⟩
        rw [HT.out]
        first
        | (have he : x.names = [] := by assumption
           simp [he]; done)
        | (have he : ¬ x.names = [] := by assumption
           rw [Bool.eq_iff_iff]; simp [he])
set_option maxRecDepth 100000 in
set_option maxHeartbeats 4000000 in
theorem tbare_any (x : Nod) (Am An : Option Addr) (cm cn : Nat) (w : World) :
    Calls Try.prog 50 #[.agg #[.int .i64 x.kind, .int .i64 x.op, .string x.text, .slice Am x.mat.length cm, .int .i64 x.width, .int .i64 x.back, .int .i64 x.grp, .slice An x.names.length cn, .bool x.cmp, .int .i64 x.parts]] w fun e w' => e = .returned (.agg #[.int .i64 (bareN x).kind, .int .i64 (bareN x).op, .string (bareN x).text, .slice none 0 0, .int .i64 (bareN x).width, .int .i64 (bareN x).back, .int .i64 (bareN x).grp, .slice none 0 0, .bool (bareN x).cmp, .int .i64 (bareN x).parts]) ∧ Below w.heap.size w w' := by
  by_cases k1 : x.kind = 1
  · have HT : Hid (bareN x = ⟨x.kind, 0, x.text, [], 0, 0, 0, [], false, 0⟩) := by show _ = _; unfold bareN; rw [if_pos k1]
    have e1 : (x.kind == 1) = true := by rw [beq_iff_eq]; exact k1
    clear k1
    go_enter Try.func50, Try.ntmps50
    go_wp2
    all_goals exact bodyPost_ret (v := .agg #[.int .i64 x.kind, .int .i64 0, .string x.text, .slice none 0 0, .int .i64 0, .int .i64 0, .int .i64 0, .slice none 0 0, .bool false, .int .i64 0]) (by simp [results, Try.results50, go_sem]; try rfl) rfl ⟨by rw [HT.out], by repeat (first | exact Below.refl _ _ | refine Below.alloc ?_ (by simp; try omega) _ | refine Below.setCell ?_ (by simp; try omega) _ | refine Below.drew ?_)⟩
  by_cases k2 : x.kind = 2
  · have HT : Hid (bareN x = ⟨x.kind, 0, ByteArray.empty, [], 0, x.back, 0, [], false, 0⟩) := by show _ = _; unfold bareN; rw [if_neg k1, if_pos k2]
    have e1 : (x.kind == 1) = false := by rw [beq_eq_false_iff_ne]; exact k1
    have e2 : (x.kind == 2) = true := by rw [beq_iff_eq]; exact k2
    clear k1
    clear k2
    go_enter Try.func50, Try.ntmps50
    go_wp2
    all_goals exact bodyPost_ret (v := .agg #[.int .i64 x.kind, .int .i64 0, .string ByteArray.empty, .slice none 0 0, .int .i64 0, .int .i64 x.back, .int .i64 0, .slice none 0 0, .bool false, .int .i64 0]) (by simp [results, Try.results50, go_sem]; try rfl) rfl ⟨by rw [HT.out], by repeat (first | exact Below.refl _ _ | refine Below.alloc ?_ (by simp; try omega) _ | refine Below.setCell ?_ (by simp; try omega) _ | refine Below.drew ?_)⟩
  by_cases k3 : x.kind = 3
  · have HT : Hid (bareN x = ⟨x.kind, 0, ByteArray.empty, [], x.width, x.back, 0, [], false, 0⟩) := by show _ = _; unfold bareN; rw [if_neg k1, if_neg k2, if_pos k3]
    have e1 : (x.kind == 1) = false := by rw [beq_eq_false_iff_ne]; exact k1
    have e2 : (x.kind == 2) = false := by rw [beq_eq_false_iff_ne]; exact k2
    have e3 : (x.kind == 3) = true := by rw [beq_iff_eq]; exact k3
    clear k1
    clear k2
    clear k3
    go_enter Try.func50, Try.ntmps50
    go_wp2
    go_region
    all_goals go_wp2
    all_goals exact bodyPost_ret (v := .agg #[.int .i64 x.kind, .int .i64 0, .string ByteArray.empty, .slice none 0 0, .int .i64 x.width, .int .i64 x.back, .int .i64 0, .slice none 0 0, .bool false, .int .i64 0]) (by simp [results, Try.results50, go_sem]; try rfl) rfl ⟨by rw [HT.out], by repeat (first | exact Below.refl _ _ | refine Below.alloc ?_ (by simp; try omega) _ | refine Below.setCell ?_ (by simp; try omega) _ | refine Below.drew ?_)⟩
  by_cases k4 : x.kind = 4
  · have HT : Hid (bareN x = ⟨x.kind, x.op, ByteArray.empty, [], 0, 0, 0, [], false, x.parts⟩) := by show _ = _; unfold bareN; rw [if_neg k1, if_neg k2, if_neg k3, if_pos k4]
    have e1 : (x.kind == 1) = false := by rw [beq_eq_false_iff_ne]; exact k1
    have e2 : (x.kind == 2) = false := by rw [beq_eq_false_iff_ne]; exact k2
    have e3 : (x.kind == 3) = false := by rw [beq_eq_false_iff_ne]; exact k3
    have e4 : (x.kind == 4) = true := by rw [beq_iff_eq]; exact k4
    clear k1
    clear k2
    clear k3
    clear k4
    go_enter Try.func50, Try.ntmps50
    go_wp2
    go_region
    all_goals go_wp2
    all_goals exact bodyPost_ret (v := .agg #[.int .i64 x.kind, .int .i64 x.op, .string ByteArray.empty, .slice none 0 0, .int .i64 0, .int .i64 0, .int .i64 0, .slice none 0 0, .bool false, .int .i64 x.parts]) (by simp [results, Try.results50, go_sem]; try rfl) rfl ⟨by rw [HT.out], by repeat (first | exact Below.refl _ _ | refine Below.alloc ?_ (by simp; try omega) _ | refine Below.setCell ?_ (by simp; try omega) _ | refine Below.drew ?_)⟩
  by_cases k5 : x.kind = 5
  · have HT : Hid (bareN x = ⟨x.kind, x.op, ByteArray.empty, [], 0, 0, x.grp, [], false, x.parts⟩) := by show _ = _; unfold bareN; rw [if_neg k1, if_neg k2, if_neg k3, if_neg k4, if_pos k5]
    have e1 : (x.kind == 1) = false := by rw [beq_eq_false_iff_ne]; exact k1
    have e2 : (x.kind == 2) = false := by rw [beq_eq_false_iff_ne]; exact k2
    have e3 : (x.kind == 3) = false := by rw [beq_eq_false_iff_ne]; exact k3
    have e4 : (x.kind == 4) = false := by rw [beq_eq_false_iff_ne]; exact k4
    have e5 : (x.kind == 5) = true := by rw [beq_iff_eq]; exact k5
    clear k1
    clear k2
    clear k3
    clear k4
    clear k5
    go_enter Try.func50, Try.ntmps50
    go_wp2
    go_region
    all_goals go_wp2
    all_goals exact bodyPost_ret (v := .agg #[.int .i64 x.kind, .int .i64 x.op, .string ByteArray.empty, .slice none 0 0, .int .i64 0, .int .i64 0, .int .i64 x.grp, .slice none 0 0, .bool false, .int .i64 x.parts]) (by simp [results, Try.results50, go_sem]; try rfl) rfl ⟨by rw [HT.out], by repeat (first | exact Below.refl _ _ | refine Below.alloc ?_ (by simp; try omega) _ | refine Below.setCell ?_ (by simp; try omega) _ | refine Below.drew ?_)⟩
  by_cases k6 : x.kind = 6
  · have HT : Hid (bareN x = ⟨x.kind, x.op, ByteArray.empty, [], 0, 0, x.grp, [], x.cmp, x.parts⟩) := by show _ = _; unfold bareN; rw [if_neg k1, if_neg k2, if_neg k3, if_neg k4, if_neg k5, if_pos k6]
    have e1 : (x.kind == 1) = false := by rw [beq_eq_false_iff_ne]; exact k1
    have e2 : (x.kind == 2) = false := by rw [beq_eq_false_iff_ne]; exact k2
    have e3 : (x.kind == 3) = false := by rw [beq_eq_false_iff_ne]; exact k3
    have e4 : (x.kind == 4) = false := by rw [beq_eq_false_iff_ne]; exact k4
    have e5 : (x.kind == 5) = false := by rw [beq_eq_false_iff_ne]; exact k5
    have e6 : (x.kind == 6) = true := by rw [beq_iff_eq]; exact k6
    clear k1
    clear k2
    clear k3
    clear k4
    clear k5
    clear k6
    go_enter Try.func50, Try.ntmps50
    go_wp2
    go_region
    all_goals go_wp2
    all_goals exact bodyPost_ret (v := .agg #[.int .i64 x.kind, .int .i64 x.op, .string ByteArray.empty, .slice none 0 0, .int .i64 0, .int .i64 0, .int .i64 x.grp, .slice none 0 0, .bool x.cmp, .int .i64 x.parts]) (by simp [results, Try.results50, go_sem]; try rfl) rfl ⟨by rw [HT.out], by repeat (first | exact Below.refl _ _ | refine Below.alloc ?_ (by simp; try omega) _ | refine Below.setCell ?_ (by simp; try omega) _ | refine Below.drew ?_)⟩
  have HT : Hid (bareN x = ⟨x.kind, 0, ByteArray.empty, [], 0, 0, 0, [], false, x.parts⟩) := by show _ = _; unfold bareN; rw [if_neg k1, if_neg k2, if_neg k3, if_neg k4, if_neg k5, if_neg k6]
  have e1 : (x.kind == 1) = false := by rw [beq_eq_false_iff_ne]; exact k1
  have e2 : (x.kind == 2) = false := by rw [beq_eq_false_iff_ne]; exact k2
  have e3 : (x.kind == 3) = false := by rw [beq_eq_false_iff_ne]; exact k3
  have e4 : (x.kind == 4) = false := by rw [beq_eq_false_iff_ne]; exact k4
  have e5 : (x.kind == 5) = false := by rw [beq_eq_false_iff_ne]; exact k5
  have e6 : (x.kind == 6) = false := by rw [beq_eq_false_iff_ne]; exact k6
  clear k1
  clear k2
  clear k3
  clear k4
  clear k5
  clear k6
  go_enter Try.func50, Try.ntmps50
  go_wp2
  all_goals exact bodyPost_ret (v := .agg #[.int .i64 x.kind, .int .i64 0, .string ByteArray.empty, .slice none 0 0, .int .i64 0, .int .i64 0, .int .i64 0, .slice none 0 0, .bool false, .int .i64 x.parts]) (by simp [results, Try.results50, go_sem]; try rfl) rfl ⟨by rw [HT.out], by repeat (first | exact Below.refl _ _ | refine Below.alloc ?_ (by simp; try omega) _ | refine Below.setCell ?_ (by simp; try omega) _ | refine Below.drew ?_)⟩
end Go.Proofs.Ytmhfeeomlpdnkaa
