/- Types of trees: what a node's type is over its parts' types: the program's methods. -/
import Derived.Test.YtmhfeeomlpdnkaaTypF
import Derived.Test.YtmhfeeomlpdnkaaMapI
namespace Go.Proofs.Ytmhfeeomlpdnkaa
open Go.RowKit

def intsC (l : List Int) : List (List Value) := l.map fun v => [.int .i64 v]
theorem intsC_len (l : List Int) : (intsC l).length = l.length := by simp [intsC]
theorem intsC_at {l : List Int} {k : Nat} {v : Int} (h : l[k]? = some v) : (intsC l)[k]? = some [.int .i64 v] := by simp [intsC, h]
theorem intsC_sz (l : List Int) : ∀ x ∈ intsC l, x.length = 1 := by
  intro x hx
  obtain ⟨v, _, rfl⟩ := List.mem_map.1 hx
  rfl
theorem intsC_one (l : List Int) : ∀ y ∈ intsC l, ∀ u ∈ y, u.oneCell' = true := by
  intro y hy u hu
  obtain ⟨v, _, rfl⟩ := List.mem_map.1 hy
  simp at hu
  subst hu; rfl
set_option maxHeartbeats 400000 in
theorem tleaf_any (k : Int) (w : World) : Calls Try.prog 34 #[.int .i64 k] w fun e w' => e = .returned (.func (.func 56) #[] #[.pointer (some ⟨w.heap.size, 0, none⟩)]) ∧ w.alloc (.cells #[.int .i64 k] 3) = w' := by
  have hmf : ∀ (fn : Fn) (first cap : Array Value) (w : World), (Instr.makeFunc fn first cap).run Try.prog w = .ok (.func fn first cap) w := fun _ _ _ _ => rfl
  go_enter Try.func34, Try.ntmps34
  go_wp2
  go_ret
  exact ⟨rfl, rfl⟩
set_option maxHeartbeats 400000 in
theorem tleaf1_any (k : Int) (L : Nat) (N S : Value) (cs : Array Value) (hN : N = .agg cs) (w : World) (hc : w.cell? ⟨L, 0, none⟩ = some (.int .i64 k)) (hL : L < w.heap.size) :
    Calls Try.prog 56 #[N, S, .pointer (some ⟨L, 0, none⟩)] w fun e w' => e = .returned (.tuple #[.int .i64 k, .int .i64 0]) ∧ Below w.heap.size w w' := by
  subst hN
  go_enter Try.func56, Try.ntmps56
  go_wp2
  go_ret2
  exact ⟨rfl, (Below.refl _ _).alloc (Nat.le_refl _) _⟩
theorem ofN_1 {x : Nod} {p : List Int} (h : x.kind = 1) : ofN x p = (1, 0) := by simp [ofN, h]
theorem ofN_2 {x : Nod} {p : List Int} (h : x.kind = 2) : ofN x p = (2, 0) := by simp [ofN, h]
theorem ofN_3 {x : Nod} {p : List Int} (h : x.kind = 3) : ofN x p = (3, 0) := by simp [ofN, h]
theorem ofN_4 {x : Nod} {p0 : Int} {r : List Int} (h : x.kind = 4) : ofN x (p0 :: r) = if p0 = (if x.op = 11 ∨ x.op = 12 then 2 else 3) then (2, 0) else (0, 191) := by simp [ofN, h]
theorem ofN_5 {x : Nod} {p0 : Int} {r : List Int} (h : x.kind = 5) : ofN x (p0 :: r) = if p0 = 2 then (2, 0) else (0, 191) := by simp [ofN, h]
theorem ofN_7 {x : Nod} {p0 : Int} {r : List Int} (h : x.kind = 7) : ofN x (p0 :: r) = if p0 = 3 then (0, 191) else (p0, 0) := by simp [ofN, h]
theorem ofN_6 {x : Nod} {p0 p1 : Int} {r : List Int} (h : x.kind = 6) : ofN x (p0 :: p1 :: r) = if p0 = 3 ∨ p1 = 3 ∨ (11 ≤ x.op ∨ x.grp ≠ 0) ∧ ¬ (p0 = 2 ∧ p1 = 2) ∨ (p0 = 1 ∧ p1 = 1) ∧ cmpB x.op = true ∧ x.cmp = false then (0, 192) else (max p0 p1, 0) := by simp [ofN, h]
theorem ret_two {a b c d : Int} (h1 : a = c) (h2 : b = d) : Ending.returned (.tuple #[.int .i64 a, .int .i64 b]) = .returned (.tuple #[.int .i64 c, .int .i64 d]) := by rw [h1, h2]
theorem bne_p {a b : Int} (h : (a != b) = true) : ¬ a = b := by simpa using h
theorem bne_n {a b : Int} (h : (a != b) = false) : a = b := by simpa using h
theorem beq_or {a b c d : Int} (h : (a == b) = true ∨ (c == d) = true) : a = b ∨ c = d := by simpa using h
theorem beq_nor {a b c d : Int} (h : (a == b) = false ∧ (c == d) = false) : ¬ (a = b ∨ c = d) := by simpa using h
set_option maxRecDepth 100000 in
set_option maxHeartbeats 1000000 in
theorem tcall_any (x : Nod) (Am An : Option Addr) (cm cn : Nat) (P : Value) (p0 : Int) (b o c : Nat) (w : World) (hc : w.cell? ⟨b, o, none⟩ = some (.int .i64 p0)) (hb : b < w.heap.size) (hk : x.kind = 4) :
    Calls Try.prog 35 #[P, .agg #[.int .i64 x.kind, .int .i64 x.op, .string x.text, .slice Am x.mat.length cm, .int .i64 x.width, .int .i64 x.back, .int .i64 x.grp, .slice An x.names.length cn, .bool x.cmp, .int .i64 x.parts], .slice (some ⟨b, o, none⟩) 1 c] w fun e w' => e = .returned (.tuple #[.int .i64 (ofN x [p0]).1, .int .i64 (ofN x [p0]).2]) ∧ Below w.heap.size w w' := by
  have HO := Lib.hid (ofN_4 (p0 := p0) (r := []) hk)
  clear hk
  go_enter Try.func35, Try.ntmps35
  go_wp2
  all_goals
    go_ret2
    refine ⟨?_, (Below.refl _ _).alloc (Nat.le_refl _) _⟩
    first
    | (rw [HO.out, if_pos (Or.inl ‹x.op = 11› : x.op = 11 ∨ x.op = 12), if_neg (bne_p ‹(p0 != 2) = true›)]; rfl)
    | (rw [HO.out, if_pos (Or.inl ‹x.op = 11› : x.op = 11 ∨ x.op = 12), if_pos (bne_n ‹(p0 != 2) = false›)]; rfl)
    | (rw [HO.out, if_pos (beq_or ‹(x.op == 11) = true ∨ (x.op == 12) = true›), if_neg (bne_p ‹(p0 != 2) = true›)]; rfl)
    | (rw [HO.out, if_pos (beq_or ‹(x.op == 11) = true ∨ (x.op == 12) = true›), if_pos (bne_n ‹(p0 != 2) = false›)]; rfl)
    | (rw [HO.out, if_neg (beq_nor ‹(x.op == 11) = false ∧ (x.op == 12) = false›), if_neg (bne_p ‹(p0 != 3) = true›)]; rfl)
    | (rw [HO.out, if_neg (beq_nor ‹(x.op == 11) = false ∧ (x.op == 12) = false›), if_pos (bne_n ‹(p0 != 3) = false›)]; rfl)
set_option maxRecDepth 100000 in
set_option maxHeartbeats 1000000 in
theorem tagg_any (x : Nod) (Am An : Option Addr) (cm cn : Nat) (P : Value) (p0 : Int) (b o c : Nat) (w : World) (hc : w.cell? ⟨b, o, none⟩ = some (.int .i64 p0)) (hb : b < w.heap.size) (hk : x.kind = 5) :
    Calls Try.prog 36 #[P, .agg #[.int .i64 x.kind, .int .i64 x.op, .string x.text, .slice Am x.mat.length cm, .int .i64 x.width, .int .i64 x.back, .int .i64 x.grp, .slice An x.names.length cn, .bool x.cmp, .int .i64 x.parts], .slice (some ⟨b, o, none⟩) 1 c] w fun e w' => e = .returned (.tuple #[.int .i64 (ofN x [p0]).1, .int .i64 (ofN x [p0]).2]) ∧ Below w.heap.size w w' := by
  have HO := Lib.hid (ofN_5 (p0 := p0) (r := []) hk)
  clear hk
  go_enter Try.func36, Try.ntmps36
  go_wp2
  all_goals
    go_ret2
    refine ⟨?_, (Below.refl _ _).alloc (Nat.le_refl _) _⟩
    first
    | (rw [HO.out, if_neg (bne_p ‹(p0 != 2) = true›)]; rfl)
    | (rw [HO.out, if_pos (bne_n ‹(p0 != 2) = false›)]; rfl)
set_option maxRecDepth 100000 in
set_option maxHeartbeats 1000000 in
theorem tneg_any (x : Nod) (Am An : Option Addr) (cm cn : Nat) (P : Value) (p0 : Int) (b o c : Nat) (w : World) (hc : w.cell? ⟨b, o, none⟩ = some (.int .i64 p0)) (hb : b < w.heap.size) (hk : x.kind = 7) :
    Calls Try.prog 38 #[P, .agg #[.int .i64 x.kind, .int .i64 x.op, .string x.text, .slice Am x.mat.length cm, .int .i64 x.width, .int .i64 x.back, .int .i64 x.grp, .slice An x.names.length cn, .bool x.cmp, .int .i64 x.parts], .slice (some ⟨b, o, none⟩) 1 c] w fun e w' => e = .returned (.tuple #[.int .i64 (ofN x [p0]).1, .int .i64 (ofN x [p0]).2]) ∧ Below w.heap.size w w' := by
  have HO := Lib.hid (ofN_7 (p0 := p0) (r := []) hk)
  clear hk
  go_enter Try.func38, Try.ntmps38
  go_wp2
  all_goals
    go_ret2
    refine ⟨?_, (Below.refl _ _).alloc (Nat.le_refl _) _⟩
    first
    | (rw [HO.out, if_pos (kk ‹(p0 == 3) = true›)]; rfl)
    | (rw [HO.out, if_neg (kn ‹(p0 == 3) = false›)]; rfl)
set_option maxRecDepth 100000 in
set_option maxHeartbeats 1000000 in
theorem tbin_any (x : Nod) (Am An : Option Addr) (cm cn : Nat) (P : Value) (p0 p1 : Int) (b o c : Nat) (w : World) (hc : w.cell? ⟨b, o, none⟩ = some (.int .i64 p0)) (hc1 : w.cell? ⟨b, o + 1, none⟩ = some (.int .i64 p1)) (hb : b < w.heap.size) (hk : x.kind = 6) (hop : x.op ≤ 13) :
    Calls Try.prog 37 #[P, .agg #[.int .i64 x.kind, .int .i64 x.op, .string x.text, .slice Am x.mat.length cm, .int .i64 x.width, .int .i64 x.back, .int .i64 x.grp, .slice An x.names.length cn, .bool x.cmp, .int .i64 x.parts], .slice (some ⟨b, o, none⟩) 2 c] w fun e w' => e = .returned (.tuple #[.int .i64 (ofN x [p0, p1]).1, .int .i64 (ofN x [p0, p1]).2]) ∧ Below w.heap.size w w' := by
  have HS := fun W => Lib.hid (tsetB_any x.op W)
  have HC := fun W => Lib.hid (tcmpB_any x.op W)
  have h6 := ofN_6 (p0 := p0) (p1 := p1) (r := []) hk
  clear hk
  by_cases hs : 11 ≤ x.op
  · have e1 : setB x.op = true := by simp [setB, inB]; omega
    have e2 : cmpB x.op = false := by simp [cmpB, inB]; omega
    simp only [e1] at HS
    simp only [e2] at HC
    rw [e2] at h6
    simp only [false_and, and_false, or_false, reduceCtorEq] at h6
    have HO := Lib.hid h6
    clear h6 e1 e2 hop
    go_enter Try.func37, Try.ntmps37
    go_wp2
    go_quiet (fail)
    go_wp2_with (first | (go_at_call 57; refine ((HS _).out).mono ?_; rintro e w' ⟨rfl, rfl⟩) | (go_at_call 53; refine ((HC _).out).mono ?_; rintro e w' ⟨rfl, rfl⟩))
    all_goals
      go_ret2
      refine ⟨?_, by first | exact (Below.refl _ _).alloc (Nat.le_refl _) _ | exact below_drewN ((Below.refl _ _).alloc (Nat.le_refl _) _) _⟩
      simp only [ne_eq] at *
      first
      | (rw [HO.out, if_pos (by omega)]; rfl)
      | (rw [HO.out, if_neg (by omega)]; exact ret_two (by simp only; omega) rfl)
      | (obtain rfl : p0 = 2 := by omega
         rw [HO.out, if_neg (by omega)]; exact ret_two (by simp only; omega) rfl)
      | (obtain rfl : p0 = 1 := by omega
         rw [HO.out, if_neg (by omega)]; exact ret_two (by simp only; omega) rfl)
      | (trace_state; fail)
  · have e1 : setB x.op = false := by simp [setB, inB]; omega
    simp only [e1] at HS
    clear e1 hop
    cases hcm : cmpB x.op with
    | false =>
      simp only [hcm] at HC
      rw [hcm] at h6
      simp only [false_and, and_false, or_false, reduceCtorEq] at h6
      have HO := Lib.hid h6
      clear h6 hcm
      go_enter Try.func37, Try.ntmps37
      go_wp2
      go_quiet (fail)
      go_wp2_with (first | (go_at_call 57; refine ((HS _).out).mono ?_; rintro e w' ⟨rfl, rfl⟩) | (go_at_call 53; refine ((HC _).out).mono ?_; rintro e w' ⟨rfl, rfl⟩))
      all_goals
        go_ret2
        refine ⟨?_, by first | exact (Below.refl _ _).alloc (Nat.le_refl _) _ | exact below_drewN ((Below.refl _ _).alloc (Nat.le_refl _) _) _⟩
        simp only [beq_iff_eq, beq_eq_false_iff_ne, ne_eq] at *
        first
        | (rw [HO.out, if_pos (by omega)]; rfl)
        | (rw [HO.out, if_neg (by omega)]; exact ret_two (by simp only; omega) rfl)
        | (obtain rfl : p0 = 2 := by omega
           rw [HO.out, if_neg (by omega)]; exact ret_two (by simp only; omega) rfl)
        | (obtain rfl : p0 = 1 := by omega
           rw [HO.out, if_neg (by omega)]; exact ret_two (by simp only; omega) rfl)
        | (trace_state; fail)
    | true =>
      simp only [hcm] at HC
      rw [hcm] at h6
      cases hx : x.cmp
      · rw [hx] at h6
        simp only [and_true] at h6
        have HO := Lib.hid h6
        clear h6 hcm hx
        go_enter Try.func37, Try.ntmps37
        go_wp2
        go_quiet (fail)
        go_wp2_with (first | (go_at_call 57; refine ((HS _).out).mono ?_; rintro e w' ⟨rfl, rfl⟩) | (go_at_call 53; refine ((HC _).out).mono ?_; rintro e w' ⟨rfl, rfl⟩))
        all_goals
          go_ret2
          refine ⟨?_, by first | exact (Below.refl _ _).alloc (Nat.le_refl _) _ | exact below_drewN ((Below.refl _ _).alloc (Nat.le_refl _) _) _⟩
          simp only [beq_iff_eq, beq_eq_false_iff_ne, ne_eq] at *
          first
          | (rw [HO.out, if_pos (by omega)]; rfl)
          | (rw [HO.out, if_neg (by omega)]; exact ret_two (by simp only; omega) rfl)
          | (obtain rfl : p0 = 2 := by omega
             rw [HO.out, if_neg (by omega)]; exact ret_two (by simp only; omega) rfl)
          | (obtain rfl : p0 = 1 := by omega
             rw [HO.out, if_neg (by omega)]; exact ret_two (by simp only; omega) rfl)
          | (trace_state; fail)
      · rw [hx] at h6
        simp only [and_false, or_false, reduceCtorEq] at h6
        have HO := Lib.hid h6
        clear h6 hcm hx
        go_enter Try.func37, Try.ntmps37
        go_wp2
        go_quiet (fail)
        go_wp2_with (first | (go_at_call 57; refine ((HS _).out).mono ?_; rintro e w' ⟨rfl, rfl⟩) | (go_at_call 53; refine ((HC _).out).mono ?_; rintro e w' ⟨rfl, rfl⟩))
        all_goals
          go_ret2
          refine ⟨?_, by first | exact (Below.refl _ _).alloc (Nat.le_refl _) _ | exact below_drewN ((Below.refl _ _).alloc (Nat.le_refl _) _) _⟩
          simp only [beq_iff_eq, beq_eq_false_iff_ne, ne_eq] at *
          first
          | (rw [HO.out, if_pos (by omega)]; rfl)
          | (rw [HO.out, if_neg (by omega)]; exact ret_two (by simp only; omega) rfl)
          | (obtain rfl : p0 = 2 := by omega
             rw [HO.out, if_neg (by omega)]; exact ret_two (by simp only; omega) rfl)
          | (obtain rfl : p0 = 1 := by omega
             rw [HO.out, if_neg (by omega)]; exact ret_two (by simp only; omega) rfl)
          | (trace_state; fail)
end Go.Proofs.Ytmhfeeomlpdnkaa
