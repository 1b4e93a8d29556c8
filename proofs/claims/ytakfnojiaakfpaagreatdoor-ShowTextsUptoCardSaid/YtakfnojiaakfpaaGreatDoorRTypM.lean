/- Types of trees: what a node's type is over its parts' types: the document's answer. -/
import Derived.Test.YtakfnojiaakfpaaGreatDoorTypC
namespace Go.Proofs.YtakfnojiaakfpaaGreatDoor
open Go.RowKit
theorem cmpB_iff (op : Int) : (cmpB op = true) = (5 ≤ op ∧ op ≤ 10) := by simp [cmpB, inB]
set_option maxRecDepth 100000 in
set_option maxHeartbeats 4000000 in
theorem rof_any (x : Nod) (Am An : Option Addr) (cm cn : Nat) (S : Option Addr) (n c B : Nat) (p : List Int) (w : World) (hS : Rd w B 1 S (intsC p)) (hB : B ≤ w.heap.size) (hn : p.length = n) (hp : (n : Int) = partsN x.kind) (hk1 : 1 ≤ x.kind) (hk7 : x.kind ≤ 7) (hnc : n ≤ c) (_hcm : c ≤ maxLen) (hty : ∀ v ∈ p, TyOk v) :
    Calls Tryz.prog 35 #[.agg #[.int .i64 x.kind, .int .i64 x.op, .string x.text, .slice Am x.mat.length cm, .int .i64 x.width, .int .i64 x.back, .int .i64 x.grp, .slice An x.names.length cn, .bool x.cmp, .int .i64 x.parts], .slice S n c] w fun e w' => e = .returned (.tuple #[.int .i64 (ofN x p).1, .int .i64 (ofN x p).2]) ∧ Below w.heap.size w w' := by
  unfold maxLen at _hcm
  have hbA := (Below.refl w.heap.size w).alloc (Nat.le_refl _) (.cells (nodC x Am cm An cn).toArray 41)
  by_cases k1 : x.kind = 1
  · have HO := Lib.hid (ofN_1 (p := p) k1)
    have f1 : (x.kind == 1) = decide ((1 : Int) = 1) := by rw [k1]; rfl
    have f2 : (x.kind == 2) = decide ((1 : Int) = 2) := by rw [k1]; rfl
    have f3 : (x.kind == 3) = decide ((1 : Int) = 3) := by rw [k1]; rfl
    clear k1 hp hn
    go_enter Tryz.func35, Tryz.ntmps35
    go_wp2
    go_ret2
    exact ⟨by rw [HO.out]; exact ret_two rfl rfl, hbA⟩
  by_cases k2 : x.kind = 2
  · have HO := Lib.hid (ofN_2 (p := p) k2)
    have f1 : (x.kind == 1) = decide ((2 : Int) = 1) := by rw [k2]; rfl
    have f2 : (x.kind == 2) = decide ((2 : Int) = 2) := by rw [k2]; rfl
    have f3 : (x.kind == 3) = decide ((2 : Int) = 3) := by rw [k2]; rfl
    clear k2 hp hn
    go_enter Tryz.func35, Tryz.ntmps35
    go_wp2
    go_ret2
    exact ⟨by rw [HO.out]; exact ret_two rfl rfl, hbA⟩
  by_cases k3 : x.kind = 3
  · have HO := Lib.hid (ofN_3 (p := p) k3)
    have f1 : (x.kind == 1) = decide ((3 : Int) = 1) := by rw [k3]; rfl
    have f2 : (x.kind == 2) = decide ((3 : Int) = 2) := by rw [k3]; rfl
    have f3 : (x.kind == 3) = decide ((3 : Int) = 3) := by rw [k3]; rfl
    clear k3 hp hn
    go_enter Tryz.func35, Tryz.ntmps35
    go_wp2
    go_ret2
    exact ⟨by rw [HO.out]; exact ret_two rfl rfl, hbA⟩
  by_cases k6 : x.kind = 6
  · have h2 : n = 2 := by rw [k6] at hp; have : partsN 6 = 2 := rfl; omega
    subst h2
    match p, hn, hty with
    | [p0, p1], _, hty =>
      obtain ⟨ta, tb⟩ := hty p0 (by simp)
      obtain ⟨tc, td⟩ := hty p1 (by simp)
      clear hty
      have h6 := ofN_6 (p0 := p0) (p1 := p1) (r := []) k6
      simp only [cmpB_iff] at h6
      obtain ⟨b, o, e, hb, hc⟩ := hS.at1 (k := 0) (v0 := .int .i64 p0) rfl
      rw [Nat.add_zero] at hc
      subst e
      obtain ⟨b', o', e, _, hc1⟩ := hS.at1 (k := 1) (v0 := .int .i64 p1) rfl
      injection e with e
      injection e with e1 e2
      subst e1 e2
      have hb2 : b < w.heap.size := by omega
      have f1 : (x.kind == 1) = false := by rw [k6]; rfl
      have f2 : (x.kind == 2) = false := by rw [k6]; rfl
      have f3 : (x.kind == 3) = false := by rw [k6]; rfl
      have f4 : (x.kind == 4) = false := by rw [k6]; rfl
      have f5 : (x.kind == 5) = false := by rw [k6]; rfl
      have f7 : (x.kind == 7) = false := by rw [k6]; rfl
      clear k6 hp hn hk1 hk7
      cases hx : x.cmp
      all_goals
        rw [hx] at h6
        simp only [and_true, and_false, or_false, reduceCtorEq] at h6
        have HO := Lib.hid h6
        clear h6 hx
        go_enter Tryz.func35, Tryz.ntmps35
        go_wp2
      all_goals
        go_ret2
        refine ⟨?_, (Below.refl _ _).alloc (Nat.le_refl _) _⟩
        simp only [Bool.not_eq_true', Bool.not_eq_false', beq_iff_eq, beq_eq_false_iff_ne, bne_iff_ne, bne_eq_false_iff_eq, ne_eq] at *
        first
        | (rw [HO.out, if_pos (by omega)]; rfl)
        | (rw [HO.out, if_neg (by omega)]; refine ret_two ?_ rfl; simp only; omega)
        | (obtain rfl : p1 = 2 := by omega
           rw [HO.out, if_pos (by omega)]; rfl)
        | (obtain rfl : p1 = 2 := by omega
           rw [HO.out, if_neg (by omega)]; refine ret_two ?_ rfl; simp only; omega)
        | (obtain rfl : p1 = 1 := by omega
           rw [HO.out, if_pos (by omega)]; rfl)
        | (obtain rfl : p1 = 1 := by omega
           rw [HO.out, if_neg (by omega)]; refine ret_two ?_ rfl; simp only; omega)
        | (obtain rfl : p1 = 3 := by omega
           rw [HO.out, if_pos (by omega)]; rfl)
        | (obtain rfl : p1 = 3 := by omega
           rw [HO.out, if_neg (by omega)]; refine ret_two ?_ rfl; simp only; omega)
        | (obtain rfl : p0 = 2 := by omega
           rw [HO.out, if_pos (by omega)]; rfl)
        | (obtain rfl : p0 = 2 := by omega
           rw [HO.out, if_neg (by omega)]; refine ret_two ?_ rfl; simp only; omega)
        | (obtain rfl : p0 = 2 := by omega
           obtain rfl : p1 = 2 := by omega
           rw [HO.out, if_pos (by omega)]; rfl)
        | (obtain rfl : p0 = 2 := by omega
           obtain rfl : p1 = 2 := by omega
           rw [HO.out, if_neg (by omega)]; refine ret_two ?_ rfl; simp only; omega)
        | (obtain rfl : p0 = 2 := by omega
           obtain rfl : p1 = 1 := by omega
           rw [HO.out, if_pos (by omega)]; rfl)
        | (obtain rfl : p0 = 2 := by omega
           obtain rfl : p1 = 1 := by omega
           rw [HO.out, if_neg (by omega)]; refine ret_two ?_ rfl; simp only; omega)
        | (obtain rfl : p0 = 2 := by omega
           obtain rfl : p1 = 3 := by omega
           rw [HO.out, if_pos (by omega)]; rfl)
        | (obtain rfl : p0 = 2 := by omega
           obtain rfl : p1 = 3 := by omega
           rw [HO.out, if_neg (by omega)]; refine ret_two ?_ rfl; simp only; omega)
        | (obtain rfl : p0 = 1 := by omega
           rw [HO.out, if_pos (by omega)]; rfl)
        | (obtain rfl : p0 = 1 := by omega
           rw [HO.out, if_neg (by omega)]; refine ret_two ?_ rfl; simp only; omega)
        | (obtain rfl : p0 = 1 := by omega
           obtain rfl : p1 = 2 := by omega
           rw [HO.out, if_pos (by omega)]; rfl)
        | (obtain rfl : p0 = 1 := by omega
           obtain rfl : p1 = 2 := by omega
           rw [HO.out, if_neg (by omega)]; refine ret_two ?_ rfl; simp only; omega)
        | (obtain rfl : p0 = 1 := by omega
           obtain rfl : p1 = 1 := by omega
           rw [HO.out, if_pos (by omega)]; rfl)
        | (obtain rfl : p0 = 1 := by omega
           obtain rfl : p1 = 1 := by omega
           rw [HO.out, if_neg (by omega)]; refine ret_two ?_ rfl; simp only; omega)
        | (obtain rfl : p0 = 1 := by omega
           obtain rfl : p1 = 3 := by omega
           rw [HO.out, if_pos (by omega)]; rfl)
        | (obtain rfl : p0 = 1 := by omega
           obtain rfl : p1 = 3 := by omega
           rw [HO.out, if_neg (by omega)]; refine ret_two ?_ rfl; simp only; omega)
        | (obtain rfl : p0 = 3 := by omega
           rw [HO.out, if_pos (by omega)]; rfl)
        | (obtain rfl : p0 = 3 := by omega
           rw [HO.out, if_neg (by omega)]; refine ret_two ?_ rfl; simp only; omega)
        | (obtain rfl : p0 = 3 := by omega
           obtain rfl : p1 = 2 := by omega
           rw [HO.out, if_pos (by omega)]; rfl)
        | (obtain rfl : p0 = 3 := by omega
           obtain rfl : p1 = 2 := by omega
           rw [HO.out, if_neg (by omega)]; refine ret_two ?_ rfl; simp only; omega)
        | (obtain rfl : p0 = 3 := by omega
           obtain rfl : p1 = 1 := by omega
           rw [HO.out, if_pos (by omega)]; rfl)
        | (obtain rfl : p0 = 3 := by omega
           obtain rfl : p1 = 1 := by omega
           rw [HO.out, if_neg (by omega)]; refine ret_two ?_ rfl; simp only; omega)
        | (obtain rfl : p0 = 3 := by omega
           obtain rfl : p1 = 3 := by omega
           rw [HO.out, if_pos (by omega)]; rfl)
        | (obtain rfl : p0 = 3 := by omega
           obtain rfl : p1 = 3 := by omega
           rw [HO.out, if_neg (by omega)]; refine ret_two ?_ rfl; simp only; omega)
  by_cases k4 : x.kind = 4
  · have h2 : n = 1 := by rw [k4] at hp; have : partsN 4 = 1 := rfl; omega
    subst h2
    match p, hn, hty with
    | [p0], _, _ =>
      have HO := Lib.hid (ofN_4 (p0 := p0) (r := []) k4)
      obtain ⟨b, o, e, hb, hc⟩ := hS.at1 (k := 0) (v0 := .int .i64 p0) rfl
      rw [Nat.add_zero] at hc
      subst e
      have hb2 : b < w.heap.size := by omega
      have f1 : (x.kind == 1) = false := by rw [k4]; rfl
      have f2 : (x.kind == 2) = false := by rw [k4]; rfl
      have f3 : (x.kind == 3) = false := by rw [k4]; rfl
      have f4 : (x.kind == 4) = true := by rw [k4]; rfl
      have f5 : (x.kind == 5) = false := by rw [k4]; rfl
      have f7 : (x.kind == 7) = false := by rw [k4]; rfl
      clear k4 hp hn hk1 hk7
      go_enter Tryz.func35, Tryz.ntmps35
      go_wp2
      all_goals
        go_ret2
        refine ⟨?_, (Below.refl _ _).alloc (Nat.le_refl _) _⟩
        first
        | (rw [HO.out, if_pos (Or.inl ‹x.op = 11› : x.op = 11 ∨ x.op = 12), if_neg (bne_p ‹(p0 != 2) = true›)]; rfl)
        | (rw [HO.out, if_pos (Or.inl ‹x.op = 11› : x.op = 11 ∨ x.op = 12), if_pos (bne_n ‹(p0 != 2) = false›)]; rfl)
        | (rw [HO.out, if_pos (beq_or ‹(x.op == 11) = true ∨ (x.op == 12) = true›), if_neg (bne_p ‹(p0 != 2) = true›)]; rfl)
        | (rw [HO.out, if_pos (beq_or ‹(x.op == 11) = true ∨ (x.op == 12) = true›), if_pos (bne_n ‹(p0 != 2) = false›)]; rfl)
        | (rw [HO.out, if_neg (beq_nor ‹(x.op == 11) = false ∧ (x.op == 12) = false›), if_neg (bne_p ‹(p0 != 3) = true›)]; rfl)
        | (rw [HO.out, if_neg (beq_nor ‹(x.op == 11) = false ∧ (x.op == 12) = false›), if_pos (bne_n ‹(p0 != 3) = false›)]; rfl)
  by_cases k5 : x.kind = 5
  · have h2 : n = 1 := by rw [k5] at hp; have : partsN 5 = 1 := rfl; omega
    subst h2
    match p, hn, hty with
    | [p0], _, _ =>
      have HO := Lib.hid (ofN_5 (p0 := p0) (r := []) k5)
      obtain ⟨b, o, e, hb, hc⟩ := hS.at1 (k := 0) (v0 := .int .i64 p0) rfl
      rw [Nat.add_zero] at hc
      subst e
      have hb2 : b < w.heap.size := by omega
      have f1 : (x.kind == 1) = false := by rw [k5]; rfl
      have f2 : (x.kind == 2) = false := by rw [k5]; rfl
      have f3 : (x.kind == 3) = false := by rw [k5]; rfl
      have f4 : (x.kind == 4) = false := by rw [k5]; rfl
      have f5 : (x.kind == 5) = true := by rw [k5]; rfl
      have f7 : (x.kind == 7) = false := by rw [k5]; rfl
      clear k5 hp hn hk1 hk7
      go_enter Tryz.func35, Tryz.ntmps35
      go_wp2
      all_goals
        go_ret2
        refine ⟨?_, (Below.refl _ _).alloc (Nat.le_refl _) _⟩
        first
        | (rw [HO.out, if_neg (bne_p ‹(p0 != 2) = true›)]; rfl)
        | (rw [HO.out, if_pos (bne_n ‹(p0 != 2) = false›)]; rfl)
  · have k7 : x.kind = 7 := by omega
    have h2 : n = 1 := by rw [k7] at hp; have : partsN 7 = 1 := rfl; omega
    subst h2
    match p, hn, hty with
    | [p0], _, _ =>
      have HO := Lib.hid (ofN_7 (p0 := p0) (r := []) k7)
      obtain ⟨b, o, e, hb, hc⟩ := hS.at1 (k := 0) (v0 := .int .i64 p0) rfl
      rw [Nat.add_zero] at hc
      subst e
      have hb2 : b < w.heap.size := by omega
      have f1 : (x.kind == 1) = false := by rw [k7]; rfl
      have f2 : (x.kind == 2) = false := by rw [k7]; rfl
      have f3 : (x.kind == 3) = false := by rw [k7]; rfl
      have f4 : (x.kind == 4) = false := by rw [k7]; rfl
      have f5 : (x.kind == 5) = false := by rw [k7]; rfl
      have f7 : (x.kind == 7) = true := by rw [k7]; rfl
      clear k7 hp hn hk1 hk7
      go_enter Tryz.func35, Tryz.ntmps35
      go_wp2
      all_goals
        go_ret2
        refine ⟨?_, (Below.refl _ _).alloc (Nat.le_refl _) _⟩
        first
        | (rw [HO.out, if_pos (kk ‹(p0 == 3) = true›)]; rfl)
        | (rw [HO.out, if_neg (kn ‹(p0 == 3) = false›)]; rfl)
end Go.Proofs.YtakfnojiaakfpaaGreatDoor
