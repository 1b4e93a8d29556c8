/- Types of trees: plain laws of an operation over two trees and of a function, a sum, a minus over one. No program in sight. -/
import Derived.Test.YtmhfeeomlpdnkaaTypC
import Derived.Test.YtmhfeeomlpdnkaaTypAwake
import Derived.Test.YtmhfeeomlpdnkaaTypJ
namespace Go.Proofs.Ytmhfeeomlpdnkaa
open Go.RowKit

def nodB (k : Int) : Nod := ⟨6, k, ByteArray.empty, [], 0, 0, 0, [], false, 2⟩
def nodS : Nod := ⟨5, 1, ByteArray.empty, [], 0, 0, 0, [], false, 1⟩
def nodG : Nod := ⟨7, 0, ByteArray.empty, [], 0, 0, 0, [], false, 1⟩
/-- May an operation be of two types? -/
def joinB (x y k : Int) : Bool := (!decide (x = 3) && !decide (y = 3)) && (decide (k < 11) || (decide (x = 2) && decide (y = 2))) && (!inB 5 10 k || (decide (x = 2) || decide (y = 2)))
def tyL : List Int := [1, 2, 3]
theorem TyOk.mem {x : Int} (h : TyOk x) : x ∈ tyL := by
  unfold TyOk at h
  simp [tyL]
  omega
def opL : List Int := [1, 2, 3, 4, 5, 6, 7, 8, 9, 10, 11, 12, 13]
theorem op_mem {k : Int} (h1 : 1 ≤ k) (h2 : k ≤ 13) : k ∈ opL := by
  simp [opL]
  omega
theorem step_binL : ∀ x ∈ tyL, ∀ y ∈ tyL, ∀ k ∈ opL, stepN [x, y] (nodB k) = if joinB x y k = true then (0, [max x y]) else (192, [0]) := by decide +kernel
theorem step_sumL : ∀ x ∈ tyL, stepN [x] nodS = if x = 2 then (0, [2]) else (191, [0]) := by decide +kernel
theorem step_rateL : ∀ x ∈ tyL, stepN [x] nodR = if x = 3 then (0, [2]) else (191, [0]) := by decide +kernel
theorem step_negL : ∀ x ∈ tyL, stepN [x] nodG = if x = 3 then (191, [0]) else (0, [x]) := by decide +kernel
theorem check_bin {ns ms : List Nod} {x y k : Int} {a b : Nat} (h : checkN ns = (x, a, 0)) (h2 : checkN ms = (y, b, 0)) (hl : ns.length + ms.length ≤ 2000) (hk1 : 1 ≤ k) (hk2 : k ≤ 13) :
    checkN (ns ++ ms ++ [nodB k]) = if joinB x y k = true then (max x y, 0, 0) else (0, ns.length + ms.length, 192) := by
  obtain ⟨r1, t1, _, _⟩ := checkN_ok h
  obtain ⟨r2, t2, _, _⟩ := checkN_ok h2
  have hr : runN' (ns ++ ms) 0 [] = .ok [x, y] := by
    rw [runN_append, r1]
    simp only
    rw [show ([x] : List Int) = [x] ++ [] from rfl, runN_under [x] ms 0 [] [y] _ r2]
    rfl
  rw [checkN_snoc hr (by rw [List.length_append]; omega), step_binL x t1.mem y t2.mem k (op_mem hk1 hk2)]
  by_cases hj : joinB x y k = true
  · simp [hj]
  · simp [hj]
theorem check_sum {ns : List Nod} {x : Int} {a : Nat} (h : checkN ns = (x, a, 0)) (hl : ns.length ≤ 2000) : checkN (ns ++ [nodS]) = if x = 2 then (2, 0, 0) else (0, ns.length, 191) := by
  obtain ⟨r1, t1, _, _⟩ := checkN_ok h
  rw [checkN_snoc r1 (by omega), step_sumL x t1.mem]
  by_cases hj : x = 2
  · simp [hj]
  · simp [hj]
theorem check_rate {ns : List Nod} {x : Int} {a : Nat} (h : checkN ns = (x, a, 0)) (hl : ns.length ≤ 2000) : checkN (ns ++ [nodR]) = if x = 3 then (2, 0, 0) else (0, ns.length, 191) := by
  obtain ⟨r1, t1, _, _⟩ := checkN_ok h
  rw [checkN_snoc r1 (by omega), step_rateL x t1.mem]
  by_cases hj : x = 3
  · simp [hj]
  · simp [hj]
theorem check_neg {ns : List Nod} {x : Int} {a : Nat} (h : checkN ns = (x, a, 0)) (hl : ns.length ≤ 2000) : checkN (ns ++ [nodG]) = if x = 3 then (0, ns.length, 191) else (x, 0, 0) := by
  obtain ⟨r1, t1, _, _⟩ := checkN_ok h
  rw [checkN_snoc r1 (by omega), step_negL x t1.mem]
  by_cases hj : x = 3
  · simp [hj]
  · simp [hj]
theorem ok_nodB (k : Int) : okNodT (nodB k) := ⟨by simp [nodB], by simp [nodB], by simp [nodB, maxLen], by simp [nodB], by show ByteArray.empty.size ≤ _; decide +kernel⟩
theorem ok_nodS : okNodT nodS := ⟨by simp [nodS], by simp [nodS], by simp [nodS, maxLen], by simp [nodS], by show ByteArray.empty.size ≤ _; decide +kernel⟩
theorem ok_nodG : okNodT nodG := ⟨by simp [nodG], by simp [nodG], by simp [nodG, maxLen], by simp [nodG], by show ByteArray.empty.size ≤ _; decide +kernel⟩
theorem ok_app {ns ms : List Nod} (h1 : ∀ x ∈ ns, okNodT x) (h2 : ∀ x ∈ ms, okNodT x) : ∀ x ∈ ns ++ ms, okNodT x := fun x hx => (List.mem_append.1 hx).elim (h1 x) (h2 x)
theorem ok_one {n : Nod} (h : okNodT n) : ∀ x ∈ [n], okNodT x := fun x hx => by simp at hx; subst hx; exact h
/-- The contract, where the answer is known. -/
theorem tcheck_eq {ns : List Nod} {k e : Int} {a : Nat} (hK : Hid (checkN ns = (k, a, e))) (A1 : Option Addr) (n1 c1 B1 : Nat) (w : World) (h1 : RdNods w B1 A1 ns) (hn1 : ns.length = n1) (hB : B1 ≤ w.heap.size) (hm1 : n1 * 120 ≤ 140737488355328) (hok : ∀ x ∈ ns, okNodT x) :
    Calls Try.prog 9 #[.slice A1 n1 c1] w fun v w' => v = .returned (.tuple #[.int .i64 k, .int .i64 (a : Int), .int .i64 e]) ∧ Below w.heap.size w w' := by
  have h := tcheck_any ns A1 n1 c1 B1 w h1 hn1 hB hm1 hok
  unfold CheckRes at h
  rw [hK.out] at h
  exact h
end Go.Proofs.Ytmhfeeomlpdnkaa
