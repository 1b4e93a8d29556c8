/- Lists of Matchers in memory: held against one another, copied, spoilt. -/
import Derived.Test.YtdikmklijpcjdaaMem2
import Derived.Test.YtdikmklijpcjdaaProg
import Derived.BigQuiet
import Derived.Deep.QuietTactic
import Derived.Laws.StructEq
namespace Go.Proofs.Ytdikmklijpcjdaa
section
/-! ## MatS -/
open Go.RowKit

structure Mat where
  kind : Int
  name : ByteArray
  val : ByteArray
def matC (m : Mat) : List Value := [.int .i64 m.kind, .string m.name, .string m.val]
def matsC (ms : List Mat) : List (List Value) := ms.map matC
theorem matsC_sz (ms : List Mat) : ∀ x ∈ matsC ms, x.length = 3 := by
  intro x hx
  obtain ⟨l, _, rfl⟩ := List.mem_map.1 hx
  rfl
theorem one_mats (ms : List Mat) : ∀ y ∈ matsC ms, ∀ u ∈ y, u.oneCell' = true := by
  intro y hy u hu
  obtain ⟨l, _, rfl⟩ := List.mem_map.1 hy
  simp [matC] at hu
  rcases hu with rfl | rfl | rfl <;> rfl
end
section
/-! ## MatL -/
open Go.RowKit

def matEq (a b : Mat) : Bool := decide (a.kind = b.kind) && decide (a.name = b.name) && decide (a.val = b.val)
theorem matEq_iff {a b : Mat} : matEq a b = true ↔ a = b := by
  cases a; cases b; simp [matEq, and_assoc]
instance : DecidableEq Mat := fun a b => if h : matEq a b = true then isTrue (matEq_iff.1 h) else isFalse (fun e => h (matEq_iff.2 e))
theorem matEq_dec (a b : Mat) : matEq a b = decide (a = b) := by
  rw [Bool.eq_iff_iff, matEq_iff]; simp
theorem matC_at {ls : List Mat} {k : Nat} {l : Mat} (h : ls[k]? = some l) : (matsC ls)[k]? = some [.int .i64 l.kind, .string l.name, .string l.val] := by simp [matsC, matC, h]
theorem matC_len (ls : List Mat) : (matsC ls).length = ls.length := by simp [matsC]
theorem eqvMat (sa0 sb0 : Int) (sa1 sb1 : ByteArray) (sa2 sb2 : ByteArray) (w : World) : (Op.equalIn 10000 45 (.agg #[.int .i64 sa0, .string sa1, .string sa2]) (.agg #[.int .i64 sb0, .string sb1, .string sb2])).run Try.prog w = .ok (decide (sa0 = sb0) && decide (sa1 = sb1) && decide (sa2 = sb2)) w := by
  have hS : Try.prog.underlying 45 = some (.struct (Try.prog.fieldsOf 45)) := by kernel_rfl
  have hp : Try.prog.stoodInHeld 45 = false := by kernel_rfl
  rw [show (10000 : Nat) = 9999 + 1 from rfl, run_equalIn_agg w 9999 45 _ _ hS hp]
  simp only [Program.fieldsOf, Try.underlying45]
  go_simp
  by_cases h0 : sa0 = sb0 <;> by_cases h1 : sa1 = sb1 <;> by_cases h2 : sa2 = sb2 <;> simp [h0, h1, h2, toList_inj]
theorem eqrMat (a b : Mat) (w : World) : (binOp .eql 45 (.agg #[.int .i64 a.kind, .string a.name, .string a.val]) (.agg #[.int .i64 b.kind, .string b.name, .string b.val])).run Try.prog w = .ok (.bool (decide (a = b))) w := by
  rw [run_eql_struct, eqvMat, ← matEq_dec]
  simp only [Result.andThen, matEq]
theorem neqrMat (a b : Mat) (w : World) : (binOp .neq 45 (.agg #[.int .i64 a.kind, .string a.name, .string a.val]) (.agg #[.int .i64 b.kind, .string b.name, .string b.val])).run Try.prog w = .ok (.bool (!decide (a = b))) w := by
  rw [run_neq_struct, eqvMat, ← matEq_dec]
  simp only [Result.andThen, matEq]
theorem guardMat : Try.prog.eqGuardType Try.prog.depth 45 = false := by kernel_rfl
theorem Rd.at_mat {w : World} {B : Nat} {A : Option Addr} {ls : List Mat} {k : Nat} {l : Mat} (h : Rd w B 3 A (matsC ls)) (hx : ls[k]? = some l) : ∃ b o, A = some ⟨b, o, none⟩ ∧ b < B ∧ w.cell? ⟨b, o + k * 3, none⟩ = some (.int .i64 l.kind) ∧ w.cell? ⟨b, o + k * 3 + 1, none⟩ = some (.string l.name) ∧ w.cell? ⟨b, o + k * 3 + 2, none⟩ = some (.string l.val) := by
  have hx2 := matC_at hx
  obtain ⟨b, o, e, hb, hc⟩ := h.2 (by intro h0; rw [h0] at hx2; simp at hx2)
  exact ⟨b, o, e, hb, by simpa using hc k _ 0 _ hx2 rfl, by simpa using hc k _ 1 _ hx2 rfl, by simpa using hc k _ 2 _ hx2 rfl⟩

set_option maxHeartbeats 1000000 in
theorem sameMatchers_any (ls ms : List Mat) (A1 A2 : Option Addr) (n1 n2 c1 c2 B1 B2 : Nat) (w : World) (h1 : Rd w B1 3 A1 (matsC ls)) (h2 : Rd w B2 3 A2 (matsC ms)) (hn1 : ls.length = n1) (hn2 : ms.length = n2) (hm1 : n1 ≤ maxLen) (hm2 : n2 ≤ maxLen) :
    Calls Try.prog 29 #[.slice A1 n1 c1, .slice A2 n2 c2] w fun e w' => e = .returned (.bool (decide (ls = ms))) ∧ ∃ n, w' = w.drewN n := by
  unfold maxLen at hm1 hm2
  by_cases hl : n1 = n2
  · obtain rfl : n1 = n2 := hl
    have Hn1 := Lib.hid hn1
    have Hn2 := Lib.hid hn2
    clear hn1 hn2
    have hneq := neqrMat
    have hgl := guardMat
    go_enter Try.func29, Try.ntmps29
    go_wp2
    go_loopw [5] (fun i wr => ∃ k q : Nat, k ≤ n1 ∧ i = .int .i64 k ∧ wr = w.drewN q ∧ Hid (∀ j, j < k → ls[j]? = ms[j]?)) (fun i _ => n1 - (intOf i).toNat)
    case atStart => exact ⟨0, 0, by omega, rfl, rfl, fun j hj => by omega⟩
    case round =>
      obtain ⟨k, q, hk, rfl, rfl, hall⟩ := hrel
      by_cases hlt : k < n1
      · obtain ⟨l, e1⟩ := get_lt Hn1 hlt
        obtain ⟨m, e2⟩ := get_lt Hn2 hlt
        obtain ⟨b1, o1, hA1, hb1, p0, p1, p2⟩ := h1.at_mat e1
        obtain ⟨b2, o2, hA2, hb2, q0, q1, q2⟩ := h2.at_mat e2
        subst hA1 hA2
        have E1 := Lib.hid e1
        have E2 := Lib.hid e2
        clear e1 e2
        by_cases he : l = m
        · have hne : ∀ W : World, (binOp .neq 45 (.agg #[.int .i64 l.kind, .string l.name, .string l.val]) (.agg #[.int .i64 m.kind, .string m.name, .string m.val])).run Try.prog W = .ok (.bool false) W := fun W => by rw [neqrMat, decide_eq_true he]; rfl
          have He := Lib.hid he
          clear he hneq
          go_wp2
          go_quiet (fail)
          go_wp2
          go_roundw
          case rel => exact ⟨k + 1, _, by omega, by go_num, rfl, fun j hj => by
            by_cases ej : j = k
            · subst ej; rw [E1.out, E2.out]; exact congrArg some He.out
            · exact hall j (by omega)⟩
          case measure => simp [intOf]; omega
        · have hne : ∀ W : World, (binOp .neq 45 (.agg #[.int .i64 l.kind, .string l.name, .string l.val]) (.agg #[.int .i64 m.kind, .string m.name, .string m.val])).run Try.prog W = .ok (.bool true) W := fun W => by rw [neqrMat, decide_eq_false he]; rfl
          have HD := Lib.hid (decide_eq_false (take_ne E1.out E2.out he))
          clear he hneq
          go_wp2
          go_quiet (fail)
          go_wp2
          go_ret
          exact ⟨ret_bool HD.out.symm, q + nq, World.drewN_drewN ..⟩
      · have HD : Hid (decide (ls = ms) = true) := decide_eq_true (eq_of_upto (by rw [Hn1.out, Hn2.out]) fun j hj => hall j (by rw [Hn1.out] at hj; omega))
        go_wp2
        go_ret
        exact ⟨ret_bool HD.out.symm, _, rfl⟩
  · have HD : Hid (decide (ls = ms) = false) := decide_eq_false (by rintro rfl; omega)
    have hl2 : ¬ (n1 : Int) = (n2 : Int) := by omega
    have hl3 : ((n1 : Int) != (n2 : Int)) = true := by rw [bne_iff_ne]; exact hl2
    clear hl hl2
    go_enter Try.func29, Try.ntmps29
    go_wp2
    go_ret
    exact ⟨ret_bool HD.out.symm, 0, rfl⟩
theorem eiMat : EI Try.prog 34 45 3 40 := EI.mk' Try.underlying34 (z := .agg #[.int .i64 0, .string ByteArray.empty, .string ByteArray.empty]) (by kernel_rfl) rfl (by omega)
theorem matL_one (ls : List Mat) : ∀ y ∈ matsC ls, ∀ u ∈ y, u.oneCell' = true := by
  intro y hy u hu
  obtain ⟨l, _, rfl⟩ := List.mem_map.1 hy
  simp [matC] at hu
  rcases hu with rfl | rfl | rfl <;> rfl

set_option maxHeartbeats 1000000 in
theorem copyMatchers_any (ls : List Mat) (A1 : Option Addr) (n1 c1 B1 : Nat) (w : World) (h1 : Rd w B1 3 A1 (matsC ls)) (hn1 : ls.length = n1) (hB : B1 ≤ w.heap.size) (hm1 : n1 * 40 ≤ 140737488355328) :
    Calls Try.prog 38 #[.slice A1 n1 c1] w fun e w' => ∃ A c, e = .returned (.slice A n1 c) ∧ Own w' w.heap.size 45 3 A n1 c (matsC ls) ∧ Below w.heap.size w w' := by
  have Hn1 := Lib.hid hn1
  clear hn1
  go_enter Try.func38, Try.ntmps38
  go_wp2_with (at_builtin; refine wpList_append_rd (ys := matsC ls) _ rfl (.tmp 3) (.tmp 4) _ rfl eiMat rfl (Own.lit (n := 0) (xs := []) w (by omega) (by simp) rfl (by simp [maxLen]) (Nat.le_refl _) #[] rfl) rfl (h1.below ((Below.refl _ _).alloc (by omega) _)) (by rw [matC_len]; exact Hn1.out) (matL_one ls) (by simp only [maxLen]; omega) (by omega) (by simp) ?_; intro A' c' w2 ho hg hat hb)
  go_ret
  exact ⟨A', c', by simp, by simpa using ho, ((Below.refl _ _).alloc (Nat.le_refl _) _).trans hb⟩
end
end Go.Proofs.Ytdikmklijpcjdaa
