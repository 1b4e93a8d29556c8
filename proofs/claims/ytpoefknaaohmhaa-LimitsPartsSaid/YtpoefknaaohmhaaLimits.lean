/- Checking a push: both programs. -/
import Derived.Test.YtpoefknaaohmhaaSamps
import Derived.Test.YtpoefknaaohmhaaCheck
import Derived.Test.YtpoefknaaohmhaaTenant
namespace Go.Proofs.Ytpoefknaaohmhaa
open Go.RowKit

def labsBad (L : Int) (s : Samp) : Bool := decide (checkL s.ls ≠ 0) || decide (s.ls.length = 0) || decide (L < s.ls.length)
def timeBad (t : Int) : Bool := decide (t < -1099511627776) || decide (1099511627776 < t)
def ask1E (L : Int) (s : Samp) : Int := if labsBad L s = true then 152 else 0
def ask2E (s : Samp) : Int := if timeBad s.t = true then 153 else 0
def sampErr (L : Int) (s : Samp) : Int := if labsBad L s = true then 152 else if timeBad s.t = true then 153 else 0
def limFrom (L : Int) : Int → List Samp → Int × Int
  | _, [] => (0, 0)
  | k, s :: r => if sampErr L s = 0 then limFrom L (k + 1) r else (k, sampErr L s)
def limL (tenant : ByteArray) (ss : List Samp) (L P : Int) : Int × Int :=
  if tenantB tenant = false then (0, 150) else if ss.length = 0 ∨ P < ss.length ∨ 256 < ss.length then (0, 151) else limFrom L 0 ss

def okSamps (ss : List Samp) : Prop := ∀ s ∈ ss, okLabs s.ls

set_option maxHeartbeats 1000000 in
theorem ask1_any (s : Samp) (A : Option Addr) (c B X : Nat) (L : Int) (w : World) (h1 : Rd w B 2 A (labsC s.ls)) (hB : B ≤ w.heap.size) (hl : s.ls.length ≤ maxLen) (hok : okLabs s.ls) (hX : w.cell? ⟨X, 1, none⟩ = some (.int .i64 L)) :
    Calls Try.prog 24 #[.agg #[.slice A s.ls.length c, .int .i64 s.t, .int .u64 s.v], .pointer (some ⟨X, 0, none⟩)] w fun e w' => e = .returned (.int .i64 (ask1E L s)) ∧ Below w.heap.size w w' := by
  have HC := fun (W : World) h2 h3 => Lib.hid (check_any s.ls A s.ls.length c B W h2 rfl h3 hl hok)
  have HX := World.block_lt_of_cell? w _ hX
  by_cases hc : checkL s.ls = 0
  · rw [hc] at HC
    by_cases hn : s.ls.length = 0
    · have HE : Hid (ask1E L s = 152) := by show _ = _; rw [ask1E]; rw [if_pos (by simp [labsBad, hn])]
      have hn1 : ((s.ls.length : Int) == 0) = true := by rw [beq_iff_eq]; omega
      clear hc hn
      go_enter Try.func24, Try.ntmps24
      go_wp2_with (go_at_call 25; refine ((HC _ ?q1 ?q2).out).mono ?_; (case q1 => exact h1.below ((Below.refl _ _).alloc (by omega) _)); (case q2 => (simp; omega)); rintro e w1 ⟨rfl, hb1⟩; have k0 : w1.cell? ⟨w.heap.size, 0, none⟩ = some (.slice A s.ls.length c) := (hb1.cell (by simp)).trans (by simp [go_sem]); have k1 : w1.cell? ⟨X, 1, none⟩ = some (.int .i64 L) := (hb1.cell (by simp; omega)).trans ((World.cell?_alloc_lt _ _ _ (by simpa using HX)).trans hX))
      go_ret
      exact ⟨ret_int HE.out.symm, ((Below.refl _ _).alloc (Nat.le_refl _) _).trans (hb1.mono (by simp))⟩
    · have hn1 : ((s.ls.length : Int) == 0) = false := by rw [beq_eq_false_iff_ne]; omega
      by_cases hg : L < s.ls.length
      · have HE : Hid (ask1E L s = 152) := by show _ = _; rw [ask1E]; rw [if_pos (by simp [labsBad, hg])]
        clear hc hn
        go_enter Try.func24, Try.ntmps24
        go_wp2_with (go_at_call 25; refine ((HC _ ?q1 ?q2).out).mono ?_; (case q1 => exact h1.below ((Below.refl _ _).alloc (by omega) _)); (case q2 => (simp; omega)); rintro e w1 ⟨rfl, hb1⟩; have k0 : w1.cell? ⟨w.heap.size, 0, none⟩ = some (.slice A s.ls.length c) := (hb1.cell (by simp)).trans (by simp [go_sem]); have k1 : w1.cell? ⟨X, 1, none⟩ = some (.int .i64 L) := (hb1.cell (by simp; omega)).trans ((World.cell?_alloc_lt _ _ _ (by simpa using HX)).trans hX))
        go_ret
        exact ⟨ret_int HE.out.symm, ((Below.refl _ _).alloc (Nat.le_refl _) _).trans (hb1.mono (by simp))⟩
      · have HE : Hid (ask1E L s = 0) := by show _ = _; rw [ask1E]; rw [if_neg (by simp [labsBad, hg, hn, hc])]
        clear hc hn
        go_enter Try.func24, Try.ntmps24
        go_wp2_with (go_at_call 25; refine ((HC _ ?q1 ?q2).out).mono ?_; (case q1 => exact h1.below ((Below.refl _ _).alloc (by omega) _)); (case q2 => (simp; omega)); rintro e w1 ⟨rfl, hb1⟩; have k0 : w1.cell? ⟨w.heap.size, 0, none⟩ = some (.slice A s.ls.length c) := (hb1.cell (by simp)).trans (by simp [go_sem]); have k1 : w1.cell? ⟨X, 1, none⟩ = some (.int .i64 L) := (hb1.cell (by simp; omega)).trans ((World.cell?_alloc_lt _ _ _ (by simpa using HX)).trans hX))
        go_ret
        exact ⟨ret_int HE.out.symm, ((Below.refl _ _).alloc (Nat.le_refl _) _).trans (hb1.mono (by simp))⟩
  · have hc1 : ((checkL s.ls : Int) != 0) = true := by rw [bne_iff_ne]; exact hc
    have HE : Hid (ask1E L s = 152) := by show _ = _; rw [ask1E]; rw [if_pos (by simp [labsBad, hc])]
    clear hc
    go_enter Try.func24, Try.ntmps24
    go_wp2_with (go_at_call 25; refine ((HC _ ?q1 ?q2).out).mono ?_; (case q1 => exact h1.below ((Below.refl _ _).alloc (by omega) _)); (case q2 => (simp; omega)); rintro e w1 ⟨rfl, hb1⟩; have k0 : w1.cell? ⟨w.heap.size, 0, none⟩ = some (.slice A s.ls.length c) := (hb1.cell (by simp)).trans (by simp [go_sem]); have k1 : w1.cell? ⟨X, 1, none⟩ = some (.int .i64 L) := (hb1.cell (by simp; omega)).trans ((World.cell?_alloc_lt _ _ _ (by simpa using HX)).trans hX))
    go_ret
    exact ⟨ret_int HE.out.symm, ((Below.refl _ _).alloc (Nat.le_refl _) _).trans (hb1.mono (by simp))⟩

set_option maxHeartbeats 1000000 in
theorem ask2_any (s : Samp) (v : Value) (w : World) :
    Calls Try.prog 26 #[.agg #[v, .int .i64 s.t, .int .u64 s.v]] w fun e w' => e = .returned (.int .i64 (ask2E s)) ∧ Below w.heap.size w w' := by
  by_cases h1 : s.t < -1099511627776
  · have HE : Hid (ask2E s = 153) := by show _ = _; rw [ask2E]; rw [if_pos (by simp [timeBad, h1])]
    go_enter Try.func26, Try.ntmps26
    go_wp2
    go_ret
    exact ⟨ret_int HE.out.symm, (Below.refl _ _).alloc (Nat.le_refl _) _⟩
  · by_cases h2 : 1099511627776 < s.t
    · have HE : Hid (ask2E s = 153) := by show _ = _; rw [ask2E]; rw [if_pos (by simp [timeBad, h2])]
      go_enter Try.func26, Try.ntmps26
      go_wp2
      go_ret
      exact ⟨ret_int HE.out.symm, (Below.refl _ _).alloc (Nat.le_refl _) _⟩
    · have HE : Hid (ask2E s = 0) := by show _ = _; rw [ask2E]; rw [if_neg (by simp [timeBad, h1, h2])]
      go_enter Try.func26, Try.ntmps26
      go_wp2
      go_ret
      exact ⟨ret_int HE.out.symm, (Below.refl _ _).alloc (Nat.le_refl _) _⟩

theorem run_mf {P : Program} : ∀ (fn : Fn) (first cap : Array Value) (w : World), (Instr.makeFunc fn first cap).run P w = .ok (.func fn first cap) w := fun _ _ _ _ => rfl

def askRow (X : Nat) : Array Value := #[.func (.func 24) #[] #[.pointer (some ⟨X, 0, none⟩)], .func (.func 26) #[] #[]]
set_option maxHeartbeats 1000000 in
theorem asks_any (se L P : Int) (ha : Bool) (w : World) :
    Calls Try.prog 18 #[.agg #[.int .i64 se, .int .i64 L, .int .i64 P, .bool ha]] w fun e w' => e = .returned (.slice (some ⟨w.heap.size + 1, 0, none⟩) 2 2) ∧
      w' = (w.alloc (.cells #[.int .i64 se, .int .i64 L, .int .i64 P, .bool ha] 24)).alloc (.cells (askRow w.heap.size) 46) := by
  have hmf := @run_mf Try.prog
  go_enter Try.func18, Try.ntmps18
  go_wp2
  go_ret
  exact ⟨rfl, rfl⟩

theorem ldrop_cons {α : Type} {ls : List α} {k : Nat} {l : α} (h : ls[k]? = some l) : ls.drop k = l :: ls.drop (k + 1) := by
  obtain ⟨hk, rfl⟩ := List.getElem?_eq_some_iff.1 h
  exact List.drop_eq_getElem_cons hk
theorem lim_next {L : Int} {ss : List Samp} {k : Nat} {s : Samp} (h : ss[k]? = some s) (he : sampErr L s = 0) : limFrom L k (ss.drop k) = limFrom L ((k + 1 : Nat) : Int) (ss.drop (k + 1)) := by
  rw [ldrop_cons h, limFrom, if_pos he]; rfl
theorem lim_stop {L : Int} {ss : List Samp} {k : Nat} {s : Samp} {e : Int} (h : ss[k]? = some s) (he : sampErr L s = e) (h0 : e ≠ 0) : limFrom L k (ss.drop k) = ((k : Int), e) := by
  rw [ldrop_cons h, limFrom, he, if_neg h0]
theorem ret_two {k k' : IntKind} {a b c d : Int} (h : (a, b) = (c, d)) : Ending.returned (.tuple #[.int k a, .int k' b]) = .returned (.tuple #[.int k c, .int k' d]) := by
  injection h with h1 h2; rw [h1, h2]
end Go.Proofs.Ytpoefknaaohmhaa
