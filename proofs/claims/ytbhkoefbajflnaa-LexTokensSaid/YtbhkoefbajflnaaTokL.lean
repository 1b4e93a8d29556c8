/- Lists of Tokens in memory: held against one another, copied, spoilt. -/
import Derived.Test.YtbhkoefbajflnaaLexSpec
import Derived.Test.YtbhkoefbajflnaaMem2
import Derived.BigQuiet
import Derived.Deep.QuietTactic
import Derived.Laws.StructEq
namespace Go.Proofs.Ytbhkoefbajflnaa
open Go.RowKit

def tokEq (a b : Tok) : Bool := decide (a.kind = b.kind) && decide (a.at_ = b.at_) && decide (a.text = b.text) && decide (a.span = b.span)
theorem tokEq_iff {a b : Tok} : tokEq a b = true ↔ a = b := by
  cases a; cases b; simp [tokEq, and_assoc]
instance : DecidableEq Tok := fun a b => if h : tokEq a b = true then isTrue (tokEq_iff.1 h) else isFalse (fun e => h (tokEq_iff.2 e))
theorem tokEq_dec (a b : Tok) : tokEq a b = decide (a = b) := by
  rw [Bool.eq_iff_iff, tokEq_iff]; simp
theorem tokC_at {ls : List Tok} {k : Nat} {l : Tok} (h : ls[k]? = some l) : (toksC ls)[k]? = some [.int .i64 l.kind, .int .i64 (l.at_ : Nat), .string l.text, .int .i64 (l.span : Nat)] := by simp [toksC, tokC, h]
theorem tokC_len (ls : List Tok) : (toksC ls).length = ls.length := by simp [toksC]
theorem eqvTok (sa0 sb0 : Int) (sa1 sb1 : Int) (sa2 sb2 : ByteArray) (sa3 sb3 : Int) (w : World) : (Op.equalIn 10000 32 (.agg #[.int .i64 sa0, .int .i64 sa1, .string sa2, .int .i64 sa3]) (.agg #[.int .i64 sb0, .int .i64 sb1, .string sb2, .int .i64 sb3])).run Try.prog w = .ok (decide (sa0 = sb0) && decide (sa1 = sb1) && decide (sa2 = sb2) && decide (sa3 = sb3)) w := by
  have hS : Try.prog.underlying 32 = some (.struct (Try.prog.fieldsOf 32)) := by kernel_rfl
  have hp : Try.prog.stoodInHeld 32 = false := by kernel_rfl
  rw [show (10000 : Nat) = 9999 + 1 from rfl, run_equalIn_agg w 9999 32 _ _ hS hp]
  simp only [Program.fieldsOf, Try.underlying32]
  go_simp
  by_cases h0 : sa0 = sb0 <;> by_cases h1 : sa1 = sb1 <;> by_cases h2 : sa2 = sb2 <;> by_cases h3 : sa3 = sb3 <;> simp [h0, h1, h2, h3, toList_inj]
theorem eqrTok (a b : Tok) (w : World) : (binOp .eql 32 (.agg #[.int .i64 a.kind, .int .i64 (a.at_ : Nat), .string a.text, .int .i64 (a.span : Nat)]) (.agg #[.int .i64 b.kind, .int .i64 (b.at_ : Nat), .string b.text, .int .i64 (b.span : Nat)])).run Try.prog w = .ok (.bool (decide (a = b))) w := by
  rw [run_eql_struct, eqvTok, ← tokEq_dec]
  simp only [Result.andThen, tokEq, Int.natCast_inj]
theorem neqrTok (a b : Tok) (w : World) : (binOp .neq 32 (.agg #[.int .i64 a.kind, .int .i64 (a.at_ : Nat), .string a.text, .int .i64 (a.span : Nat)]) (.agg #[.int .i64 b.kind, .int .i64 (b.at_ : Nat), .string b.text, .int .i64 (b.span : Nat)])).run Try.prog w = .ok (.bool (!decide (a = b))) w := by
  rw [run_neq_struct, eqvTok, ← tokEq_dec]
  simp only [Result.andThen, tokEq, Int.natCast_inj]
theorem guardTok : Try.prog.eqGuardType Try.prog.depth 32 = false := by kernel_rfl
theorem Rd.at_tok {w : World} {B : Nat} {A : Option Addr} {ls : List Tok} {k : Nat} {l : Tok} (h : Rd w B 4 A (toksC ls)) (hx : ls[k]? = some l) : ∃ b o, A = some ⟨b, o, none⟩ ∧ b < B ∧ w.cell? ⟨b, o + k * 4, none⟩ = some (.int .i64 l.kind) ∧ w.cell? ⟨b, o + k * 4 + 1, none⟩ = some (.int .i64 (l.at_ : Nat)) ∧ w.cell? ⟨b, o + k * 4 + 2, none⟩ = some (.string l.text) ∧ w.cell? ⟨b, o + k * 4 + 3, none⟩ = some (.int .i64 (l.span : Nat)) := by
  have hx2 := tokC_at hx
  obtain ⟨b, o, e, hb, hc⟩ := h.2 (by intro h0; rw [h0] at hx2; simp at hx2)
  exact ⟨b, o, e, hb, by simpa using hc k _ 0 _ hx2 rfl, by simpa using hc k _ 1 _ hx2 rfl, by simpa using hc k _ 2 _ hx2 rfl, by simpa using hc k _ 3 _ hx2 rfl⟩

set_option maxHeartbeats 1000000 in
theorem sameTokens_any (ls ms : List Tok) (A1 A2 : Option Addr) (n1 n2 c1 c2 B1 B2 : Nat) (w : World) (h1 : Rd w B1 4 A1 (toksC ls)) (h2 : Rd w B2 4 A2 (toksC ms)) (hn1 : ls.length = n1) (hn2 : ms.length = n2) (hm1 : n1 ≤ maxLen) (hm2 : n2 ≤ maxLen) :
    Calls Try.prog 16 #[.slice A1 n1 c1, .slice A2 n2 c2] w fun e w' => e = .returned (.bool (decide (ls = ms))) ∧ ∃ n, w' = w.drewN n := by
  unfold maxLen at hm1 hm2
  by_cases hl : n1 = n2
  · obtain rfl : n1 = n2 := hl
    have Hn1 := Lib.hid hn1
    have Hn2 := Lib.hid hn2
    clear hn1 hn2
    have hneq := neqrTok
    have hgl := guardTok
    go_enter Try.func16, Try.ntmps16
    go_wp2
    go_loopw [5] (fun i wr => ∃ k q : Nat, k ≤ n1 ∧ i = .int .i64 k ∧ wr = w.drewN q ∧ Hid (∀ j, j < k → ls[j]? = ms[j]?)) (fun i _ => n1 - (intOf i).toNat)
    case atStart => exact ⟨0, 0, by omega, rfl, rfl, fun j hj => by omega⟩
    case round =>
      obtain ⟨k, q, hk, rfl, rfl, hall⟩ := hrel
      by_cases hlt : k < n1
      · obtain ⟨l, e1⟩ := get_lt Hn1 hlt
        obtain ⟨m, e2⟩ := get_lt Hn2 hlt
        obtain ⟨b1, o1, hA1, hb1, p0, p1, p2, p3⟩ := h1.at_tok e1
        obtain ⟨b2, o2, hA2, hb2, q0, q1, q2, q3⟩ := h2.at_tok e2
        subst hA1 hA2
        have E1 := Lib.hid e1
        have E2 := Lib.hid e2
        clear e1 e2
        by_cases he : l = m
        · have hne : ∀ W : World, (binOp .neq 32 (.agg #[.int .i64 l.kind, .int .i64 (l.at_ : Nat), .string l.text, .int .i64 (l.span : Nat)]) (.agg #[.int .i64 m.kind, .int .i64 (m.at_ : Nat), .string m.text, .int .i64 (m.span : Nat)])).run Try.prog W = .ok (.bool false) W := fun W => by rw [neqrTok, decide_eq_true he]; rfl
          have He := Lib.hid he
          clear he hneq
          go_wp2
          go_quiet (fail)
          go_wp2
          go_roundw
          case rel => exact ⟨k + 1, _, by omega, by go_num, rfl, fun j hj => by
            by_cases ej : j = k
            · subst ej; rw [E1.out, E2.out]; exact congrArg some He.out
            · exact hall j (by omega)⟩
          case measure => simp [intOf]; omega
        · have hne : ∀ W : World, (binOp .neq 32 (.agg #[.int .i64 l.kind, .int .i64 (l.at_ : Nat), .string l.text, .int .i64 (l.span : Nat)]) (.agg #[.int .i64 m.kind, .int .i64 (m.at_ : Nat), .string m.text, .int .i64 (m.span : Nat)])).run Try.prog W = .ok (.bool true) W := fun W => by rw [neqrTok, decide_eq_false he]; rfl
          have HD := Lib.hid (decide_eq_false (take_ne E1.out E2.out he))
          clear he hneq
          go_wp2
          go_quiet (fail)
          go_wp2
          go_ret
          exact ⟨ret_bool HD.out.symm, q + nq, World.drewN_drewN ..⟩
      · have HD : Hid (decide (ls = ms) = true) := decide_eq_true (eq_of_upto (by rw [Hn1.out, Hn2.out]) fun j hj => hall j (by rw [Hn1.out] at hj; omega))
        go_wp2
        go_ret
        exact ⟨ret_bool HD.out.symm, _, rfl⟩
  · have HD : Hid (decide (ls = ms) = false) := decide_eq_false (by rintro rfl; omega)
    have hl2 : ¬ (n1 : Int) = (n2 : Int) := by omega
    have hl3 : ((n1 : Int) != (n2 : Int)) = true := by rw [bne_iff_ne]; exact hl2
    clear hl hl2
    go_enter Try.func16, Try.ntmps16
    go_wp2
    go_ret
    exact ⟨ret_bool HD.out.symm, 0, rfl⟩

set_option maxRecDepth 100000 in
set_option maxHeartbeats 2000000 in
theorem spoilTokens_any (xs : List (List Value)) (A : Option Addr) (n c base : Nat) (w : World) (hO : Own w base 32 4 A n c xs) (hn : (n + 1) * 40 ≤ 140737488355328) (hbase : base ≤ w.heap.size) :
    Calls Try.prog 17 #[.slice A n c] w fun e w' => e = .returned (.tuple #[]) ∧ w.grownBy w' (A.map Addr.block) := by
  have hE : EI Try.prog 22 32 4 40 := EI.mk' Try.underlying22 (z := .agg #[.int .i64 0, .int .i64 0, .string ByteArray.empty, .int .i64 0]) (by kernel_rfl) rfl (by omega)
  have hcap := hO.cap
  go_enter Try.func17, Try.ntmps17
  go_wp2_with (at_builtin; refine wpList_append_ex (ys := [[.int .i64 77, .int .i64 0, .string ByteArray.empty, .int .i64 0]]) _ rfl (.tmp 5) (.tmp 7) _ rfl hE rfl (hO.alloc _) rfl (Rd.new w (xs := [[.int .i64 77, .int .i64 0, .string ByteArray.empty, .int .i64 0]]) (by simp) _ rfl) rfl (by simp [Value.oneCell']) (by simp only [maxLen]; omega) (by omega) (by simp; omega) ?_; intro A' c' w2 ho hg hat hb)
  have hgr : w.grownBy w2 (A.map Addr.block) := ⟨hg.os, hg.tape, hg.output, by have := hg.size; simp at this; omega, fun k hk hr => (hg.block k (by simp; omega) hr).trans (Below.heap_alloc w _ k hk)⟩
  obtain ⟨g', rfl, hg'⟩ : ∃ g', A' = some ⟨g', 0, none⟩ ∧ (some g' = A.map Addr.block ∨ w.heap.size ≤ g') := by
    rcases ho.form with ⟨_, h0, _⟩ | ⟨g', h, _⟩
    · omega
    · refine ⟨g', h, ?_⟩
      rcases hat with ⟨h1, _⟩ | ⟨h1, _⟩
      · left; rw [← h1, h]; rfl
      · right; rw [h] at h1; injection h1 with h1; injection h1 with h1; simp at h1; omega
  obtain ⟨_, _, hW1⟩ := ho.wr _ _ rfl
  have hW2 : ∀ b o, A = some ⟨b, o, none⟩ → o = 0 ∧ Wr w2 b 32 (n * 4) := by
    intro b o hA
    obtain ⟨h1, _, h2⟩ := hO.wr _ _ hA
    refine ⟨h1, ?_⟩
    rcases hat with ⟨h3, h4⟩ | ⟨_, h3⟩
    · rw [hA] at h3
      injection h3 with h3
      injection h3 with h3
      subst h3 h4
      exact hW1.less (Nat.mul_le_mul_right _ hcap.1)
    · exact ((h2.alloc _).grown h3 (by simp)).less (Nat.mul_le_mul_right _ hcap.1)
  have hcap' := ho.cap
  have hW1 := hW1.less (m' := (n + 1) * 4) (Nat.mul_le_mul_right _ hcap'.1)
  clear hg hat hb ho
  have hn1 : (0 : Int) ≤ n := by omega
  go_loopw [3] (fun i wr => ∃ k : Nat, k ≤ n + 1 ∧ i = .int .i64 k ∧ w.grownBy wr (A.map Addr.block) ∧ Wr wr g' 32 ((n + 1) * 4) ∧ (∀ b o, A = some ⟨b, o, none⟩ → o = 0 ∧ Wr wr b 32 (n * 4))) (fun i _ => n + 1 - (intOf i).toNat)
  case atStart => exact ⟨0, by omega, rfl, hgr, hW1, hW2⟩
  case round =>
    clear hgr hW1 hW2
    obtain ⟨k, hk, rfl, hgr, hW1, hW2⟩ := hrel
    have hk0 : (0 : Int) ≤ k := by omega
    by_cases hlt : k < n + 1
    · have hltI : (k : Int) < (n : Int) + 1 := by omega
      have hltJ : (k : Int) < ((n + 1 : Nat) : Int) := by omega
      obtain ⟨v0, p0⟩ := hW1.cell (j := k * 4) (by omega)
      obtain ⟨v1, p1⟩ := hW1.cell (j := k * 4 + 1) (by omega)
      obtain ⟨v2, p2⟩ := hW1.cell (j := k * 4 + 2) (by omega)
      obtain ⟨v3, p3⟩ := hW1.cell (j := k * 4 + 3) (by omega)
      have hfz := hW1.frozen
      have HW1 := Lib.hid hW1
      have HW2 := Lib.hid hW2
      clear hW1 hW2
      go_wp2
      go_roundw
      case rel => exact ⟨k + 1, by omega, by go_num, (grownBy_setCell (grownBy_setCell (grownBy_setCell (grownBy_setCell hgr (by simpa using hg') _) (by simpa using hg') _) (by simpa using hg') _) (by simpa using hg') _), ((((HW1.out.setCell _ _).setCell _ _).setCell _ _).setCell _ _), fun b o hA => ⟨(HW2.out b o hA).1, (((((HW2.out b o hA).2.setCell _ _).setCell _ _).setCell _ _).setCell _ _)⟩⟩
      case measure => simp [intOf]; omega
    · have hltI : ¬ (k : Int) < (n : Int) + 1 := by omega
      have hltJ : ¬ (k : Int) < ((n + 1 : Nat) : Int) := by omega
      go_wp2
      go_loopw [4] (fun i wr => ∃ k : Nat, k ≤ n ∧ i = .int .i64 k ∧ w.grownBy wr (A.map Addr.block) ∧ (∀ b o, A = some ⟨b, o, none⟩ → o = 0 ∧ Wr wr b 32 (n * 4))) (fun i _ => n - (intOf i).toNat)
      case atStart => exact ⟨0, by omega, rfl, hgr, hW2⟩
      case round =>
        clear hgr hW1 hW2 hltI hltJ hlt hk hk0
        obtain ⟨k, hk, rfl, hgr, hW2⟩ := hrel
        have hk0 : (0 : Int) ≤ k := by omega
        by_cases hlt : k < n
        · have hltI : (k : Int) < (n : Int) := by omega
          obtain ⟨g, rfl⟩ : ∃ g, A = some ⟨g, 0, none⟩ := by
            rcases hO.form with ⟨_, h0, _⟩ | ⟨g, h, _⟩
            · omega
            · exact ⟨g, h⟩
          have hW1 := (hW2 g 0 rfl).2
          obtain ⟨v0, p0⟩ := hW1.cell (j := k * 4) (by omega)
          obtain ⟨v1, p1⟩ := hW1.cell (j := k * 4 + 1) (by omega)
          obtain ⟨v2, p2⟩ := hW1.cell (j := k * 4 + 2) (by omega)
          obtain ⟨v3, p3⟩ := hW1.cell (j := k * 4 + 3) (by omega)
          have hfz := hW1.frozen
          have HW1 := Lib.hid hW1
          clear hW1 hW2
          go_wp2
          go_roundw
          case rel => exact ⟨k + 1, by omega, by go_num, (grownBy_setCell (grownBy_setCell (grownBy_setCell (grownBy_setCell hgr (by simp) _) (by simp) _) (by simp) _) (by simp) _), fun b o hA => by injection hA with hA; injection hA with e1 e2; subst e1 e2; exact ⟨rfl, ((((HW1.out.setCell _ _).setCell _ _).setCell _ _).setCell _ _)⟩⟩
          case measure => simp [intOf]; omega
        · have hltI : ¬ (k : Int) < (n : Int) := by omega
          clear hW2
          go_wp2
          go_end0
          exact ⟨rfl, hgr⟩
end Go.Proofs.Ytbhkoefbajflnaa
