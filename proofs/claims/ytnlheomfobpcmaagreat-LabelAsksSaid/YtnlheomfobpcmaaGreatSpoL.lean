/- Label sets spoilt. -/
import Derived.Test.YtnlheomfobpcmaaGreatLabE
namespace Go.Proofs.YtnlheomfobpcmaaGreat
open Go.RowKit

set_option maxRecDepth 100000 in
set_option maxHeartbeats 2000000 in
theorem spoilLabels_any (xs : List (List Value)) (A : Option Addr) (n c base : Nat) (w : World) (hO : Own w base 51 2 A n c xs) (hn : (n + 1) * 32 ≤ 140737488355328) (hbase : base ≤ w.heap.size) :
    Calls Tryz.prog 31 #[.slice A n c] w fun e w' => e = .returned (.tuple #[]) ∧ w.grownBy w' (A.map Addr.block) := by
  have hE : EI Tryz.prog 22 51 2 32 := EI.mk' Tryz.underlying22 (z := .agg #[.string ByteArray.empty, .string ByteArray.empty]) (by kernel_rfl) rfl (by omega)
  have hcap := hO.cap
  go_enter Tryz.func31, Tryz.ntmps31
  go_wp2_with (at_builtin; refine wpList_append_ex (ys := [[.string ⟨#[115, 112, 111, 105, 108, 116]⟩, .string ⟨#[115, 112, 111, 105, 108, 116]⟩]]) _ rfl (.tmp 5) (.tmp 7) _ rfl hE rfl (hO.alloc _) rfl (Rd.new w (xs := [[.string ⟨#[115, 112, 111, 105, 108, 116]⟩, .string ⟨#[115, 112, 111, 105, 108, 116]⟩]]) (by simp) _ rfl) rfl (by simp [Value.oneCell']) (by simp only [maxLen]; omega) (by omega) (by simp; omega) ?_; intro A' c' w2 ho hg hat hb)
  have hgr : w.grownBy w2 (A.map Addr.block) := ⟨hg.os, hg.tape, hg.output, by have := hg.size; simp at this; omega, fun k hk hr => (hg.block k (by simp; omega) hr).trans (Below.heap_alloc w _ k hk)⟩
  obtain ⟨g', rfl, hg'⟩ : ∃ g', A' = some ⟨g', 0, none⟩ ∧ (some g' = A.map Addr.block ∨ w.heap.size ≤ g') := by
    rcases ho.form with ⟨_, h0, _⟩ | ⟨g', h, _⟩
    · omega
    · refine ⟨g', h, ?_⟩
      rcases hat with ⟨h1, _⟩ | ⟨h1, _⟩
      · left; rw [← h1, h]; rfl
      · right; rw [h] at h1; injection h1 with h1; injection h1 with h1; simp at h1; omega
  obtain ⟨_, _, hW1⟩ := ho.wr _ _ rfl
  have hW2 : ∀ b o, A = some ⟨b, o, none⟩ → o = 0 ∧ Wr w2 b 51 (n * 2) := by
    intro b o hA
    obtain ⟨h1, _, h2⟩ := hO.wr _ _ hA
    refine ⟨h1, ?_⟩
    rcases hat with ⟨h3, h4⟩ | ⟨_, h3⟩
    · rw [hA] at h3
      injection h3 with h3
      injection h3 with h3
      subst h3 h4
      exact hW1.less (Nat.mul_le_mul_right _ hcap.1)
    · exact ((h2.alloc _).grown h3 (by simp)).less (Nat.mul_le_mul_right _ hcap.1)
  have hcap' := ho.cap
  have hW1 := hW1.less (m' := (n + 1) * 2) (Nat.mul_le_mul_right _ hcap'.1)
  clear hg hat hb ho
  have hn1 : (0 : Int) ≤ n := by omega
  go_loopw [3] (fun i wr => ∃ k : Nat, k ≤ n + 1 ∧ i = .int .i64 k ∧ w.grownBy wr (A.map Addr.block) ∧ Wr wr g' 51 ((n + 1) * 2) ∧ (∀ b o, A = some ⟨b, o, none⟩ → o = 0 ∧ Wr wr b 51 (n * 2))) (fun i _ => n + 1 - (intOf i).toNat)
  case atStart => exact ⟨0, by omega, rfl, hgr, hW1, hW2⟩
  case round =>
    clear hgr hW1 hW2
    obtain ⟨k, hk, rfl, hgr, hW1, hW2⟩ := hrel
    have hk0 : (0 : Int) ≤ k := by omega
    by_cases hlt : k < n + 1
    · have hltI : (k : Int) < (n : Int) + 1 := by omega
      have hltJ : (k : Int) < ((n + 1 : Nat) : Int) := by omega
      obtain ⟨v0, p0⟩ := hW1.cell (j := k * 2) (by omega)
      obtain ⟨v1, p1⟩ := hW1.cell (j := k * 2 + 1) (by omega)
      have hfz := hW1.frozen
      have HW1 := Lib.hid hW1
      have HW2 := Lib.hid hW2
      clear hW1 hW2
      go_wp2
      go_roundw
      case rel => exact ⟨k + 1, by omega, by go_num, (grownBy_setCell (grownBy_setCell hgr (by simpa using hg') _) (by simpa using hg') _), ((HW1.out.setCell _ _).setCell _ _), fun b o hA => ⟨(HW2.out b o hA).1, (((HW2.out b o hA).2.setCell _ _).setCell _ _)⟩⟩
      case measure => simp [intOf]; omega
    · have hltI : ¬ (k : Int) < (n : Int) + 1 := by omega
      have hltJ : ¬ (k : Int) < ((n + 1 : Nat) : Int) := by omega
      go_wp2
      go_loopw [4] (fun i wr => ∃ k : Nat, k ≤ n ∧ i = .int .i64 k ∧ w.grownBy wr (A.map Addr.block) ∧ (∀ b o, A = some ⟨b, o, none⟩ → o = 0 ∧ Wr wr b 51 (n * 2))) (fun i _ => n - (intOf i).toNat)
      case atStart => exact ⟨0, by omega, rfl, hgr, hW2⟩
      case round =>
        clear hgr hW1 hW2 hltI hltJ hlt hk hk0
        obtain ⟨k, hk, rfl, hgr, hW2⟩ := hrel
        have hk0 : (0 : Int) ≤ k := by omega
        by_cases hlt : k < n
        · have hltI : (k : Int) < (n : Int) := by omega
          obtain ⟨g, rfl⟩ : ∃ g, A = some ⟨g, 0, none⟩ := by
            rcases hO.form with ⟨_, h0, _⟩ | ⟨g, h, _⟩
            · omega
            · exact ⟨g, h⟩
          have hW1 := (hW2 g 0 rfl).2
          obtain ⟨v0, p0⟩ := hW1.cell (j := k * 2) (by omega)
          obtain ⟨v1, p1⟩ := hW1.cell (j := k * 2 + 1) (by omega)
          have hfz := hW1.frozen
          have HW1 := Lib.hid hW1
          clear hW1 hW2
          go_wp2
          go_roundw
          case rel => exact ⟨k + 1, by omega, by go_num, (grownBy_setCell (grownBy_setCell hgr (by simp) _) (by simp) _), fun b o hA => by injection hA with hA; injection hA with e1 e2; subst e1 e2; exact ⟨rfl, ((HW1.out.setCell _ _).setCell _ _)⟩⟩
          case measure => simp [intOf]; omega
        · have hltI : ¬ (k : Int) < (n : Int) := by omega
          clear hW2
          go_wp2
          go_end0
          exact ⟨rfl, hgr⟩
end Go.Proofs.YtnlheomfobpcmaaGreat
