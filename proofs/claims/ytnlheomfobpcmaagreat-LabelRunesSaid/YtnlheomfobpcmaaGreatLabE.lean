/- Label sets in memory: held against one another, copied. -/
import Derived.Test.YtnlheomfobpcmaaGreatProg
import Derived.Test.YtnlheomfobpcmaaGreatLabF
import Derived.BigQuiet
import Derived.Deep.QuietTactic
import Derived.Laws.StructEq
namespace Go.Proofs.YtnlheomfobpcmaaGreat
open Go.RowKit


def labEq (x1 y1 x2 y2 : ByteArray) : Bool := decide (x1 = x2) && decide (y1 = y2)
theorem labEq_yes {l m : Lab} (h : l = m) : labEq l.1 l.2 m.1 m.2 = true := by subst h; simp [labEq]
theorem labEq_no {l m : Lab} (h : l ≠ m) : labEq l.1 l.2 m.1 m.2 = false := by
  simp only [labEq, Bool.and_eq_false_iff, decide_eq_false_iff_not]
  by_cases h1 : l.1 = m.1
  · exact .inr fun h2 => h (Prod.ext h1 h2)
  · exact .inl h1
theorem eqLab (x1 y1 x2 y2 : ByteArray) (w : World) : (Op.equalIn 10000 51 (.agg #[.string x1, .string y1]) (.agg #[.string x2, .string y2])).run Tryz.prog w = .ok (labEq x1 y1 x2 y2) w := by
  have hS : Tryz.prog.underlying 51 = some (.struct (Tryz.prog.fieldsOf 51)) := by kernel_rfl
  have hp : Tryz.prog.stoodInHeld 51 = false := by kernel_rfl
  rw [show (10000 : Nat) = 9999 + 1 from rfl, run_equalIn_agg w 9999 51 _ _ hS hp]
  simp only [Program.fieldsOf, Tryz.underlying51]
  go_simp
  by_cases h1 : x1 = x2 <;> by_cases h2 : y1 = y2 <;> simp [labEq, h1, h2, toList_inj]
theorem neqLab (x1 y1 x2 y2 : ByteArray) (w : World) : (binOp .neq 51 (.agg #[.string x1, .string y1]) (.agg #[.string x2, .string y2])).run Tryz.prog w = .ok (.bool (!labEq x1 y1 x2 y2)) w := by
  rw [run_neq_struct, eqLab]; rfl
theorem guardLab : Tryz.prog.eqGuardType Tryz.prog.depth 51 = false := by kernel_rfl


set_option maxHeartbeats 400000 in
theorem sameLabels_any (ls ms : List Lab) (A1 A2 : Option Addr) (n1 n2 c1 c2 B1 B2 : Nat) (w : World) (h1 : Rd w B1 2 A1 (labsC ls)) (h2 : Rd w B2 2 A2 (labsC ms)) (hn1 : ls.length = n1) (hn2 : ms.length = n2) (hm1 : n1 ≤ maxLen) (hm2 : n2 ≤ maxLen) :
    Calls Tryz.prog 28 #[.slice A1 n1 c1, .slice A2 n2 c2] w fun e w' => e = .returned (.bool (decide (ls = ms))) ∧ ∃ n, w' = w.drewN n := by
  unfold maxLen at hm1 hm2
  by_cases hl : n1 = n2
  · obtain rfl : n1 = n2 := hl
    have Hn1 := Lib.hid hn1
    have Hn2 := Lib.hid hn2
    clear hn1 hn2
    have hneq := neqLab
    have hgl := guardLab
    go_enter Tryz.func28, Tryz.ntmps28
    go_wp2
    go_loopw [5] (fun i wr => ∃ k q : Nat, k ≤ n1 ∧ i = .int .i64 k ∧ wr = w.drewN q ∧ Hid (∀ j, j < k → ls[j]? = ms[j]?)) (fun i _ => n1 - (intOf i).toNat)
    case atStart => exact ⟨0, 0, by omega, rfl, rfl, fun j hj => by omega⟩
    case round =>
      obtain ⟨k, q, hk, rfl, rfl, hall⟩ := hrel
      by_cases hlt : k < n1
      · obtain ⟨l, e1⟩ := get_lt Hn1 hlt
        obtain ⟨m, e2⟩ := get_lt Hn2 hlt
        obtain ⟨b1, o1, hA1, hb1, p1, p2⟩ := h1.at2 (labsC_at e1)
        obtain ⟨b2, o2, hA2, hb2, p3, p4⟩ := h2.at2 (labsC_at e2)
        have HA1 := Lib.hid hA1
        have HA2 := Lib.hid hA2
        subst hA1 hA2
        have E1 := Lib.hid e1
        have E2 := Lib.hid e2
        clear e1 e2
        by_cases he : l = m
        · have hd := labEq_yes he
          have He := Lib.hid he
          clear he
          go_wp2
          go_quiet (fail)
          go_wp2
          go_roundw
          case rel => exact ⟨k + 1, _, by omega, by go_num, rfl, fun j hj => by
            by_cases ej : j = k
            · subst ej; rw [E1.out, E2.out]; exact congrArg some He.out
            · exact hall j (by omega)⟩
          case measure => simp [intOf]; omega
        · have hd := labEq_no he
          have HD := Lib.hid (decide_eq_false (take_ne E1.out E2.out he))
          clear he
          go_wp2
          go_quiet (fail)
          go_wp2
          go_ret
          exact ⟨ret_bool HD.out.symm, q + nq, World.drewN_drewN ..⟩
      · have HD : Hid (decide (ls = ms) = true) := decide_eq_true (eq_of_upto (by rw [Hn1.out, Hn2.out]) fun j hj => hall j (by rw [Hn1.out] at hj; omega))
        go_wp2
        go_ret
        exact ⟨ret_bool HD.out.symm, _, rfl⟩
  · have HD : Hid (decide (ls = ms) = false) := decide_eq_false (by rintro rfl; omega)
    have hl2 : ¬ (n1 : Int) = (n2 : Int) := by omega
    have hl3 : ((n1 : Int) != (n2 : Int)) = true := by rw [bne_iff_ne]; exact hl2
    clear hl hl2
    go_enter Tryz.func28, Tryz.ntmps28
    go_wp2
    go_ret
    exact ⟨ret_bool HD.out.symm, 0, rfl⟩

theorem one_labs (ls : List Lab) : ∀ y ∈ labsC ls, ∀ u ∈ y, u.oneCell' = true := by
  intro y hy u hu
  obtain ⟨l, _, rfl⟩ := List.mem_map.1 hy
  simp [labC] at hu
  rcases hu with rfl | rfl <;> rfl
set_option maxHeartbeats 400000 in
theorem copyLabels_any (ls : List Lab) (A1 : Option Addr) (n1 c1 B1 : Nat) (w : World) (h1 : Rd w B1 2 A1 (labsC ls)) (hn1 : ls.length = n1) (hB : B1 ≤ w.heap.size) (hm1 : n1 * 32 ≤ 140737488355328) :
    Calls Tryz.prog 33 #[.slice A1 n1 c1] w fun e w' => ∃ A c, e = .returned (.slice A n1 c) ∧ Own w' w.heap.size 51 2 A n1 c (labsC ls) ∧ Below w.heap.size w w' := by
  have Hn1 := Lib.hid hn1
  clear hn1
  go_enter Tryz.func33, Tryz.ntmps33
  go_wp2_with (at_builtin; refine wpList_append_rd _ rfl (.tmp 3) (.tmp 4) _ rfl eiLab rfl (Own.lit (n := 0) (xs := []) w (by omega) (by simp) rfl (by simp [maxLen]) (Nat.le_refl _) #[] rfl) rfl (h1.below ((Below.refl _ _).alloc (by omega) _)) (by rw [labsC_len]; exact Hn1.out) (one_labs ls) (by simp only [maxLen]; omega) (by omega) (by simp) ?_; intro A' c' w' ho hg hat hb)
  go_ret
  exact ⟨A', c', by simp, by simpa using ho, ((Below.refl _ _).alloc (Nat.le_refl _) _).trans hb⟩
end Go.Proofs.YtnlheomfobpcmaaGreat
