/- Lists of bytes in memory: held against one another, copied, lent, kept, spoilt. -/
import Derived.Test.YtnlheomfobpcmaaGreatProg
import Derived.Test.YtnlheomfobpcmaaGreatMem2
import Derived.BigQuiet
import Derived.Deep.QuietTactic
namespace Go.Proofs.YtnlheomfobpcmaaGreat
open Go.RowKit

theorem bytesC_at {ls : List UInt8} {k : Nat} {l : UInt8} (h : ls[k]? = some l) : (bytesC ls)[k]? = some [.int .u8 (l.toNat : Int)] := by simp [bytesC, h]
theorem bytesC_len (ls : List UInt8) : (bytesC ls).length = ls.length := by simp [bytesC]
theorem bytesC_sz (ls : List UInt8) : ∀ x ∈ bytesC ls, x.length = 1 := by
  intro x hx
  obtain ⟨l, _, rfl⟩ := List.mem_map.1 hx
  rfl
theorem bytesC_one (ls : List UInt8) : ∀ y ∈ bytesC ls, ∀ u ∈ y, u.oneCell' = true := by
  intro y hy u hu
  obtain ⟨l, _, rfl⟩ := List.mem_map.1 hy
  simp at hu
  subst hu; rfl
theorem eiBytes : EI Tryz.prog 26 5 1 1 := EI.mk' Tryz.underlying26 (z := .int .u8 0) (by kernel_rfl) rfl (by omega)

set_option maxHeartbeats 1000000 in
theorem sameBytes_any (ls ms : List UInt8) (A1 A2 : Option Addr) (n1 n2 c1 c2 B1 B2 : Nat) (w : World) (h1 : Rd w B1 1 A1 (bytesC ls)) (h2 : Rd w B2 1 A2 (bytesC ms)) (hn1 : ls.length = n1) (hn2 : ms.length = n2) (hm1 : n1 ≤ maxLen) (hm2 : n2 ≤ maxLen) :
    Calls Tryz.prog 16 #[.slice A1 n1 c1, .slice A2 n2 c2] w fun e w' => e = .returned (.bool (decide (ls = ms))) ∧ ∃ n, w' = w.drewN n := by
  unfold maxLen at hm1 hm2
  by_cases hl : n1 = n2
  · obtain rfl : n1 = n2 := hl
    have Hn1 := Lib.hid hn1
    have Hn2 := Lib.hid hn2
    clear hn1 hn2
    go_enter Tryz.func16, Tryz.ntmps16
    go_wp2
    go_loopw [5] (fun i wr => ∃ k q : Nat, k ≤ n1 ∧ i = .int .i64 k ∧ wr = w.drewN q ∧ Hid (∀ j, j < k → ls[j]? = ms[j]?)) (fun i _ => n1 - (intOf i).toNat)
    case atStart => exact ⟨0, 0, by omega, rfl, rfl, fun j hj => by omega⟩
    case round =>
      obtain ⟨k, q, hk, rfl, rfl, hall⟩ := hrel
      by_cases hlt : k < n1
      · obtain ⟨l, e1⟩ := get_lt Hn1 hlt
        obtain ⟨m, e2⟩ := get_lt Hn2 hlt
        obtain ⟨b1, o1, hA1, hb1, p1⟩ := h1.at1 (bytesC_at e1)
        obtain ⟨b2, o2, hA2, hb2, p2⟩ := h2.at1 (bytesC_at e2)
        subst hA1 hA2
        have E1 := Lib.hid e1
        have E2 := Lib.hid e2
        clear e1 e2
        by_cases he : l = m
        · have hne : ((l.toNat : Int) != m.toNat) = false := by rw [he]; simp
          have He := Lib.hid he
          clear he
          go_wp2
          go_quiet (fail)
          go_wp2
          go_roundw
          case rel => exact ⟨k + 1, _, by omega, by go_num, rfl, fun j hj => by
            by_cases ej : j = k
            · subst ej; rw [E1.out, E2.out]; exact congrArg some He.out
            · exact hall j (by omega)⟩
          case measure => simp [intOf]; omega
        · have hne : ((l.toNat : Int) != m.toNat) = true := by rw [bne_iff_ne]; intro h; exact he (UInt8.toNat_inj.1 (by omega))
          have HD := Lib.hid (decide_eq_false (take_ne E1.out E2.out he))
          clear he
          go_wp2
          go_quiet (fail)
          go_wp2
          go_ret
          exact ⟨ret_bool HD.out.symm, q + nq, World.drewN_drewN ..⟩
      · have HD : Hid (decide (ls = ms) = true) := decide_eq_true (eq_of_upto (by rw [Hn1.out, Hn2.out]) fun j hj => hall j (by rw [Hn1.out] at hj; omega))
        go_wp2
        go_ret
        exact ⟨ret_bool HD.out.symm, _, rfl⟩
  · have HD : Hid (decide (ls = ms) = false) := decide_eq_false (by rintro rfl; omega)
    have hl2 : ¬ (n1 : Int) = (n2 : Int) := by omega
    have hl3 : ((n1 : Int) != (n2 : Int)) = true := by rw [bne_iff_ne]; exact hl2
    clear hl hl2
    go_enter Tryz.func16, Tryz.ntmps16
    go_wp2
    go_ret
    exact ⟨ret_bool HD.out.symm, 0, rfl⟩

set_option maxHeartbeats 1000000 in
theorem copyBytes_any (ls : List UInt8) (A1 : Option Addr) (n1 c1 B1 : Nat) (w : World) (h1 : Rd w B1 1 A1 (bytesC ls)) (hn1 : ls.length = n1) (hB : B1 ≤ w.heap.size) (hm1 : n1 * 1 ≤ 140737488355328) :
    Calls Tryz.prog 35 #[.slice A1 n1 c1] w fun e w' => ∃ A c, e = .returned (.slice A n1 c) ∧ Own w' w.heap.size 5 1 A n1 c (bytesC ls) ∧ Below w.heap.size w w' := by
  have Hn1 := Lib.hid hn1
  clear hn1
  go_enter Tryz.func35, Tryz.ntmps35
  go_wp2_with (at_builtin; refine wpList_append_rd (ys := bytesC ls) _ rfl (.tmp 3) (.tmp 4) _ rfl eiBytes rfl (Own.lit (n := 0) (xs := []) w (by omega) (by simp) rfl (by simp [maxLen]) (Nat.le_refl _) #[] rfl) rfl (h1.below ((Below.refl _ _).alloc (by omega) _)) (by rw [bytesC_len]; exact Hn1.out) (bytesC_one ls) (by simp only [maxLen]; omega) (by omega) (by simp) ?_; intro A' c' w2 ho hg hat hb)
  go_ret
  exact ⟨A', c', by simp, by simpa using ho, ((Below.refl _ _).alloc (Nat.le_refl _) _).trans hb⟩

end Go.Proofs.YtnlheomfobpcmaaGreat
