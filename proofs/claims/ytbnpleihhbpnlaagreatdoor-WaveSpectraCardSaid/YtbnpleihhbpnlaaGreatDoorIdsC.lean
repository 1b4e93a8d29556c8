/- Lists of words in memory: copied. -/
import Derived.Test.YtbnpleihhbpnlaaGreatDoorIdsS
namespace Go.Proofs.YtbnpleihhbpnlaaGreatDoor
open Go.RowKit

set_option maxHeartbeats 1000000 in
theorem copyIds_any (ls : List Nat) (A1 : Option Addr) (n1 c1 B1 : Nat) (w : World) (h1 : Rd w B1 1 A1 (wrdC ls)) (hn1 : ls.length = n1) (hB : B1 ≤ w.heap.size) (hm1 : n1 * 8 ≤ 140737488355328) :
    Calls Tryz.prog 27 #[.slice A1 n1 c1] w fun e w' => ∃ A c, e = .returned (.slice A n1 c) ∧ Own w' w.heap.size 22 1 A n1 c (wrdC ls) ∧ Below w.heap.size w w' := by
  have Hn1 := Lib.hid hn1
  clear hn1
  go_enter Tryz.func27, Tryz.ntmps27
  go_wp2_with (at_builtin; refine wpList_append_rd (ys := wrdC ls) _ rfl (.tmp 3) (.tmp 4) _ rfl eiU64 rfl (Own.lit (n := 0) (xs := []) w (by omega) (by simp) rfl (by simp [maxLen]) (Nat.le_refl _) #[] rfl) rfl (h1.below ((Below.refl _ _).alloc (by omega) _)) (by rw [wrdC_len]; exact Hn1.out) (wrdC_one ls) (by simp only [maxLen]; omega) (by omega) (by simp) ?_; intro A' c' w2 ho hg hat hb)
  go_ret
  exact ⟨A', c', by simp, by simpa using ho, ((Below.refl _ _).alloc (Nat.le_refl _) _).trans hb⟩

end Go.Proofs.YtbnpleihhbpnlaaGreatDoor
