/- sync.Once, one goroutine: Do at a Once that is not done, its lock free: the function is called once. -/
import Derived.Test.YtnlheomfobpcmaaGreatBlk
import Derived.Test.YtnlheomfobpcmaaGreatProg
import Derived.WalkKit
import Derived.Tactics2
import Derived.Defers
import Derived.Laws.Pointers
import Derived.Laws.LoneSync
import Derived.RegionCalls
namespace Go.Proofs.YtnlheomfobpcmaaGreat
open Go.RowKit

theorem once_disable (w : World) : (callFunc 99 #[]).run Tryz.prog w = .ok (.value (.tuple #[])) w := run_call_mark0 Tryz.func99 (by kernel_rfl) (by kernel_rfl) (by kernel_rfl) .disable (by kernel_rfl) w
theorem once_enable (w : World) : (callFunc 101 #[]).run Tryz.prog w = .ok (.value (.tuple #[])) w := run_call_mark0 Tryz.func101 (by kernel_rfl) (by kernel_rfl) (by kernel_rfl) .enable (by kernel_rfl) w
theorem once_acquire (a : Addr) (w : World) : (callFunc 102 #[.pointer (some a)]).run Tryz.prog w = .ok (.value (.tuple #[])) w := run_call_marked Tryz.func102 (by kernel_rfl) (by kernel_rfl) (by kernel_rfl) .acquire (by kernel_rfl) a w
theorem once_merge (a : Addr) (w : World) : (callFunc 104 #[.pointer (some a)]).run Tryz.prog w = .ok (.value (.tuple #[])) w := run_call_marked Tryz.func104 (by kernel_rfl) (by kernel_rfl) (by kernel_rfl) .releaseMerge (by kernel_rfl) a w

set_option maxRecDepth 100000 in
theorem store_deferred (a : Addr) (x : Value) (u : FrameMode) (w : World) (hc : w.cell? a = some x) (hz : w.frozen? a = false) :
    CallsD Tryz.prog 89 #[.pointer (some a), .bool true] u w fun e u' w' => u' = u ∧ (e = .returned (.tuple #[]) ∧ w' = w.drew.setCell a (.int .u32 1)) := by
  have hc' : w.drew.cell? a = some x := by go_simp
  have hz' : w.drew.frozen? a = false := by go_simp
  have hst := run_call_store (P := Tryz.prog) Tryz.func95 (by kernel_rfl) (by kernel_rfl) (by kernel_rfl) (by kernel_rfl) (k := .u32) (y := 1) hc' hz'
  go_enter_d Tryz.func89, Tryz.ntmps89
  go_wp2
  go_region_calls
  all_goals (go_end0; exact ⟨rfl, rfl⟩)
set_option maxRecDepth 100000 in
set_option maxHeartbeats 1000000 in
theorem iunlock_any (a : Addr) (w : World) (hc : w.cell? a = some (.int .i32 1)) (hz : w.frozen? a = false) :
    Calls Tryz.prog 94 #[.pointer (some a)] w fun e w' => e = .returned (.tuple #[]) ∧ w' = w.setCell a (.int .i32 0) := by
  have hd := once_disable
  have he := once_enable
  have hr := once_merge
  have hadd := run_call_add (P := Tryz.prog) Tryz.func105 (by kernel_rfl) (by kernel_rfl) (by kernel_rfl) .i32 (by kernel_rfl) (y := -1) (s := 0) hc hz (by simp [go_sem]; rfl)
  have hcv := run_convert_to_unsafe (P := Tryz.prog) (src := 142) (dst := 109) Tryz.underlying142 Tryz.underlying109 (by kernel_rfl) hc
  go_enter Tryz.func94, Tryz.ntmps94
  go_wp2
  go_end0
  exact ⟨rfl, rfl⟩
set_option maxRecDepth 100000 in
set_option maxHeartbeats 1000000 in
theorem unlock_deferred (a : Addr) (u : FrameMode) (w : World) (hc : w.cell? a = some (.int .i32 1)) (hz : w.frozen? a = false) :
    CallsD Tryz.prog 88 #[.pointer (some a)] u w fun e u' w' => u' = u ∧ (e = .returned (.tuple #[]) ∧ w' = w.setCell a (.int .i32 0)) := by
  have HU := Lib.hid (iunlock_any a w hc hz)
  go_enter_d Tryz.func88, Tryz.ntmps88
  go_wp2_with (go_at_call 94; refine (HU.out).mono ?_; rintro e w' ⟨rfl, rfl⟩)
  go_end0
  exact ⟨rfl, rfl⟩
set_option maxRecDepth 100000 in
set_option maxHeartbeats 1000000 in
theorem ilock_any (a : Addr) (w : World) (hc : w.cell? a = some (.int .i32 0)) (hz : w.frozen? a = false) :
    Calls Tryz.prog 93 #[.pointer (some a)] w fun e w' => e = .returned (.tuple #[]) ∧ w' = w.setCell a (.int .i32 1) := by
  have hd := once_disable
  have he := once_enable
  have ha := once_acquire
  have hcas := run_call_cas_hit (P := Tryz.prog) Tryz.func100 (by kernel_rfl) (by kernel_rfl) (by kernel_rfl) .i32 (by kernel_rfl) (y := 1) hc hz
  have hc' : (w.setCell a (.int .i32 1)).cell? a = some (.int .i32 1) := World.cell?_setCell_same w a _ hc
  have hcv := run_convert_to_unsafe (P := Tryz.prog) (src := 142) (dst := 109) Tryz.underlying142 Tryz.underlying109 (by kernel_rfl) hc'
  go_enter Tryz.func93, Tryz.ntmps93
  go_wp2
  first | go_end0 | (simp only [Exit.inBlock, Exit.then]; refine bodyPost_ret (results_none rfl _ _ _) rfl ?_) | refine bodyPost_ret (results_none rfl _ _ _) rfl ?_
  exact ⟨rfl, rfl⟩
set_option maxRecDepth 100000 in
theorem lock_any (a : Addr) (w : World) (hc : w.cell? a = some (.int .i32 0)) (hz : w.frozen? a = false) :
    Calls Tryz.prog 87 #[.pointer (some a)] w fun e w' => e = .returned (.tuple #[]) ∧ w' = w.setCell a (.int .i32 1) := by
  have HU := Lib.hid (ilock_any a w hc hz)
  go_enter Tryz.func87, Tryz.ntmps87
  go_wp2_with (go_at_call 93; refine (HU.out).mono ?_; rintro e w' ⟨rfl, rfl⟩)
  go_end0
  exact ⟨rfl, rfl⟩
/-- A Replacer's cells: done, the lock's state, its semaphore, the replacer, the pairs. -/
def Rp (w : World) (R : Nat) (d s : Int) (r o : Value) : Prop := Blk w R 102 [.int .u32 d, .int .i32 s, .int .u32 0, r, o]
set_option maxRecDepth 100000 in
set_option maxHeartbeats 1600000 in
theorem slow_any (R : Nat) (r o : Value) (Q : World → Prop) (w : World) (hw : Rp w R 0 0 r o)
    (HQ : Calls Tryz.prog 74 #[.pointer (some ⟨R, 0, none⟩)] (w.setCell ⟨R, 1, none⟩ (.int .i32 1)) fun e w' => e = .returned (.tuple #[]) ∧ Q w') (hQ : ∀ w', Q w' → ∃ r o, Rp w' R 0 1 r o) :
    Calls Tryz.prog 82 #[.pointer (some ⟨R, 0, none⟩), .func (.func 74) #[.pointer (some ⟨R, 0, none⟩)] #[]] w fun e w'' => e = .returned (.tuple #[]) ∧
      ∃ w', Q w' ∧ w'' = (w'.drew.setCell ⟨R, 0, none⟩ (.int .u32 1)).setCell ⟨R, 1, none⟩ (.int .i32 0) := by
  have hw1 : Rp (w.setCell ⟨R, 1, none⟩ (.int .i32 1)) R 0 1 r o := Blk.set hw 1 _
  have hl := run_call_load (P := Tryz.prog) Tryz.func86 (by kernel_rfl) (by kernel_rfl) (by kernel_rfl) .u32 (by kernel_rfl) (w := w.setCell ⟨R, 1, none⟩ (.int .i32 1)) (a := ⟨R, 0, none⟩) (x := 0) (Blk.cell hw1 rfl)
  have hnot : ∀ (x : Bool) (w : World), (Op.unary .not (.bool x)).run Tryz.prog w = .ok (.bool (!x)) w := fun _ _ => rfl
  have HL := Lib.hid (lock_any ⟨R, 1, none⟩ w (Blk.cell hw rfl) (Blk.frozen hw 1))
  have HC := Lib.hid HQ
  clear HQ
  go_enter_defers Tryz.func82, Tryz.ntmps82
  go_wp2_with (first
    | (go_at_call 87; refine (HL.out).mono ?_; rintro e w' ⟨rfl, rfl⟩)
    | (go_at_call 81; go_in)
    | (go_at_call 74; refine (HC.out).mono ?_; rintro e w2 ⟨rfl, hq⟩))
  obtain ⟨r2, o2, h2⟩ := hQ w2 hq
  go_wp2
  refine leaves_cons (f := 89) (args := #[.pointer (some ⟨R, 0, none⟩), .bool true]) (by simp) (by simp [go_sem]) ?_
  refine (store_deferred ⟨R, 0, none⟩ (.int .u32 0) .returning w2 (Blk.cell h2 rfl) (Blk.frozen h2 0)).mono ?_
  rintro e u' w'' ⟨rfl, rfl, rfl⟩
  have h3 : Rp (w2.drew.setCell ⟨R, 0, none⟩ (.int .u32 1)) R 1 1 r2 o2 := Blk.set (w := w2.drew) h2 0 _
  refine leaves_cons (f := 88) (args := #[.pointer (some ⟨R, 1, none⟩)]) (by simp [settle]) (by simp [go_sem]) ?_
  refine (unlock_deferred ⟨R, 1, none⟩ _ _ (Blk.cell h3 rfl) (Blk.frozen h3 1)).mono ?_
  rintro e u' w'' ⟨rfl, rfl, rfl⟩
  exact ⟨_, results_none rfl _ _ _, rfl, w2, hq, rfl⟩
set_option maxRecDepth 100000 in
set_option maxHeartbeats 1600000 in
theorem once_any (R : Nat) (r o : Value) (Q : World → Prop) (w : World) (hw : Rp w R 0 0 r o)
    (HQ : Calls Tryz.prog 74 #[.pointer (some ⟨R, 0, none⟩)] (w.setCell ⟨R, 1, none⟩ (.int .i32 1)) fun e w' => e = .returned (.tuple #[]) ∧ Q w') (hQ : ∀ w', Q w' → ∃ r o, Rp w' R 0 1 r o) :
    Calls Tryz.prog 73 #[.pointer (some ⟨R, 0, none⟩), .func (.func 74) #[.pointer (some ⟨R, 0, none⟩)] #[]] w fun e w'' => e = .returned (.tuple #[]) ∧
      ∃ w', Q w' ∧ w'' = (w'.drew.setCell ⟨R, 0, none⟩ (.int .u32 1)).setCell ⟨R, 1, none⟩ (.int .i32 0) := by
  have hl := run_call_load (P := Tryz.prog) Tryz.func86 (by kernel_rfl) (by kernel_rfl) (by kernel_rfl) .u32 (by kernel_rfl) (Blk.cell hw (j := 0) rfl)
  have hnot : ∀ (x : Bool) (w : World), (Op.unary .not (.bool x)).run Tryz.prog w = .ok (.bool (!x)) w := fun _ _ => rfl
  have HS := Lib.hid (slow_any R r o Q w hw HQ hQ)
  clear HQ
  go_enter Tryz.func73, Tryz.ntmps73
  go_wp2_with (first
    | (go_at_call 81; go_in)
    | (go_at_call 82; refine (HS.out).mono ?_; rintro e w2 ⟨rfl, hq⟩))
  go_end0
  exact ⟨rfl, hq⟩
end Go.Proofs.YtnlheomfobpcmaaGreat
