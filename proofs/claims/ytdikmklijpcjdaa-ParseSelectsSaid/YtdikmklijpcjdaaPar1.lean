/- How a query is read: what gives up is caught. -/
import Derived.Test.YtdikmklijpcjdaaParJ
import Derived.Defers
import Derived.Recover
namespace Go.Proofs.Ytdikmklijpcjdaa
open Go.RowKit
attribute [local go_sem ↓] Go.wp_at_zero Go.wp_at_succ tok_f0 tok_f2 tok_f3

theorem ta_stop (a b : Value) (w : World) : (Instr.typeAssert (.iface 58 (.agg #[a, b])) 20 58 true).run Try.prog w = .ok (.tuple #[.agg #[a, b], .bool true]) w := by kernel_rfl
attribute [local go_sem ↓] ta_stop
set_option maxRecDepth 100000 in
set_option maxHeartbeats 4000000 in
theorem catch_stop {a0 : Nat} {w : World} {v2 v3 v4 : Value} (b2 : Blk w a0 22 [v2]) (b3 : Blk w (a0 + 1) 3 [v3]) (b4 : Blk w (a0 + 2) 23 [v4]) (x : Int × Int) :
    CallsD Try.prog 25 #[.pointer (some ⟨a0, 0, none⟩), .pointer (some ⟨a0 + 1, 0, none⟩), .pointer (some ⟨a0 + 2, 0, none⟩)] (.panicking (stopV x)) w fun e u' w' =>
      e = .returned (.tuple #[]) ∧ u' = .panicking [{ v := .iface 58 (.agg #[.int .i64 x.1, .int .i64 x.2]), recovered := true }] ∧
      w'.cell? ⟨a0, 0, none⟩ = some (.slice none 0 0) ∧ w'.cell? ⟨a0 + 1, 0, none⟩ = some (.int .i64 x.2) ∧ w'.cell? ⟨a0 + 2, 0, none⟩ = some (.int .i64 x.1) ∧ Below a0 w w' := by
  refine callsD_of_wpS Try.func25 rfl fun c₀ cs hu => ?_
  apply wpS_seq
  apply wpS_region
  simp [wpOpsS, go_sem, recoverD, hu, stopV, Try.ntmps25, Exit.thenS]
  refine wpS_of_wp ?_
  refine (fun (h : ∀ (Q : Exit → Act → World → Prop), (∀ (a : Act) (w' : World), a.defers = [] → w'.cell? ⟨a0, 0, none⟩ = some (.slice none 0 0) → w'.cell? ⟨a0 + 1, 0, none⟩ = some (.int .i64 x.2) → w'.cell? ⟨a0 + 2, 0, none⟩ = some (.int .i64 x.1) → Below a0 w w' → Q .normal a w') →
      Code.wp Try.prog _ Q { tmps := #[.pointer (some ⟨a0, 0, none⟩), .pointer (some ⟨a0 + 1, 0, none⟩), .pointer (some ⟨a0 + 2, 0, none⟩), .iface 58 (.agg #[.int .i64 x.1, .int .i64 x.2]), undef, undef, .iface 58 (.agg #[.int .i64 x.1, .int .i64 x.2]), undef, undef, undef, undef, undef, undef, undef, undef, undef, undef, undef, undef, undef, undef], defers := [] } w) => h _ ?post) (fun Q hQ => ?walk)
  case post =>
    intro a w' h1 h2 h3 h4 h5
    exact ⟨h1, _, rfl, _, by simp [results, Try.results25, go_sem], rfl, rfl, h2, h3, h4, h5⟩
  clear hu
  go_upto_region 5 with fail
  have hz := b4.lt
  have bT : Blk (w.alloc (.cells #[.int .i64 x.1, .int .i64 x.2] 58)) w.heap.size 58 [.int .i64 x.1, .int .i64 x.2] := Blk.new w _ _
  have d2 := b2.alloc (.cells #[.int .i64 x.1, .int .i64 x.2] 58)
  have d3 := b3.alloc (.cells #[.int .i64 x.1, .int .i64 x.2] 58)
  have d4 := b4.alloc (.cells #[.int .i64 x.1, .int .i64 x.2] 58)
  have hb : Below a0 w (w.alloc (.cells #[.int .i64 x.1, .int .i64 x.2] 58)) := (Below.refl _ _).alloc (by omega) _
  clear b2 b3 b4
  generalize World.alloc _ _ = W at *
  have t0 := bT.cell (j := 0) rfl
  have t1 := bT.cell (j := 1) rfl
  have f2 := d2.frozen
  have f3 := d3.frozen
  have f4 := d4.frozen
  have l2 := d2.lt
  have l3 := d3.lt
  have l4 := d4.lt
  have lT := bT.lt
  have c2 := d2.cell (j := 0) rfl
  have c3 := d3.cell (j := 0) rfl
  have c4 := d4.cell (j := 0) rfl
  go_region
  refine hQ _ _ rfl ?_ ?_ ?_ ?_
  · exact (((d2.set 0 _).other (by simp) _).other (by simp) _).cell rfl
  · exact (((d3.other (by simp) _).set 0 _).other (by simp) _).cell rfl
  · exact (((d4.other (by simp) _).other (by simp) _).set 0 _).cell rfl
  · exact (((hb.setCell (p := ⟨a0, 0, none⟩) (Nat.le_refl _) _).setCell (p := ⟨a0 + 1, 0, none⟩) (Nat.le_succ _) _).setCell (p := ⟨a0 + 2, 0, none⟩) (Nat.le_add_right _ _) _).drew
set_option maxRecDepth 100000 in
set_option maxHeartbeats 4000000 in
theorem catch_idle (a0 : Nat) (w : World) :
    CallsD Try.prog 25 #[.pointer (some ⟨a0, 0, none⟩), .pointer (some ⟨a0 + 1, 0, none⟩), .pointer (some ⟨a0 + 2, 0, none⟩)] .returning w fun e u' w' =>
      e = .returned (.tuple #[]) ∧ u' = .returning ∧ w' = w := by
  refine callsD_of_wpS Try.func25 rfl fun c₀ cs hu => ?_
  apply wpS_seq
  apply wpS_region
  simp [wpOpsS, go_sem, recoverD, hu, Try.ntmps25, Exit.thenS]
  refine wpS_of_wp ?_
  refine (fun (h : ∀ (Q : Exit → Act → World → Prop), (∀ (a : Act), a.defers = [] → Q .normal a w) →
      Code.wp Try.prog _ Q { tmps := #[.pointer (some ⟨a0, 0, none⟩), .pointer (some ⟨a0 + 1, 0, none⟩), .pointer (some ⟨a0 + 2, 0, none⟩), .nilIface, undef, undef, .nilIface, undef, undef, undef, undef, undef, undef, undef, undef, undef, undef, undef, undef, undef, undef], defers := [] } w) => h _ ?post) (fun Q hQ => ?walk)
  case post =>
    intro a h1
    refine ⟨h1, .returning, ?_, _, by simp [results, Try.results25, go_sem], rfl, rfl, rfl⟩
    cases c₀
    simp only at hu
    subst hu
    rfl
  clear hu
  have HQ := Lib.hid hQ
  clear hQ
  go_wp2_with fail
  exact HQ.out _ rfl
end Go.Proofs.Ytdikmklijpcjdaa
