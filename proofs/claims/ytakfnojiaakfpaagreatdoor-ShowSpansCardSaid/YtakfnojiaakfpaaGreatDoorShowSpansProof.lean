/- ShowSpans: whatever the arguments, the law hands back true, and nothing that was there has turned. No condition. -/
import Derived.Test.YtakfnojiaakfpaaGreatDoorShowSpans
import Derived.Test.YtakfnojiaakfpaaGreatDoorShwT
import Derived.Test.YtakfnojiaakfpaaGreatDoorCards
import Derived.Test.YtakfnojiaakfpaaGreatDoorTie
import Derived.SevenTiedAt
import Derived.Lib.SmallJoins
namespace Go.Proofs.YtakfnojiaakfpaaGreatDoor
open Go.ChangeShapes Go.WideShapes Go.ChangeAt Go.RowKit

set_option maxRecDepth 100000 in
theorem showSpans_contract {H : Type} {enc : TypeId × Value → H} (W : World) (args : Array Value) (hL : laidMetH Tryz.prog Rows.showSpansRow.laid W) (h : GotAll enc Tryz.prog W [3, 3] args.toList) :
    Calls Tryz.prog 8 args W fun e W' => e = .returned (.bool true) ∧ Below W.heap.size W W' := by
  obtain ⟨v0, v1, rfl, ⟨d0, g0, f0, b0, w0⟩, ⟨d1, g1, f1, b1, w1⟩⟩ := gotAll_two h
  obtain ⟨u0, rfl⟩ := okWide_int Tryz.underlying3 w0
  obtain ⟨u0', hu0, hw0⟩ := got_int Tryz.underlying3 g0
  injection hu0 with _ hu0
  subst hu0
  have hb0 := i64_wf hw0
  obtain ⟨u1, rfl⟩ := okWide_int Tryz.underlying3 w1
  obtain ⟨u1', hu1, hw1⟩ := got_int Tryz.underlying3 g1
  injection hu1 with _ hu1
  subst hu1
  have hb1 := i64_wf hw1
  have ht := tab10_of hL
  exact showSpans_any u0 u1 W ht
theorem showSpans_door (os : Os) (args : Array Value) : laidMetH Tryz.prog Rows.showSpansRow.laid ((World.doorLaid Tryz.prog 24 os).forCall (fun _ _ => 0) ⟨#[], args, []⟩).memory :=
  laidMetH_of_parts3 (fuel := 8) (laidMet_of_run' 8 (by kernel_rfl) (by kernel_rfl)) (by kernel_rfl) (by kernel_rfl)
set_option maxRecDepth 100000 in
theorem showSpans_lifted (os : Os) (started : os.Started) (H : Type) (enc : TypeId × Value → H) :
    ReturnsInHanded {} Tryz.checked os 8 .any (fun w args => (Rows.showSpansSpec.pre enc Tryz.prog Tryz.f8 Rows.showSpansRow.domain false w args ∧ laidMetH Tryz.prog Rows.showSpansRow.laid w) ∧ sizedMet enc Tryz.prog Tryz.f8 (OpenSpec.ofChange Rows.showSpansSpec) false w args) (Rows.showSpansSpec.post enc Tryz.prog Tryz.f8 false true false false) :=
  law_liftedC (C := Tryz.checked) Tryz.own started (by kernel_rfl) Tryz.func8
    (ChangeSpec.witness_shaped (enc := enc) (C := Tryz.checked) (os := os) (X := fun w _ => laidMetH Tryz.prog Rows.showSpansRow.laid w) false (World.doorLaid Tryz.prog 24 os) #[.int .i64 0, .int .i64 0] 8 rfl (World.shaped_of_RefB (by kernel_rfl) (by kernel_rfl)) (by kernel_rfl) (by kernel_rfl) (by kernel_rfl) (showSpans_door os _))
    Tryz.laidOut (by
                have hall : (Tryz.f8.params.toList.all fun u => Tryz.prog.readableRec u && decide (u < Tryz.prog.types.size)) = true := by kernel_rfl
                intro t ht
                have h2 := List.all_eq_true.1 hall t ht
                rw [Bool.and_eq_true] at h2
                exact ⟨h2.1, of_decide_eq_true h2.2⟩) rfl (by kernel_rfl) Tryz.underlying4
    (by rw [Tryz.params8]; intro ds hd; match ds, hd with | [_, _], _ => rfl)
    (fun W args hL h => showSpans_contract (enc := enc) W args hL (by rw [Tryz.params8] at h; exact h))
theorem showSpans_said : Rows.ShowSpansSaid :=
  OpenClaim.holds_of_wide 8 Tryz.f8 rfl rfl rfl rfl rfl rfl rfl ⟨rfl, rfl, rfl, rfl, rfl⟩ rfl rfl rfl rfl rfl (by kernel_rfl) Tryz.func8 (by kernel_rfl)
    (of_decide_eq_true (by kernel_rfl)) (by unfold Func.isWrapper; first | (rw [if_pos (by decide +kernel)]; kernel_rfl) | (rw [if_neg (by decide +kernel)]; exact ⟨rfl, rfl⟩))
    (fun os started H enc _ => showSpans_lifted os started H enc)
theorem showSpans_plain (f : FuncId) (fn : Func) (hf : Tryz.pinned.checked.prog.funcNamed "tidewrack/tidewracklaw20.ShowSpans" = some f) (hfn : Tryz.pinned.checked.prog.funcs[f]? = some fn) :
    true = Tryz.pinned.checked.prog.looks [] ∧ ∀ (j : Nat) t, fn.params[j]? = some t → Tryz.pinned.checked.prog.wantsStandIn t = false := by
  obtain rfl : f = 8 := Option.some.inj ((show Tryz.prog.funcNamed "tidewrack/tidewracklaw20.ShowSpans" = some 8 by kernel_rfl).symm.trans hf) |>.symm
  obtain rfl : fn = Tryz.f8 := (Option.some.inj (Tryz.func8.symm.trans hfn)).symm
  refine ⟨by kernel_rfl, fun j t ht => ?_⟩
  rw [Tryz.params8] at ht
  have hm : t ∈ [3, 3] := by simpa using Array.mem_of_getElem? ht
  have hall : ([3, 3].all fun u => !Tryz.prog.wantsStandIn u) = true := by kernel_rfl
  exact (show Tryz.prog.wantsStandIn t = false by simpa using List.all_eq_true.1 hall t hm)
theorem showSpans_holds : Rows.ShowSpansCardSaid :=
  Claim7.holds_tied_plain_at .later [] _ _ _ _ showSpans_said (fun _ h => by cases h) (by kernel_rfl) (fun _ h => by cases h) showSpans_row_tie rfl ⟨rfl, rfl⟩ (by kernel_rfl) rfl showSpans_plain (by kernel_rfl)
end Go.Proofs.YtakfnojiaakfpaaGreatDoor
