/- ShowSources: whatever the arguments, the law hands back true, and nothing that was there has turned. No condition. -/
import Derived.Test.YtakfnojiaakfpaaGreatDoorShowSources
import Derived.Test.YtakfnojiaakfpaaGreatDoorShwT
import Derived.Test.YtakfnojiaakfpaaGreatDoorCards
import Derived.Test.YtakfnojiaakfpaaGreatDoorTie
import Derived.SevenTiedAt
import Derived.Lib.SmallJoins
namespace Go.Proofs.YtakfnojiaakfpaaGreatDoor
open Go.ChangeShapes Go.WideShapes Go.ChangeAt Go.RowKit

set_option maxRecDepth 100000 in
theorem showSources_contract {H : Type} {enc : TypeId × Value → H} (W : World) (args : Array Value) (hL : laidMetH Tryz.prog Rows.showSourcesRow.laid W) (h : GotAll enc Tryz.prog W [9] args.toList) :
    Calls Tryz.prog 6 args W fun e W' => e = .returned (.bool true) ∧ Below W.heap.size W W' := by
  obtain ⟨v0, rfl, ⟨d0, g0, f0, b0, w0⟩⟩ := gotAll_one h
  obtain ⟨s0, rfl⟩ := okWide_string Tryz.underlying9 w0
  obtain ⟨_, hs0, hm0⟩ := got_stringF Tryz.underlying9 g0 f0
  injection hs0 with hs0
  subst hs0
  have ht := tab10_of hL
  exact showSources_any s0 W (le_reach hm0) ht
theorem showSources_door (os : Os) (args : Array Value) : laidMetH Tryz.prog Rows.showSourcesRow.laid ((World.doorLaid Tryz.prog 24 os).forCall (fun _ _ => 0) ⟨#[], args, []⟩).memory :=
  laidMetH_of_parts3 (fuel := 8) (laidMet_of_run' 8 (by kernel_rfl) (by kernel_rfl)) (by kernel_rfl) (by kernel_rfl)
set_option maxRecDepth 100000 in
theorem showSources_lifted (os : Os) (started : os.Started) (H : Type) (enc : TypeId × Value → H) :
    ReturnsInHanded {} Tryz.checked os 6 .any (fun w args => (Rows.showSourcesSpec.pre enc Tryz.prog Tryz.f6 Rows.showSourcesRow.domain false w args ∧ laidMetH Tryz.prog Rows.showSourcesRow.laid w) ∧ sizedMet enc Tryz.prog Tryz.f6 (OpenSpec.ofChange Rows.showSourcesSpec) false w args) (Rows.showSourcesSpec.post enc Tryz.prog Tryz.f6 false true false false) :=
  law_liftedC (C := Tryz.checked) Tryz.own started (by kernel_rfl) Tryz.func6
    (ChangeSpec.witness_shaped (enc := enc) (C := Tryz.checked) (os := os) (X := fun w _ => laidMetH Tryz.prog Rows.showSourcesRow.laid w) false (World.doorLaid Tryz.prog 24 os) #[.string ByteArray.empty] 8 rfl (World.shaped_of_RefB (by kernel_rfl) (by kernel_rfl)) (by kernel_rfl) (by kernel_rfl) (by kernel_rfl) (showSources_door os _))
    Tryz.laidOut (by
                have hall : (Tryz.f6.params.toList.all fun u => Tryz.prog.readableRec u && decide (u < Tryz.prog.types.size)) = true := by kernel_rfl
                intro t ht
                have h2 := List.all_eq_true.1 hall t ht
                rw [Bool.and_eq_true] at h2
                exact ⟨h2.1, of_decide_eq_true h2.2⟩) rfl (by kernel_rfl) Tryz.underlying4
    (by rw [Tryz.params6]; intro ds hd; match ds, hd with | [_], _ => rfl)
    (fun W args hL h => showSources_contract (enc := enc) W args hL (by rw [Tryz.params6] at h; exact h))
theorem showSources_said : Rows.ShowSourcesSaid :=
  OpenClaim.holds_of_wide 6 Tryz.f6 rfl rfl rfl rfl rfl rfl rfl ⟨rfl, rfl, rfl, rfl, rfl⟩ rfl rfl rfl rfl rfl (by kernel_rfl) Tryz.func6 (by kernel_rfl)
    (of_decide_eq_true (by kernel_rfl)) (by unfold Func.isWrapper; first | (rw [if_pos (by decide +kernel)]; kernel_rfl) | (rw [if_neg (by decide +kernel)]; exact ⟨rfl, rfl⟩))
    (fun os started H enc _ => showSources_lifted os started H enc)
theorem showSources_plain (f : FuncId) (fn : Func) (hf : Tryz.pinned.checked.prog.funcNamed "tidewrack/tidewracklaw20.ShowSources" = some f) (hfn : Tryz.pinned.checked.prog.funcs[f]? = some fn) :
    true = Tryz.pinned.checked.prog.looks [] ∧ ∀ (j : Nat) t, fn.params[j]? = some t → Tryz.pinned.checked.prog.wantsStandIn t = false := by
  obtain rfl : f = 6 := Option.some.inj ((show Tryz.prog.funcNamed "tidewrack/tidewracklaw20.ShowSources" = some 6 by kernel_rfl).symm.trans hf) |>.symm
  obtain rfl : fn = Tryz.f6 := (Option.some.inj (Tryz.func6.symm.trans hfn)).symm
  refine ⟨by kernel_rfl, fun j t ht => ?_⟩
  rw [Tryz.params6] at ht
  have hm : t ∈ [9] := by simpa using Array.mem_of_getElem? ht
  have hall : ([9].all fun u => !Tryz.prog.wantsStandIn u) = true := by kernel_rfl
  exact (show Tryz.prog.wantsStandIn t = false by simpa using List.all_eq_true.1 hall t hm)
theorem showSources_holds : Rows.ShowSourcesCardSaid :=
  Claim7.holds_tied_plain_at .later [] _ _ _ _ showSources_said (fun _ h => by cases h) (by kernel_rfl) (fun _ h => by cases h) showSources_row_tie rfl ⟨rfl, rfl⟩ (by kernel_rfl) rfl showSources_plain (by kernel_rfl)
end Go.Proofs.YtakfnojiaakfpaaGreatDoor
