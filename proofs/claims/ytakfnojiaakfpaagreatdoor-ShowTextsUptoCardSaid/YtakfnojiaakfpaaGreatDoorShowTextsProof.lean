/- ShowTexts, where what comes in is of bulk at most 1048576: the law hands back true, and nothing that was there has turned. -/
import Derived.Test.YtakfnojiaakfpaaGreatDoorShowTexts
import Derived.Test.YtakfnojiaakfpaaGreatDoorBulkG
import Derived.Test.YtakfnojiaakfpaaGreatDoorShwT
import Derived.Test.YtakfnojiaakfpaaGreatDoorTie
import Derived.SevenTiedAt
import Derived.Deep.DeepWitnessRowRef
import Derived.Lib.SmallJoins
namespace Go.Proofs.YtakfnojiaakfpaaGreatDoor
open Go.ChangeShapes Go.WideShapes Go.ChangeAt Go.RowKit
set_option maxRecDepth 100000 in
theorem showTextsUpto_contract {H : Type} {enc : TypeId × Value → H} (W : World) (args : Array Value) (ds : List (DataW H)) (hL : laidMetH Tryz.prog Rows.showTextsUptoRow.laid W) (h : GotAllB enc Tryz.prog W [22] args.toList ds) (hk : Rows.uptoBulkAll ds ≤ 1048576) :
    Calls Tryz.prog 3 args W fun e W' => e = .returned (.bool true) ∧ Below W.heap.size W W' := by
  obtain ⟨args⟩ := args
  replace h : GotAllB enc Tryz.prog W [22] args ds := h
  obtain ⟨v0, args, d0, ds, rfl, rfl, ⟨g0, b0, w0⟩, h⟩ := gotAllB_cons h
  obtain ⟨rfl, rfl⟩ := gotAllB_nil h
  simp only [Rows.uptoBulkAll] at hk
  obtain ⟨a0, n0, c0, rfl⟩ := okWide_slice Tryz.underlying22 w0
  obtain ⟨A0, c0', ss0, hv0, hl0, hr0, ho0⟩ := got_nodsB g0 (by omega)
  rw [hv0]
  have ht := tab10_of hL
  exact showTexts_any ss0 A0 ss0.length c0' W.heap.size W hr0 rfl (Nat.le_refl _) hl0 (fun x hx => (ho0 x hx).1) (fun x hx => (ho0 x hx).2) ht
theorem showTexts_door (os : Os) (args : Array Value) : laidMetH Tryz.prog Rows.showTextsUptoRow.laid ((World.doorLaid Tryz.prog 24 os).forCall (fun _ _ => 0) ⟨#[], args, []⟩).memory :=
  laidMetH_of_parts3 (fuel := 8) (laidMet_of_run' 8 (by kernel_rfl) (by kernel_rfl)) (by kernel_rfl) (by kernel_rfl)
theorem showTexts_reads (os : Os) {H : Type} (enc : TypeId × Value → H) : ∃ places, DataW.whole enc Tryz.prog ((World.doorLaid Tryz.prog 24 os).forCall (fun _ _ => 0) ⟨#[], #[.slice none 0 0], []⟩).memory Tryz.f3.params.toList Rows.showTextsSpec.vars false [(.slice none 0 0 : Value)] 8 = some ([.nil], [], places) := ⟨[], by kernel_rfl⟩
set_option maxRecDepth 100000 in
theorem showTextsUpto_lifted (os : Os) (started : os.Started) (H : Type) (enc : TypeId × Value → H) (F : Stop.Interp) :
    ReturnsInHanded {} Tryz.checked os 3 .any ((Rows.OpenSpec.upto Rows.showTextsSpec).preRow enc Tryz.prog Tryz.f3 Rows.showTextsUptoRow.domain false Rows.showTextsUptoRow.laid) (((Rows.OpenSpec.upto Rows.showTextsSpec).at F).post enc Tryz.prog Tryz.f3 false true false false) := by
  obtain ⟨places, hx⟩ := showTexts_reads os enc
  exact law_liftedUC (C := Tryz.checked) Tryz.own started (by kernel_rfl) Tryz.func3
    (witness_row_atRef (enc := enc) (C := Tryz.checked) false (World.doorLaid Tryz.prog 24 os) #[.slice none 0 0] rfl (by kernel_rfl) (by kernel_rfl) (by kernel_rfl)
      (OpenSpec.preRow_of_cond 8 hx (by kernel_rfl) (fun k hk => by cases hk; kernel_rfl) (by kernel_rfl) (showTexts_door os _)))
    Tryz.laidOut (by
                have hall : (Tryz.f3.params.toList.all fun u => Tryz.prog.readableRec u && decide (u < Tryz.prog.types.size)) = true := by kernel_rfl
                intro t ht
                have h2 := List.all_eq_true.1 hall t ht
                rw [Bool.and_eq_true] at h2
                exact ⟨h2.1, of_decide_eq_true h2.2⟩) rfl (by kernel_rfl) Tryz.underlying4
    (by rw [Tryz.params3]; intro ds hd; match ds, hd with | [_], _ => rfl)
    (fun W args ds hL h hk => showTextsUpto_contract (enc := enc) W args ds hL (by rw [Tryz.params3] at h; exact h) hk)
theorem showTextsUpto_said : Rows.ShowTextsUptoSaid :=
  OpenClaim.holds_of_cond 3 Tryz.f3 rfl rfl rfl rfl rfl rfl rfl ⟨rfl, rfl, rfl, rfl, rfl⟩ rfl rfl rfl rfl rfl (by kernel_rfl) Tryz.func3 (by kernel_rfl)
    (of_decide_eq_true (by kernel_rfl)) (by unfold Func.isWrapper; first | (rw [if_pos (by decide +kernel)]; kernel_rfl) | (rw [if_neg (by decide +kernel)]; exact ⟨rfl, rfl⟩))
    (fun os started H enc _ F => by rw [OpenClaim.pre_eq_preRow]; exact showTextsUpto_lifted os started H enc F)
theorem showTexts_plain (f : FuncId) (fn : Func) (hf : Tryz.pinned.checked.prog.funcNamed "tidewrack/tidewracklaw20.ShowTexts" = some f) (hfn : Tryz.pinned.checked.prog.funcs[f]? = some fn) :
    true = Tryz.pinned.checked.prog.looks [] ∧ ∀ (j : Nat) t, fn.params[j]? = some t → Tryz.pinned.checked.prog.wantsStandIn t = false := by
  obtain rfl : f = 3 := Option.some.inj ((show Tryz.prog.funcNamed "tidewrack/tidewracklaw20.ShowTexts" = some 3 by kernel_rfl).symm.trans hf) |>.symm
  obtain rfl : fn = Tryz.f3 := (Option.some.inj (Tryz.func3.symm.trans hfn)).symm
  refine ⟨by kernel_rfl, fun j t ht => ?_⟩
  rw [Tryz.params3] at ht
  have hm : t ∈ [22] := by simpa using Array.mem_of_getElem? ht
  have hall : ([22].all fun u => !Tryz.prog.wantsStandIn u) = true := by kernel_rfl
  exact (show Tryz.prog.wantsStandIn t = false by simpa using List.all_eq_true.1 hall t hm)
theorem showTextsUpto_holds : Rows.ShowTextsUptoCardSaid :=
  Claim7.holds_tied_plain_at .later [] _ _ _ _ showTextsUpto_said (fun _ h => by cases h) (by kernel_rfl) (fun _ h => by cases h) showTextsUpto_row_tie rfl ⟨rfl, rfl⟩ (by kernel_rfl) rfl showTexts_plain (by kernel_rfl)
end Go.Proofs.YtakfnojiaakfpaaGreatDoor
