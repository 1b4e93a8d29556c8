/- ShowApart, where what comes in is of bulk at most 1048576: the law hands back true, and nothing that was there has turned. -/
import Derived.Test.YtakfnojiaakfpaaGreatDoorShowApart
import Derived.Test.YtakfnojiaakfpaaGreatDoorBulkG
import Derived.Test.YtakfnojiaakfpaaGreatDoorShwT
import Derived.Test.YtakfnojiaakfpaaGreatDoorTie
import Derived.SevenTiedAt
import Derived.Deep.DeepWitnessRowRef
import Derived.Lib.SmallJoins
namespace Go.Proofs.YtakfnojiaakfpaaGreatDoor
open Go.ChangeShapes Go.WideShapes Go.ChangeAt Go.RowKit

set_option maxRecDepth 100000 in
theorem showApartUpto_contract {H : Type} {enc : TypeId × Value → H} (W : World) (args : Array Value) (ds : List (DataW H)) (hL : laidMetH Tryz.prog Rows.showApartUptoRow.laid W) (h : GotAllB enc Tryz.prog W [22, 22] args.toList ds) (hk : Rows.uptoBulkAll ds ≤ 1048576) :
    Calls Tryz.prog 4 args W fun e W' => e = .returned (.bool true) ∧ Below W.heap.size W W' := by
  obtain ⟨args⟩ := args
  replace h : GotAllB enc Tryz.prog W [22, 22] args ds := h
  obtain ⟨v0, args, d0, ds, rfl, rfl, ⟨g0, b0, w0⟩, h⟩ := gotAllB_cons h
  obtain ⟨v1, args, d1, ds, rfl, rfl, ⟨g1, b1, w1⟩, h⟩ := gotAllB_cons h
  obtain ⟨rfl, rfl⟩ := gotAllB_nil h
  simp only [Rows.uptoBulkAll] at hk
  obtain ⟨a0, n0, c0, rfl⟩ := okWide_slice Tryz.underlying22 w0
  obtain ⟨A0, c0', ss0, hv0, hl0, hr0, ho0⟩ := got_nodsB g0 (by omega)
  rw [hv0]
  obtain ⟨a1, n1, c1, rfl⟩ := okWide_slice Tryz.underlying22 w1
  obtain ⟨A1, c1', ss1, hv1, hl1, hr1, ho1⟩ := got_nodsB g1 (by omega)
  rw [hv1]
  have ht := tab10_of hL
  exact showApart_any ss0 ss1 A0 A1 ss0.length ss1.length c0' c1' W.heap.size W.heap.size W hr0 hr1 rfl rfl (Nat.le_refl _) (Nat.le_refl _) hl0 hl1 (fun x hx => (ho0 x hx).1) (fun x hx => (ho0 x hx).2) (fun x hx => (ho1 x hx).1) (fun x hx => (ho1 x hx).2) ht
theorem showApart_door (os : Os) (args : Array Value) : laidMetH Tryz.prog Rows.showApartUptoRow.laid ((World.doorLaid Tryz.prog 24 os).forCall (fun _ _ => 0) ⟨#[], args, []⟩).memory :=
  laidMetH_of_parts3 (fuel := 8) (laidMet_of_run' 8 (by kernel_rfl) (by kernel_rfl)) (by kernel_rfl) (by kernel_rfl)
theorem showApart_reads (os : Os) {H : Type} (enc : TypeId × Value → H) : ∃ places, DataW.whole enc Tryz.prog ((World.doorLaid Tryz.prog 24 os).forCall (fun _ _ => 0) ⟨#[], #[.slice none 0 0, .slice none 0 0], []⟩).memory Tryz.f4.params.toList Rows.showApartSpec.vars false [(.slice none 0 0 : Value), (.slice none 0 0 : Value)] 8 = some ([.nil, .nil], [], places) := ⟨[], by kernel_rfl⟩
set_option maxRecDepth 100000 in
theorem showApartUpto_lifted (os : Os) (started : os.Started) (H : Type) (enc : TypeId × Value → H) (F : Stop.Interp) :
    ReturnsInHanded {} Tryz.checked os 4 .any ((Rows.OpenSpec.upto Rows.showApartSpec).preRow enc Tryz.prog Tryz.f4 Rows.showApartUptoRow.domain false Rows.showApartUptoRow.laid) (((Rows.OpenSpec.upto Rows.showApartSpec).at F).post enc Tryz.prog Tryz.f4 false true false false) := by
  obtain ⟨places, hx⟩ := showApart_reads os enc
  exact law_liftedUC (C := Tryz.checked) Tryz.own started (by kernel_rfl) Tryz.func4
    (witness_row_atRef (enc := enc) (C := Tryz.checked) false (World.doorLaid Tryz.prog 24 os) #[.slice none 0 0, .slice none 0 0] rfl (by kernel_rfl) (by kernel_rfl) (by kernel_rfl)
      (OpenSpec.preRow_of_cond 8 hx (by kernel_rfl) (fun k hk => by cases hk; kernel_rfl) (by kernel_rfl) (showApart_door os _)))
    Tryz.laidOut (by
                have hall : (Tryz.f4.params.toList.all fun u => Tryz.prog.readableRec u && decide (u < Tryz.prog.types.size)) = true := by kernel_rfl
                intro t ht
                have h2 := List.all_eq_true.1 hall t ht
                rw [Bool.and_eq_true] at h2
                exact ⟨h2.1, of_decide_eq_true h2.2⟩) rfl (by kernel_rfl) Tryz.underlying4
    (by rw [Tryz.params4]; intro ds hd; match ds, hd with | [_, _], _ => rfl)
    (fun W args ds hL h hk => showApartUpto_contract (enc := enc) W args ds hL (by rw [Tryz.params4] at h; exact h) hk)
theorem showApartUpto_said : Rows.ShowApartUptoSaid :=
  OpenClaim.holds_of_cond 4 Tryz.f4 rfl rfl rfl rfl rfl rfl rfl ⟨rfl, rfl, rfl, rfl, rfl⟩ rfl rfl rfl rfl rfl (by kernel_rfl) Tryz.func4 (by kernel_rfl)
    (of_decide_eq_true (by kernel_rfl)) (by unfold Func.isWrapper; first | (rw [if_pos (by decide +kernel)]; kernel_rfl) | (rw [if_neg (by decide +kernel)]; exact ⟨rfl, rfl⟩))
    (fun os started H enc _ F => by rw [OpenClaim.pre_eq_preRow]; exact showApartUpto_lifted os started H enc F)
theorem showApart_plain (f : FuncId) (fn : Func) (hf : Tryz.pinned.checked.prog.funcNamed "tidewrack/tidewracklaw20.ShowApart" = some f) (hfn : Tryz.pinned.checked.prog.funcs[f]? = some fn) :
    true = Tryz.pinned.checked.prog.looks [] ∧ ∀ (j : Nat) t, fn.params[j]? = some t → Tryz.pinned.checked.prog.wantsStandIn t = false := by
  obtain rfl : f = 4 := Option.some.inj ((show Tryz.prog.funcNamed "tidewrack/tidewracklaw20.ShowApart" = some 4 by kernel_rfl).symm.trans hf) |>.symm
  obtain rfl : fn = Tryz.f4 := (Option.some.inj (Tryz.func4.symm.trans hfn)).symm
  refine ⟨by kernel_rfl, fun j t ht => ?_⟩
  rw [Tryz.params4] at ht
  have hm : t ∈ [22, 22] := by simpa using Array.mem_of_getElem? ht
  have hall : ([22, 22].all fun u => !Tryz.prog.wantsStandIn u) = true := by kernel_rfl
  exact (show Tryz.prog.wantsStandIn t = false by simpa using List.all_eq_true.1 hall t hm)
theorem showApartUpto_holds : Rows.ShowApartUptoCardSaid :=
  Claim7.holds_tied_plain_at .later [] _ _ _ _ showApartUpto_said (fun _ h => by cases h) (by kernel_rfl) (fun _ h => by cases h) showApartUpto_row_tie rfl ⟨rfl, rfl⟩ (by kernel_rfl) rfl showApart_plain (by kernel_rfl)
end Go.Proofs.YtakfnojiaakfpaaGreatDoor
