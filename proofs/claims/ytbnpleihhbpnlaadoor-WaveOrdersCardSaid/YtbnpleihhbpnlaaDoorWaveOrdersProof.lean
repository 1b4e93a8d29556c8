/- WaveOrders: whatever the arguments, the law hands back true, and nothing that was there has turned. No condition. -/
import Derived.Test.YtbnpleihhbpnlaaDoorWaveOrders
import Derived.Test.YtbnpleihhbpnlaaDoorFrameC
import Derived.Test.YtbnpleihhbpnlaaDoorCards
import Derived.Test.YtbnpleihhbpnlaaDoorTie
import Derived.SevenTiedAt
import Derived.Lay
import Derived.Test.YtbnpleihhbpnlaaDoorOpen2
import Derived.Lib.SmallJoins
namespace Go.Proofs.YtbnpleihhbpnlaaDoor
open Go.ChangeShapes Go.WideShapes Go.ChangeAt Go.RowKit

set_option maxRecDepth 100000 in
theorem waveOrders_contract {H : Type} {enc : TypeId × Value → H} (W : World) (args : Array Value) (hL : laidMetH Tryd.prog Rows.waveOrdersRow.laid W) (h : GotAll enc Tryd.prog W [26, 26] args.toList) :
    Calls Tryd.prog 4 args W fun e W' => e = .returned (.bool true) ∧ Below W.heap.size W W' := by
  obtain ⟨v0, v1, rfl, ⟨d0, g0, f0, b0, w0⟩, ⟨d1, g1, f1, b1, w1⟩⟩ := gotAll_two h
  obtain ⟨u0, rfl⟩ := okWide_int Tryd.underlying26 w0
  obtain ⟨u0', hu0, hw0⟩ := got_int Tryd.underlying26 g0
  injection hu0 with _ hu0
  subst hu0
  have hb0 := u64_wf hw0
  obtain ⟨u1, rfl⟩ := okWide_int Tryd.underlying26 w1
  obtain ⟨u1', hu1, hw1⟩ := got_int Tryd.underlying26 g1
  injection hu1 with _ hu1
  subst hu1
  have hb1 := u64_wf hw1
  have hFM := floatMem_of hL (.tail _ (.tail _ (.tail _ (.head _)))) (.tail _ (.tail _ (.tail _ (.tail _ (.head _))))) (.tail _ (.tail _ (.tail _ (.tail _ (.tail _ (.tail _ (.head _)))))))
  exact waveOrders_any u0 u1 W hFM hb0 hb1
theorem waveOrders_door (os : Os) (args : Array Value) : laidMetH Tryd.prog Rows.waveOrdersRow.laid ((World.laidAll Tryd.prog os Rows.waveOrdersRow.laid).forCall (fun _ _ => 0) ⟨#[], args, []⟩).memory := by
  rw [MakeChecks.laidMetH_plain _ _ _ (by kernel_rfl)]
  exact laidMet_laidAll _ (by kernel_rfl) (by kernel_rfl)
set_option maxRecDepth 100000 in
theorem waveOrders_lifted (os : Os) (started : os.Started) (H : Type) (enc : TypeId × Value → H) :
    ReturnsInHanded {} Tryd.checked os 4 .any (fun w args => (Rows.waveOrdersSpec.pre enc Tryd.prog Tryd.f4 Rows.waveOrdersRow.domain false w args ∧ laidMetH Tryd.prog Rows.waveOrdersRow.laid w) ∧ sizedMet enc Tryd.prog Tryd.f4 (OpenSpec.ofChange Rows.waveOrdersSpec) false w args) (Rows.waveOrdersSpec.post enc Tryd.prog Tryd.f4 false true false false) :=
  law_liftedC (C := Tryd.checked) Tryd.own started (by kernel_rfl) Tryd.func4
    (ChangeSpec.witness_shaped (enc := enc) (C := Tryd.checked) (os := os) (X := fun w _ => laidMetH Tryd.prog Rows.waveOrdersRow.laid w) false (World.laidAll Tryd.prog os Rows.waveOrdersRow.laid) #[.int .u64 0, .int .u64 0] 8 (World.laidAll_os _ _ _) (World.shaped_of_ZipB (by kernel_rfl) (by kernel_rfl)) (by kernel_rfl) (by kernel_rfl) (by kernel_rfl) (waveOrders_door os _))
    Tryd.laidOut (by
                have hall : (Tryd.f4.params.toList.all fun u => Tryd.prog.readableRec u && decide (u < Tryd.prog.types.size)) = true := by kernel_rfl
                intro t ht
                have h2 := List.all_eq_true.1 hall t ht
                rw [Bool.and_eq_true] at h2
                exact ⟨h2.1, of_decide_eq_true h2.2⟩) rfl (by kernel_rfl) Tryd.underlying4
    (by rw [Tryd.params4]; intro ds hd; match ds, hd with | [_, _], _ => rfl)
    (fun W args hL h => waveOrders_contract (enc := enc) W args hL (by rw [Tryd.params4] at h; exact h))
theorem waveOrders_said : Rows.WaveOrdersSaid :=
  OpenClaim.holds_of_wide 4 Tryd.f4 rfl rfl rfl rfl rfl rfl rfl ⟨rfl, rfl, rfl, rfl, rfl⟩ rfl rfl rfl rfl rfl (by kernel_rfl) Tryd.func4 (by kernel_rfl)
    (of_decide_eq_true (by kernel_rfl)) (by unfold Func.isWrapper; first | (rw [if_pos (by decide +kernel)]; kernel_rfl) | (rw [if_neg (by decide +kernel)]; exact ⟨rfl, rfl⟩))
    (fun os started H enc _ => waveOrders_lifted os started H enc)
theorem waveOrders_plain (f : FuncId) (fn : Func) (hf : Tryd.pinned.checked.prog.funcNamed "tidewrack/tidewracklaw21.WaveOrders" = some f) (hfn : Tryd.pinned.checked.prog.funcs[f]? = some fn) :
    true = Tryd.pinned.checked.prog.looks [] ∧ ∀ (j : Nat) t, fn.params[j]? = some t → Tryd.pinned.checked.prog.wantsStandIn t = false := by
  obtain rfl : f = 4 := Option.some.inj ((show Tryd.prog.funcNamed "tidewrack/tidewracklaw21.WaveOrders" = some 4 by kernel_rfl).symm.trans hf) |>.symm
  obtain rfl : fn = Tryd.f4 := (Option.some.inj (Tryd.func4.symm.trans hfn)).symm
  refine ⟨by kernel_rfl, fun j t ht => ?_⟩
  rw [Tryd.params4] at ht
  have hm : t ∈ [26, 26] := by simpa using Array.mem_of_getElem? ht
  have hall : ([26, 26].all fun u => !Tryd.prog.wantsStandIn u) = true := by kernel_rfl
  exact (show Tryd.prog.wantsStandIn t = false by simpa using List.all_eq_true.1 hall t hm)
theorem waveOrders_holds : Rows.WaveOrdersCardSaid :=
  Claim7.holds_tied_plain_at .later [] _ _ _ _ waveOrders_said (fun _ h => by cases h) (by kernel_rfl) (fun _ h => by cases h) waveOrders_row_tie rfl ⟨rfl, rfl⟩ (by kernel_rfl) rfl waveOrders_plain (by kernel_rfl)
end Go.Proofs.YtbnpleihhbpnlaaDoor
