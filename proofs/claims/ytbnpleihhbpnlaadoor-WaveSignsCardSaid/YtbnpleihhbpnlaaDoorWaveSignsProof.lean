/- WaveSigns: whatever the arguments, the law hands back true, and nothing that was there has turned. No condition. -/
import Derived.Test.YtbnpleihhbpnlaaDoorWaveSigns
import Derived.Test.YtbnpleihhbpnlaaDoorFrameC
import Derived.Test.YtbnpleihhbpnlaaDoorCards
import Derived.Test.YtbnpleihhbpnlaaDoorTie
import Derived.SevenTiedAt
import Derived.Lay
import Derived.Test.YtbnpleihhbpnlaaDoorOpen2
import Derived.Lib.SmallJoins
namespace Go.Proofs.YtbnpleihhbpnlaaDoor
open Go.ChangeShapes Go.WideShapes Go.ChangeAt Go.RowKit

set_option maxRecDepth 100000 in
theorem waveSigns_contract {H : Type} {enc : TypeId × Value → H} (W : World) (args : Array Value) (hL : laidMetH Tryd.prog Rows.waveSignsRow.laid W) (h : GotAll enc Tryd.prog W [26] args.toList) :
    Calls Tryd.prog 5 args W fun e W' => e = .returned (.bool true) ∧ Below W.heap.size W W' := by
  obtain ⟨v0, rfl, ⟨d0, g0, f0, b0, w0⟩⟩ := gotAll_one h
  obtain ⟨u0, rfl⟩ := okWide_int Tryd.underlying26 w0
  obtain ⟨u0', hu0, hw0⟩ := got_int Tryd.underlying26 g0
  injection hu0 with _ hu0
  subst hu0
  have hb0 := u64_wf hw0
  have hFM := floatMem_of hL (.tail _ (.tail _ (.tail _ (.head _)))) (.tail _ (.tail _ (.tail _ (.tail _ (.head _))))) (.tail _ (.tail _ (.tail _ (.tail _ (.tail _ (.tail _ (.head _)))))))
  exact waveSigns_any u0 W hFM hb0
theorem waveSigns_door (os : Os) (args : Array Value) : laidMetH Tryd.prog Rows.waveSignsRow.laid ((World.laidAll Tryd.prog os Rows.waveSignsRow.laid).forCall (fun _ _ => 0) ⟨#[], args, []⟩).memory := by
  rw [MakeChecks.laidMetH_plain _ _ _ (by kernel_rfl)]
  exact laidMet_laidAll _ (by kernel_rfl) (by kernel_rfl)
set_option maxRecDepth 100000 in
theorem waveSigns_lifted (os : Os) (started : os.Started) (H : Type) (enc : TypeId × Value → H) :
    ReturnsInHanded {} Tryd.checked os 5 .any (fun w args => (Rows.waveSignsSpec.pre enc Tryd.prog Tryd.f5 Rows.waveSignsRow.domain false w args ∧ laidMetH Tryd.prog Rows.waveSignsRow.laid w) ∧ sizedMet enc Tryd.prog Tryd.f5 (OpenSpec.ofChange Rows.waveSignsSpec) false w args) (Rows.waveSignsSpec.post enc Tryd.prog Tryd.f5 false true false false) :=
  law_liftedC (C := Tryd.checked) Tryd.own started (by kernel_rfl) Tryd.func5
    (ChangeSpec.witness_shaped (enc := enc) (C := Tryd.checked) (os := os) (X := fun w _ => laidMetH Tryd.prog Rows.waveSignsRow.laid w) false (World.laidAll Tryd.prog os Rows.waveSignsRow.laid) #[.int .u64 0] 8 (World.laidAll_os _ _ _) (World.shaped_of_ZipB (by kernel_rfl) (by kernel_rfl)) (by kernel_rfl) (by kernel_rfl) (by kernel_rfl) (waveSigns_door os _))
    Tryd.laidOut (by
                have hall : (Tryd.f5.params.toList.all fun u => Tryd.prog.readableRec u && decide (u < Tryd.prog.types.size)) = true := by kernel_rfl
                intro t ht
                have h2 := List.all_eq_true.1 hall t ht
                rw [Bool.and_eq_true] at h2
                exact ⟨h2.1, of_decide_eq_true h2.2⟩) rfl (by kernel_rfl) Tryd.underlying4
    (by rw [Tryd.params5]; intro ds hd; match ds, hd with | [_], _ => rfl)
    (fun W args hL h => waveSigns_contract (enc := enc) W args hL (by rw [Tryd.params5] at h; exact h))
theorem waveSigns_said : Rows.WaveSignsSaid :=
  OpenClaim.holds_of_wide 5 Tryd.f5 rfl rfl rfl rfl rfl rfl rfl ⟨rfl, rfl, rfl, rfl, rfl⟩ rfl rfl rfl rfl rfl (by kernel_rfl) Tryd.func5 (by kernel_rfl)
    (of_decide_eq_true (by kernel_rfl)) (by unfold Func.isWrapper; first | (rw [if_pos (by decide +kernel)]; kernel_rfl) | (rw [if_neg (by decide +kernel)]; exact ⟨rfl, rfl⟩))
    (fun os started H enc _ => waveSigns_lifted os started H enc)
theorem waveSigns_plain (f : FuncId) (fn : Func) (hf : Tryd.pinned.checked.prog.funcNamed "tidewrack/tidewracklaw21.WaveSigns" = some f) (hfn : Tryd.pinned.checked.prog.funcs[f]? = some fn) :
    true = Tryd.pinned.checked.prog.looks [] ∧ ∀ (j : Nat) t, fn.params[j]? = some t → Tryd.pinned.checked.prog.wantsStandIn t = false := by
  obtain rfl : f = 5 := Option.some.inj ((show Tryd.prog.funcNamed "tidewrack/tidewracklaw21.WaveSigns" = some 5 by kernel_rfl).symm.trans hf) |>.symm
  obtain rfl : fn = Tryd.f5 := (Option.some.inj (Tryd.func5.symm.trans hfn)).symm
  refine ⟨by kernel_rfl, fun j t ht => ?_⟩
  rw [Tryd.params5] at ht
  have hm : t ∈ [26] := by simpa using Array.mem_of_getElem? ht
  have hall : ([26].all fun u => !Tryd.prog.wantsStandIn u) = true := by kernel_rfl
  exact (show Tryd.prog.wantsStandIn t = false by simpa using List.all_eq_true.1 hall t hm)
theorem waveSigns_holds : Rows.WaveSignsCardSaid :=
  Claim7.holds_tied_plain_at .later [] _ _ _ _ waveSigns_said (fun _ h => by cases h) (by kernel_rfl) (fun _ h => by cases h) waveSigns_row_tie rfl ⟨rfl, rfl⟩ (by kernel_rfl) rfl waveSigns_plain (by kernel_rfl)
end Go.Proofs.YtbnpleihhbpnlaaDoor
