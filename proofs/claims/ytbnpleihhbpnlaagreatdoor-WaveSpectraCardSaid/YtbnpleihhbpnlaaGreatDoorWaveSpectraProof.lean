/- WaveSpectra: whatever the arguments, the law hands back true, and nothing that was there has turned. No condition. -/
import Derived.Test.YtbnpleihhbpnlaaGreatDoorWaveSpectra
import Derived.Test.YtbnpleihhbpnlaaGreatDoorFrameC
import Derived.Test.YtbnpleihhbpnlaaGreatDoorCards
import Derived.Test.YtbnpleihhbpnlaaGreatDoorTie
import Derived.SevenTiedAt
import Derived.Lay
import Derived.Test.YtbnpleihhbpnlaaGreatDoorOpen2
import Derived.Lib.SmallJoins
namespace Go.Proofs.YtbnpleihhbpnlaaGreatDoor
open Go.ChangeShapes Go.WideShapes Go.ChangeAt Go.RowKit

set_option maxRecDepth 100000 in
theorem waveSpectra_contract {H : Type} {enc : TypeId × Value → H} (W : World) (args : Array Value) (hL : laidMetH Tryz.prog Rows.waveSpectraRow.laid W) (h : GotAll enc Tryz.prog W [35] args.toList) :
    Calls Tryz.prog 5 args W fun e W' => e = .returned (.bool true) ∧ Below W.heap.size W W' := by
  obtain ⟨v0, rfl, ⟨d0, g0, f0, b0, w0⟩⟩ := gotAll_one h
  obtain ⟨a0, n0, c0, rfl⟩ := okWide_slice Tryz.underlying35 w0
  obtain ⟨A0, c0', l0, hv0, hc0, hcm0, hm0, hr0⟩ := got_words g0 f0
  rw [hv0]
  have hFM := floatMem_of hL (.tail _ (.tail _ (.tail _ (.head _)))) (.tail _ (.tail _ (.tail _ (.tail _ (.head _))))) (.tail _ (.tail _ (.tail _ (.tail _ (.tail _ (.tail _ (.head _)))))))
  exact waveSpectra_any l0 A0 l0.length c0' W.heap.size W hFM hr0 rfl (by have := le_reach hm0; first | omega | (simp only [maxLen]; omega)) (Nat.le_refl _)
theorem waveSpectra_door (os : Os) (args : Array Value) : laidMetH Tryz.prog Rows.waveSpectraRow.laid ((World.laidAll Tryz.prog os Rows.waveSpectraRow.laid).forCall (fun _ _ => 0) ⟨#[], args, []⟩).memory := by
  rw [MakeChecks.laidMetH_plain _ _ _ (by kernel_rfl)]
  exact laidMet_laidAll _ (by kernel_rfl) (by kernel_rfl)
set_option maxRecDepth 100000 in
theorem waveSpectra_lifted (os : Os) (started : os.Started) (H : Type) (enc : TypeId × Value → H) :
    ReturnsInHanded {} Tryz.checked os 5 .any (fun w args => (Rows.waveSpectraSpec.pre enc Tryz.prog Tryz.f5 Rows.waveSpectraRow.domain false w args ∧ laidMetH Tryz.prog Rows.waveSpectraRow.laid w) ∧ sizedMet enc Tryz.prog Tryz.f5 (OpenSpec.ofChange Rows.waveSpectraSpec) false w args) (Rows.waveSpectraSpec.post enc Tryz.prog Tryz.f5 false true false false) :=
  law_liftedC (C := Tryz.checked) Tryz.own started (by kernel_rfl) Tryz.func5
    (ChangeSpec.witness_shaped (enc := enc) (C := Tryz.checked) (os := os) (X := fun w _ => laidMetH Tryz.prog Rows.waveSpectraRow.laid w) false (World.laidAll Tryz.prog os Rows.waveSpectraRow.laid) #[.slice none 0 0] 8 (World.laidAll_os _ _ _) (World.shaped_of_ZipB (by kernel_rfl) (by kernel_rfl)) (by kernel_rfl) (by kernel_rfl) (by kernel_rfl) (waveSpectra_door os _))
    Tryz.laidOut (by
                have hall : (Tryz.f5.params.toList.all fun u => Tryz.prog.readableRec u && decide (u < Tryz.prog.types.size)) = true := by kernel_rfl
                intro t ht
                have h2 := List.all_eq_true.1 hall t ht
                rw [Bool.and_eq_true] at h2
                exact ⟨h2.1, of_decide_eq_true h2.2⟩) rfl (by kernel_rfl) Tryz.underlying4
    (by rw [Tryz.params5]; intro ds hd; match ds, hd with | [_], _ => rfl)
    (fun W args hL h => waveSpectra_contract (enc := enc) W args hL (by rw [Tryz.params5] at h; exact h))
theorem waveSpectra_said : Rows.WaveSpectraSaid :=
  OpenClaim.holds_of_wide 5 Tryz.f5 rfl rfl rfl rfl rfl rfl rfl ⟨rfl, rfl, rfl, rfl, rfl⟩ rfl rfl rfl rfl rfl (by kernel_rfl) Tryz.func5 (by kernel_rfl)
    (of_decide_eq_true (by kernel_rfl)) (by unfold Func.isWrapper; first | (rw [if_pos (by decide +kernel)]; kernel_rfl) | (rw [if_neg (by decide +kernel)]; exact ⟨rfl, rfl⟩))
    (fun os started H enc _ => waveSpectra_lifted os started H enc)
theorem waveSpectra_plain (f : FuncId) (fn : Func) (hf : Tryz.pinned.checked.prog.funcNamed "tidewrack/tidewracklaw21.WaveSpectra" = some f) (hfn : Tryz.pinned.checked.prog.funcs[f]? = some fn) :
    true = Tryz.pinned.checked.prog.looks [] ∧ ∀ (j : Nat) t, fn.params[j]? = some t → Tryz.pinned.checked.prog.wantsStandIn t = false := by
  obtain rfl : f = 5 := Option.some.inj ((show Tryz.prog.funcNamed "tidewrack/tidewracklaw21.WaveSpectra" = some 5 by kernel_rfl).symm.trans hf) |>.symm
  obtain rfl : fn = Tryz.f5 := (Option.some.inj (Tryz.func5.symm.trans hfn)).symm
  refine ⟨by kernel_rfl, fun j t ht => ?_⟩
  rw [Tryz.params5] at ht
  have hm : t ∈ [35] := by simpa using Array.mem_of_getElem? ht
  have hall : ([35].all fun u => !Tryz.prog.wantsStandIn u) = true := by kernel_rfl
  exact (show Tryz.prog.wantsStandIn t = false by simpa using List.all_eq_true.1 hall t hm)
theorem waveSpectra_holds : Rows.WaveSpectraCardSaid :=
  Claim7.holds_tied_plain_at .later [] _ _ _ _ waveSpectra_said (fun _ h => by cases h) (by kernel_rfl) (fun _ h => by cases h) waveSpectra_row_tie rfl ⟨rfl, rfl⟩ (by kernel_rfl) rfl waveSpectra_plain (by kernel_rfl)
end Go.Proofs.YtbnpleihhbpnlaaGreatDoor
