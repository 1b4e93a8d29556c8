/- WaveNumbers: whatever the arguments, the law hands back true, and nothing that was there has turned. No condition. -/
import Derived.Test.YtbnpleihhbpnlaaGreatDoorWaveNumbers
import Derived.Test.YtbnpleihhbpnlaaGreatDoorFrameC
import Derived.Test.YtbnpleihhbpnlaaGreatDoorCards
import Derived.Test.YtbnpleihhbpnlaaGreatDoorTie
import Derived.SevenTiedAt
import Derived.Lay
import Derived.Test.YtbnpleihhbpnlaaGreatDoorOpen2
import Derived.Lib.SmallJoins
namespace Go.Proofs.YtbnpleihhbpnlaaGreatDoor
open Go.ChangeShapes Go.WideShapes Go.ChangeAt Go.RowKit

set_option maxRecDepth 100000 in
theorem waveNumbers_contract {H : Type} {enc : TypeId × Value → H} (W : World) (args : Array Value) (hL : laidMetH Tryz.prog Rows.waveNumbersRow.laid W) (h : GotAll enc Tryz.prog W [9] args.toList) :
    Calls Tryz.prog 4 args W fun e W' => e = .returned (.bool true) ∧ Below W.heap.size W W' := by
  obtain ⟨v0, rfl, ⟨d0, g0, f0, b0, w0⟩⟩ := gotAll_one h
  obtain ⟨s0, rfl⟩ := okWide_string Tryz.underlying9 w0
  obtain ⟨_, hs0, hm0⟩ := got_stringF Tryz.underlying9 g0 f0
  injection hs0 with hs0
  subst hs0
  have hFM := floatMem_of hL (.tail _ (.tail _ (.tail _ (.head _)))) (.tail _ (.tail _ (.tail _ (.tail _ (.head _))))) (.tail _ (.tail _ (.tail _ (.tail _ (.tail _ (.tail _ (.head _)))))))
  exact waveNumbers_any s0 W hFM (le_reach hm0)
theorem waveNumbers_door (os : Os) (args : Array Value) : laidMetH Tryz.prog Rows.waveNumbersRow.laid ((World.laidAll Tryz.prog os Rows.waveNumbersRow.laid).forCall (fun _ _ => 0) ⟨#[], args, []⟩).memory := by
  rw [MakeChecks.laidMetH_plain _ _ _ (by kernel_rfl)]
  exact laidMet_laidAll _ (by kernel_rfl) (by kernel_rfl)
set_option maxRecDepth 100000 in
theorem waveNumbers_lifted (os : Os) (started : os.Started) (H : Type) (enc : TypeId × Value → H) :
    ReturnsInHanded {} Tryz.checked os 4 .any (fun w args => (Rows.waveNumbersSpec.pre enc Tryz.prog Tryz.f4 Rows.waveNumbersRow.domain false w args ∧ laidMetH Tryz.prog Rows.waveNumbersRow.laid w) ∧ sizedMet enc Tryz.prog Tryz.f4 (OpenSpec.ofChange Rows.waveNumbersSpec) false w args) (Rows.waveNumbersSpec.post enc Tryz.prog Tryz.f4 false true false false) :=
  law_liftedC (C := Tryz.checked) Tryz.own started (by kernel_rfl) Tryz.func4
    (ChangeSpec.witness_shaped (enc := enc) (C := Tryz.checked) (os := os) (X := fun w _ => laidMetH Tryz.prog Rows.waveNumbersRow.laid w) false (World.laidAll Tryz.prog os Rows.waveNumbersRow.laid) #[.string ByteArray.empty] 8 (World.laidAll_os _ _ _) (World.shaped_of_ZipB (by kernel_rfl) (by kernel_rfl)) (by kernel_rfl) (by kernel_rfl) (by kernel_rfl) (waveNumbers_door os _))
    Tryz.laidOut (by
                have hall : (Tryz.f4.params.toList.all fun u => Tryz.prog.readableRec u && decide (u < Tryz.prog.types.size)) = true := by kernel_rfl
                intro t ht
                have h2 := List.all_eq_true.1 hall t ht
                rw [Bool.and_eq_true] at h2
                exact ⟨h2.1, of_decide_eq_true h2.2⟩) rfl (by kernel_rfl) Tryz.underlying4
    (by rw [Tryz.params4]; intro ds hd; match ds, hd with | [_], _ => rfl)
    (fun W args hL h => waveNumbers_contract (enc := enc) W args hL (by rw [Tryz.params4] at h; exact h))
theorem waveNumbers_said : Rows.WaveNumbersSaid :=
  OpenClaim.holds_of_wide 4 Tryz.f4 rfl rfl rfl rfl rfl rfl rfl ⟨rfl, rfl, rfl, rfl, rfl⟩ rfl rfl rfl rfl rfl (by kernel_rfl) Tryz.func4 (by kernel_rfl)
    (of_decide_eq_true (by kernel_rfl)) (by unfold Func.isWrapper; first | (rw [if_pos (by decide +kernel)]; kernel_rfl) | (rw [if_neg (by decide +kernel)]; exact ⟨rfl, rfl⟩))
    (fun os started H enc _ => waveNumbers_lifted os started H enc)
theorem waveNumbers_plain (f : FuncId) (fn : Func) (hf : Tryz.pinned.checked.prog.funcNamed "tidewrack/tidewracklaw21.WaveNumbers" = some f) (hfn : Tryz.pinned.checked.prog.funcs[f]? = some fn) :
    true = Tryz.pinned.checked.prog.looks [] ∧ ∀ (j : Nat) t, fn.params[j]? = some t → Tryz.pinned.checked.prog.wantsStandIn t = false := by
  obtain rfl : f = 4 := Option.some.inj ((show Tryz.prog.funcNamed "tidewrack/tidewracklaw21.WaveNumbers" = some 4 by kernel_rfl).symm.trans hf) |>.symm
  obtain rfl : fn = Tryz.f4 := (Option.some.inj (Tryz.func4.symm.trans hfn)).symm
  refine ⟨by kernel_rfl, fun j t ht => ?_⟩
  rw [Tryz.params4] at ht
  have hm : t ∈ [9] := by simpa using Array.mem_of_getElem? ht
  have hall : ([9].all fun u => !Tryz.prog.wantsStandIn u) = true := by kernel_rfl
  exact (show Tryz.prog.wantsStandIn t = false by simpa using List.all_eq_true.1 hall t hm)
theorem waveNumbers_holds : Rows.WaveNumbersCardSaid :=
  Claim7.holds_tied_plain_at .later [] _ _ _ _ waveNumbers_said (fun _ h => by cases h) (by kernel_rfl) (fun _ h => by cases h) waveNumbers_row_tie rfl ⟨rfl, rfl⟩ (by kernel_rfl) rfl waveNumbers_plain (by kernel_rfl)
end Go.Proofs.YtbnpleihhbpnlaaGreatDoor
