/- WaveSums: whatever the arguments, the law hands back true, and nothing that was there has turned. No condition. -/
import Derived.Test.YtbnpleihhbpnlaaDoorWaveSums
import Derived.Test.YtbnpleihhbpnlaaDoorFrameC
import Derived.Test.YtbnpleihhbpnlaaDoorCards
import Derived.Test.YtbnpleihhbpnlaaDoorTie
import Derived.SevenTiedAt
import Derived.Lay
import Derived.Test.YtbnpleihhbpnlaaDoorOpen2
import Derived.Lib.SmallJoins
namespace Go.Proofs.YtbnpleihhbpnlaaDoor
open Go.ChangeShapes Go.WideShapes Go.ChangeAt Go.RowKit

set_option maxRecDepth 100000 in
theorem waveSums_contract {H : Type} {enc : TypeId × Value → H} (W : World) (args : Array Value) (hL : laidMetH Tryd.prog Rows.waveSumsRow.laid W) (h : GotAll enc Tryd.prog W [22, 3] args.toList) :
    Calls Tryd.prog 3 args W fun e W' => e = .returned (.bool true) ∧ Below W.heap.size W W' := by
  obtain ⟨v0, v1, rfl, ⟨d0, g0, f0, b0, w0⟩, ⟨d1, g1, f1, b1, w1⟩⟩ := gotAll_two h
  obtain ⟨a0, n0, c0, rfl⟩ := okWide_slice Tryd.underlying22 w0
  obtain ⟨A0, c0', l0, hv0, hc0, hcm0, hm0, hr0⟩ := got_ints g0 f0
  rw [hv0]
  obtain ⟨u1, rfl⟩ := okWide_int Tryd.underlying3 w1
  obtain ⟨u1', hu1, hw1⟩ := got_int Tryd.underlying3 g1
  injection hu1 with _ hu1
  subst hu1
  have hb1 := i64_wf hw1
  have hFM := floatMem_of hL (.tail _ (.tail _ (.tail _ (.head _)))) (.tail _ (.tail _ (.tail _ (.tail _ (.head _))))) (.tail _ (.tail _ (.tail _ (.tail _ (.tail _ (.tail _ (.head _)))))))
  exact waveSums_any l0 A0 l0.length c0' W.heap.size u1 W hFM hr0 rfl (by have := le_reach hm0; simp only [maxLen]; omega) (Nat.le_refl _) hb1
theorem waveSums_door (os : Os) (args : Array Value) : laidMetH Tryd.prog Rows.waveSumsRow.laid ((World.laidAll Tryd.prog os Rows.waveSumsRow.laid).forCall (fun _ _ => 0) ⟨#[], args, []⟩).memory := by
  rw [MakeChecks.laidMetH_plain _ _ _ (by kernel_rfl)]
  exact laidMet_laidAll _ (by kernel_rfl) (by kernel_rfl)
set_option maxRecDepth 100000 in
theorem waveSums_lifted (os : Os) (started : os.Started) (H : Type) (enc : TypeId × Value → H) :
    ReturnsInHanded {} Tryd.checked os 3 .any (fun w args => (Rows.waveSumsSpec.pre enc Tryd.prog Tryd.f3 Rows.waveSumsRow.domain false w args ∧ laidMetH Tryd.prog Rows.waveSumsRow.laid w) ∧ sizedMet enc Tryd.prog Tryd.f3 (OpenSpec.ofChange Rows.waveSumsSpec) false w args) (Rows.waveSumsSpec.post enc Tryd.prog Tryd.f3 false true false false) :=
  law_liftedC (C := Tryd.checked) Tryd.own started (by kernel_rfl) Tryd.func3
    (ChangeSpec.witness_shaped (enc := enc) (C := Tryd.checked) (os := os) (X := fun w _ => laidMetH Tryd.prog Rows.waveSumsRow.laid w) false (World.laidAll Tryd.prog os Rows.waveSumsRow.laid) #[.slice none 0 0, .int .i64 0] 8 (World.laidAll_os _ _ _) (World.shaped_of_ZipB (by kernel_rfl) (by kernel_rfl)) (by kernel_rfl) (by kernel_rfl) (by kernel_rfl) (waveSums_door os _))
    Tryd.laidOut (by
                have hall : (Tryd.f3.params.toList.all fun u => Tryd.prog.readableRec u && decide (u < Tryd.prog.types.size)) = true := by kernel_rfl
                intro t ht
                have h2 := List.all_eq_true.1 hall t ht
                rw [Bool.and_eq_true] at h2
                exact ⟨h2.1, of_decide_eq_true h2.2⟩) rfl (by kernel_rfl) Tryd.underlying4
    (by rw [Tryd.params3]; intro ds hd; match ds, hd with | [_, _], _ => rfl)
    (fun W args hL h => waveSums_contract (enc := enc) W args hL (by rw [Tryd.params3] at h; exact h))
theorem waveSums_said : Rows.WaveSumsSaid :=
  OpenClaim.holds_of_wide 3 Tryd.f3 rfl rfl rfl rfl rfl rfl rfl ⟨rfl, rfl, rfl, rfl, rfl⟩ rfl rfl rfl rfl rfl (by kernel_rfl) Tryd.func3 (by kernel_rfl)
    (of_decide_eq_true (by kernel_rfl)) (by unfold Func.isWrapper; first | (rw [if_pos (by decide +kernel)]; kernel_rfl) | (rw [if_neg (by decide +kernel)]; exact ⟨rfl, rfl⟩))
    (fun os started H enc _ => waveSums_lifted os started H enc)
theorem waveSums_plain (f : FuncId) (fn : Func) (hf : Tryd.pinned.checked.prog.funcNamed "tidewrack/tidewracklaw21.WaveSums" = some f) (hfn : Tryd.pinned.checked.prog.funcs[f]? = some fn) :
    true = Tryd.pinned.checked.prog.looks [] ∧ ∀ (j : Nat) t, fn.params[j]? = some t → Tryd.pinned.checked.prog.wantsStandIn t = false := by
  obtain rfl : f = 3 := Option.some.inj ((show Tryd.prog.funcNamed "tidewrack/tidewracklaw21.WaveSums" = some 3 by kernel_rfl).symm.trans hf) |>.symm
  obtain rfl : fn = Tryd.f3 := (Option.some.inj (Tryd.func3.symm.trans hfn)).symm
  refine ⟨by kernel_rfl, fun j t ht => ?_⟩
  rw [Tryd.params3] at ht
  have hm : t ∈ [22, 3] := by simpa using Array.mem_of_getElem? ht
  have hall : ([22, 3].all fun u => !Tryd.prog.wantsStandIn u) = true := by kernel_rfl
  exact (show Tryd.prog.wantsStandIn t = false by simpa using List.all_eq_true.1 hall t hm)
theorem waveSums_holds : Rows.WaveSumsCardSaid :=
  Claim7.holds_tied_plain_at .later [] _ _ _ _ waveSums_said (fun _ h => by cases h) (by kernel_rfl) (fun _ h => by cases h) waveSums_row_tie rfl ⟨rfl, rfl⟩ (by kernel_rfl) rfl waveSums_plain (by kernel_rfl)
end Go.Proofs.YtbnpleihhbpnlaaDoor
