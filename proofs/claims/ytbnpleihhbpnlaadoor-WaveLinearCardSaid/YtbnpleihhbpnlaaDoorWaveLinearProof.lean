/- WaveLinear: whatever the arguments, the law hands back true, and nothing that was there has turned. No condition. -/
import Derived.Test.YtbnpleihhbpnlaaDoorWaveLinear
import Derived.Test.YtbnpleihhbpnlaaDoorFrameC
import Derived.Test.YtbnpleihhbpnlaaDoorCards
import Derived.Test.YtbnpleihhbpnlaaDoorTie
import Derived.SevenTiedAt
import Derived.Lay
import Derived.Test.YtbnpleihhbpnlaaDoorOpen2
import Derived.Lib.SmallJoins
namespace Go.Proofs.YtbnpleihhbpnlaaDoor
open Go.ChangeShapes Go.WideShapes Go.ChangeAt Go.RowKit

set_option maxRecDepth 100000 in
theorem waveLinear_contract {H : Type} {enc : TypeId × Value → H} (W : World) (args : Array Value) (hL : laidMetH Tryd.prog Rows.waveLinearRow.laid W) (h : GotAll enc Tryd.prog W [22, 22, 3] args.toList) :
    Calls Tryd.prog 6 args W fun e W' => e = .returned (.bool true) ∧ Below W.heap.size W W' := by
  obtain ⟨v0, v1, v2, rfl, ⟨d0, g0, f0, b0, w0⟩, ⟨d1, g1, f1, b1, w1⟩, ⟨d2, g2, f2, b2, w2⟩⟩ := gotAll_three h
  obtain ⟨a0, n0, c0, rfl⟩ := okWide_slice Tryd.underlying22 w0
  obtain ⟨A0, c0', l0, hv0, hc0, hcm0, hm0, hr0⟩ := got_ints g0 f0
  rw [hv0]
  obtain ⟨a1, n1, c1, rfl⟩ := okWide_slice Tryd.underlying22 w1
  obtain ⟨A1, c1', l1, hv1, hc1, hcm1, hm1, hr1⟩ := got_ints g1 f1
  rw [hv1]
  obtain ⟨u2, rfl⟩ := okWide_int Tryd.underlying3 w2
  obtain ⟨u2', hu2, hw2⟩ := got_int Tryd.underlying3 g2
  injection hu2 with _ hu2
  subst hu2
  have hb2 := i64_wf hw2
  have hFM := floatMem_of hL (.tail _ (.tail _ (.tail _ (.head _)))) (.tail _ (.tail _ (.tail _ (.tail _ (.head _))))) (.tail _ (.tail _ (.tail _ (.tail _ (.tail _ (.tail _ (.head _)))))))
  exact waveLinear_any l0 A0 l0.length c0' W.heap.size l1 A1 l1.length c1' W.heap.size u2 W hFM hr0 rfl (by have := le_reach hm0; first | omega | (simp only [maxLen]; omega)) (Nat.le_refl _) hr1 rfl (by have := le_reach hm1; first | omega | (simp only [maxLen]; omega)) (Nat.le_refl _) hb2
theorem waveLinear_door (os : Os) (args : Array Value) : laidMetH Tryd.prog Rows.waveLinearRow.laid ((World.laidAll Tryd.prog os Rows.waveLinearRow.laid).forCall (fun _ _ => 0) ⟨#[], args, []⟩).memory := by
  rw [MakeChecks.laidMetH_plain _ _ _ (by kernel_rfl)]
  exact laidMet_laidAll _ (by kernel_rfl) (by kernel_rfl)
set_option maxRecDepth 100000 in
theorem waveLinear_lifted (os : Os) (started : os.Started) (H : Type) (enc : TypeId × Value → H) :
    ReturnsInHanded {} Tryd.checked os 6 .any (fun w args => (Rows.waveLinearSpec.pre enc Tryd.prog Tryd.f6 Rows.waveLinearRow.domain false w args ∧ laidMetH Tryd.prog Rows.waveLinearRow.laid w) ∧ sizedMet enc Tryd.prog Tryd.f6 (OpenSpec.ofChange Rows.waveLinearSpec) false w args) (Rows.waveLinearSpec.post enc Tryd.prog Tryd.f6 false true false false) :=
  law_liftedC (C := Tryd.checked) Tryd.own started (by kernel_rfl) Tryd.func6
    (ChangeSpec.witness_shaped (enc := enc) (C := Tryd.checked) (os := os) (X := fun w _ => laidMetH Tryd.prog Rows.waveLinearRow.laid w) false (World.laidAll Tryd.prog os Rows.waveLinearRow.laid) #[.slice none 0 0, .slice none 0 0, .int .i64 0] 8 (World.laidAll_os _ _ _) (World.shaped_of_ZipB (by kernel_rfl) (by kernel_rfl)) (by kernel_rfl) (by kernel_rfl) (by kernel_rfl) (waveLinear_door os _))
    Tryd.laidOut (by
                have hall : (Tryd.f6.params.toList.all fun u => Tryd.prog.readableRec u && decide (u < Tryd.prog.types.size)) = true := by kernel_rfl
                intro t ht
                have h2 := List.all_eq_true.1 hall t ht
                rw [Bool.and_eq_true] at h2
                exact ⟨h2.1, of_decide_eq_true h2.2⟩) rfl (by kernel_rfl) Tryd.underlying4
    (by rw [Tryd.params6]; intro ds hd; match ds, hd with | [_, _, _], _ => rfl)
    (fun W args hL h => waveLinear_contract (enc := enc) W args hL (by rw [Tryd.params6] at h; exact h))
theorem waveLinear_said : Rows.WaveLinearSaid :=
  OpenClaim.holds_of_wide 6 Tryd.f6 rfl rfl rfl rfl rfl rfl rfl ⟨rfl, rfl, rfl, rfl, rfl⟩ rfl rfl rfl rfl rfl (by kernel_rfl) Tryd.func6 (by kernel_rfl)
    (of_decide_eq_true (by kernel_rfl)) (by unfold Func.isWrapper; first | (rw [if_pos (by decide +kernel)]; kernel_rfl) | (rw [if_neg (by decide +kernel)]; exact ⟨rfl, rfl⟩))
    (fun os started H enc _ => waveLinear_lifted os started H enc)
theorem waveLinear_plain (f : FuncId) (fn : Func) (hf : Tryd.pinned.checked.prog.funcNamed "tidewrack/tidewracklaw21.WaveLinear" = some f) (hfn : Tryd.pinned.checked.prog.funcs[f]? = some fn) :
    true = Tryd.pinned.checked.prog.looks [] ∧ ∀ (j : Nat) t, fn.params[j]? = some t → Tryd.pinned.checked.prog.wantsStandIn t = false := by
  obtain rfl : f = 6 := Option.some.inj ((show Tryd.prog.funcNamed "tidewrack/tidewracklaw21.WaveLinear" = some 6 by kernel_rfl).symm.trans hf) |>.symm
  obtain rfl : fn = Tryd.f6 := (Option.some.inj (Tryd.func6.symm.trans hfn)).symm
  refine ⟨by kernel_rfl, fun j t ht => ?_⟩
  rw [Tryd.params6] at ht
  have hm : t ∈ [22, 22, 3] := by simpa using Array.mem_of_getElem? ht
  have hall : ([22, 22, 3].all fun u => !Tryd.prog.wantsStandIn u) = true := by kernel_rfl
  exact (show Tryd.prog.wantsStandIn t = false by simpa using List.all_eq_true.1 hall t hm)
theorem waveLinear_holds : Rows.WaveLinearCardSaid :=
  Claim7.holds_tied_plain_at .later [] _ _ _ _ waveLinear_said (fun _ h => by cases h) (by kernel_rfl) (fun _ h => by cases h) waveLinear_row_tie rfl ⟨rfl, rfl⟩ (by kernel_rfl) rfl waveLinear_plain (by kernel_rfl)
end Go.Proofs.YtbnpleihhbpnlaaDoor
