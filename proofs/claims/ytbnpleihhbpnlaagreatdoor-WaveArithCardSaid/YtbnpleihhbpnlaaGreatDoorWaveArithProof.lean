/- WaveArith: whatever the arguments, the law hands back true, and nothing that was there has turned. No condition. -/
import Derived.Test.YtbnpleihhbpnlaaGreatDoorWaveArith
import Derived.Test.YtbnpleihhbpnlaaGreatDoorFrameC
import Derived.Test.YtbnpleihhbpnlaaGreatDoorCards
import Derived.Test.YtbnpleihhbpnlaaGreatDoorTie
import Derived.SevenTiedAt
import Derived.Lay
import Derived.Test.YtbnpleihhbpnlaaGreatDoorOpen2
import Derived.Lib.SmallJoins
namespace Go.Proofs.YtbnpleihhbpnlaaGreatDoor
open Go.ChangeShapes Go.WideShapes Go.ChangeAt Go.RowKit

set_option maxRecDepth 100000 in
theorem waveArith_contract {H : Type} {enc : TypeId × Value → H} (W : World) (args : Array Value) (hL : laidMetH Tryz.prog Rows.waveArithRow.laid W) (h : GotAll enc Tryz.prog W [3, 22, 22] args.toList) :
    Calls Tryz.prog 3 args W fun e W' => e = .returned (.bool true) ∧ Below W.heap.size W W' := by
  obtain ⟨v0, v1, v2, rfl, ⟨d0, g0, f0, b0, w0⟩, ⟨d1, g1, f1, b1, w1⟩, ⟨d2, g2, f2, b2, w2⟩⟩ := gotAll_three h
  obtain ⟨u0, rfl⟩ := okWide_int Tryz.underlying3 w0
  obtain ⟨u0', hu0, hw0⟩ := got_int Tryz.underlying3 g0
  injection hu0 with _ hu0
  subst hu0
  have hb0 := i64_wf hw0
  obtain ⟨u1, rfl⟩ := okWide_int Tryz.underlying22 w1
  obtain ⟨u1', hu1, hw1⟩ := got_int Tryz.underlying22 g1
  injection hu1 with _ hu1
  subst hu1
  have hb1 := u64_wf hw1
  obtain ⟨u2, rfl⟩ := okWide_int Tryz.underlying22 w2
  obtain ⟨u2', hu2, hw2⟩ := got_int Tryz.underlying22 g2
  injection hu2 with _ hu2
  subst hu2
  have hb2 := u64_wf hw2
  have hFM := floatMem_of hL (.tail _ (.tail _ (.tail _ (.head _)))) (.tail _ (.tail _ (.tail _ (.tail _ (.head _))))) (.tail _ (.tail _ (.tail _ (.tail _ (.tail _ (.tail _ (.head _)))))))
  exact waveArith_any u0 u1 u2 W hFM hb0 hb1 hb2
theorem waveArith_door (os : Os) (args : Array Value) : laidMetH Tryz.prog Rows.waveArithRow.laid ((World.laidAll Tryz.prog os Rows.waveArithRow.laid).forCall (fun _ _ => 0) ⟨#[], args, []⟩).memory := by
  rw [MakeChecks.laidMetH_plain _ _ _ (by kernel_rfl)]
  exact laidMet_laidAll _ (by kernel_rfl) (by kernel_rfl)
set_option maxRecDepth 100000 in
theorem waveArith_lifted (os : Os) (started : os.Started) (H : Type) (enc : TypeId × Value → H) :
    ReturnsInHanded {} Tryz.checked os 3 .any (fun w args => (Rows.waveArithSpec.pre enc Tryz.prog Tryz.f3 Rows.waveArithRow.domain false w args ∧ laidMetH Tryz.prog Rows.waveArithRow.laid w) ∧ sizedMet enc Tryz.prog Tryz.f3 (OpenSpec.ofChange Rows.waveArithSpec) false w args) (Rows.waveArithSpec.post enc Tryz.prog Tryz.f3 false true false false) :=
  law_liftedC (C := Tryz.checked) Tryz.own started (by kernel_rfl) Tryz.func3
    (ChangeSpec.witness_shaped (enc := enc) (C := Tryz.checked) (os := os) (X := fun w _ => laidMetH Tryz.prog Rows.waveArithRow.laid w) false (World.laidAll Tryz.prog os Rows.waveArithRow.laid) #[.int .i64 0, .int .u64 0, .int .u64 0] 8 (World.laidAll_os _ _ _) (World.shaped_of_ZipB (by kernel_rfl) (by kernel_rfl)) (by kernel_rfl) (by kernel_rfl) (by kernel_rfl) (waveArith_door os _))
    Tryz.laidOut (by
                have hall : (Tryz.f3.params.toList.all fun u => Tryz.prog.readableRec u && decide (u < Tryz.prog.types.size)) = true := by kernel_rfl
                intro t ht
                have h2 := List.all_eq_true.1 hall t ht
                rw [Bool.and_eq_true] at h2
                exact ⟨h2.1, of_decide_eq_true h2.2⟩) rfl (by kernel_rfl) Tryz.underlying4
    (by rw [Tryz.params3]; intro ds hd; match ds, hd with | [_, _, _], _ => rfl)
    (fun W args hL h => waveArith_contract (enc := enc) W args hL (by rw [Tryz.params3] at h; exact h))
theorem waveArith_said : Rows.WaveArithSaid :=
  OpenClaim.holds_of_wide 3 Tryz.f3 rfl rfl rfl rfl rfl rfl rfl ⟨rfl, rfl, rfl, rfl, rfl⟩ rfl rfl rfl rfl rfl (by kernel_rfl) Tryz.func3 (by kernel_rfl)
    (of_decide_eq_true (by kernel_rfl)) (by unfold Func.isWrapper; first | (rw [if_pos (by decide +kernel)]; kernel_rfl) | (rw [if_neg (by decide +kernel)]; exact ⟨rfl, rfl⟩))
    (fun os started H enc _ => waveArith_lifted os started H enc)
theorem waveArith_plain (f : FuncId) (fn : Func) (hf : Tryz.pinned.checked.prog.funcNamed "tidewrack/tidewracklaw21.WaveArith" = some f) (hfn : Tryz.pinned.checked.prog.funcs[f]? = some fn) :
    true = Tryz.pinned.checked.prog.looks [] ∧ ∀ (j : Nat) t, fn.params[j]? = some t → Tryz.pinned.checked.prog.wantsStandIn t = false := by
  obtain rfl : f = 3 := Option.some.inj ((show Tryz.prog.funcNamed "tidewrack/tidewracklaw21.WaveArith" = some 3 by kernel_rfl).symm.trans hf) |>.symm
  obtain rfl : fn = Tryz.f3 := (Option.some.inj (Tryz.func3.symm.trans hfn)).symm
  refine ⟨by kernel_rfl, fun j t ht => ?_⟩
  rw [Tryz.params3] at ht
  have hm : t ∈ [3, 22, 22] := by simpa using Array.mem_of_getElem? ht
  have hall : ([3, 22, 22].all fun u => !Tryz.prog.wantsStandIn u) = true := by kernel_rfl
  exact (show Tryz.prog.wantsStandIn t = false by simpa using List.all_eq_true.1 hall t hm)
theorem waveArith_holds : Rows.WaveArithCardSaid :=
  Claim7.holds_tied_plain_at .later [] _ _ _ _ waveArith_said (fun _ h => by cases h) (by kernel_rfl) (fun _ h => by cases h) waveArith_row_tie rfl ⟨rfl, rfl⟩ (by kernel_rfl) rfl waveArith_plain (by kernel_rfl)
end Go.Proofs.YtbnpleihhbpnlaaGreatDoor
