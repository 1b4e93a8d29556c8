/- HaKeys: whatever the arguments, the law hands back true, and nothing that was there has turned. No condition. -/
import Derived.Test.YtngboplmlkckhaaDoorHaKeys
import Derived.Test.YtngboplmlkckhaaDoorFrameC
import Derived.Test.YtngboplmlkckhaaDoorCards
import Derived.Test.YtngboplmlkckhaaDoorTie
import Derived.SevenTiedAt
import Derived.Test.YtngboplmlkckhaaDoorOpen2
import Derived.Lib.SmallJoins
namespace Go.Proofs.YtngboplmlkckhaaDoor
open Go.ChangeShapes Go.WideShapes Go.ChangeAt Go.RowKit

set_option maxRecDepth 100000 in
theorem haKeys_contract {H : Type} {enc : TypeId × Value → H} (W : World) (args : Array Value) (hL : laidMetH Tryd.prog Rows.haKeysRow.laid W) (h : GotAll enc Tryd.prog W [9, 9, 9] args.toList) :
    Calls Tryd.prog 5 args W fun e W' => e = .returned (.bool true) ∧ Below W.heap.size W W' := by
  obtain ⟨v0, v1, v2, rfl, ⟨d0, g0, f0, b0, w0⟩, ⟨d1, g1, f1, b1, w1⟩, ⟨d2, g2, f2, b2, w2⟩⟩ := gotAll_three h
  obtain ⟨s0, rfl⟩ := okWide_string Tryd.underlying9 w0
  obtain ⟨_, hs0, hm0⟩ := got_stringF Tryd.underlying9 g0 f0
  injection hs0 with hs0
  subst hs0
  obtain ⟨s1, rfl⟩ := okWide_string Tryd.underlying9 w1
  obtain ⟨_, hs1, hm1⟩ := got_stringF Tryd.underlying9 g1 f1
  injection hs1 with hs1
  subst hs1
  obtain ⟨s2, rfl⟩ := okWide_string Tryd.underlying9 w2
  obtain ⟨_, hs2, hm2⟩ := got_stringF Tryd.underlying9 g2 f2
  injection hs2 with hs2
  subst hs2
  have ht := tab10_of hL
  exact haKeys_any s0 s1 s2 W ht (le_reach hm0) (le_reach hm1) (le_reach hm2)
theorem haKeys_door (os : Os) (args : Array Value) : laidMetH Tryd.prog Rows.haKeysRow.laid ((World.doorLaid Tryd.prog 24 os).forCall (fun _ _ => 0) ⟨#[], args, []⟩).memory :=
  laidMetH_of_parts3 (fuel := 8) (laidMet_of_run' 8 (by kernel_rfl) (by kernel_rfl)) (by kernel_rfl) (by kernel_rfl)
set_option maxRecDepth 100000 in
theorem haKeys_lifted (os : Os) (started : os.Started) (H : Type) (enc : TypeId × Value → H) :
    ReturnsInHanded {} Tryd.checked os 5 .any (fun w args => (Rows.haKeysSpec.pre enc Tryd.prog Tryd.f5 Rows.haKeysRow.domain false w args ∧ laidMetH Tryd.prog Rows.haKeysRow.laid w) ∧ sizedMet enc Tryd.prog Tryd.f5 (OpenSpec.ofChange Rows.haKeysSpec) false w args) (Rows.haKeysSpec.post enc Tryd.prog Tryd.f5 false true false false) :=
  law_liftedC (C := Tryd.checked) Tryd.own started (by kernel_rfl) Tryd.func5
    (ChangeSpec.witness_shaped (enc := enc) (C := Tryd.checked) (os := os) (X := fun w _ => laidMetH Tryd.prog Rows.haKeysRow.laid w) false (World.doorLaid Tryd.prog 24 os) #[.string ByteArray.empty, .string ByteArray.empty, .string ByteArray.empty] 8 rfl (World.shaped_of_RefB (by kernel_rfl) (by kernel_rfl)) (by kernel_rfl) (by kernel_rfl) (by kernel_rfl) (haKeys_door os _))
    Tryd.laidOut (by rw [Tryd.params5]; intro t ht; simp at ht; subst ht <;> exact ⟨by kernel_rfl, of_decide_eq_true (by kernel_rfl)⟩) rfl (by kernel_rfl) Tryd.underlying4
    (by rw [Tryd.params5]; intro ds hd; match ds, hd with | [_, _, _], _ => rfl)
    (fun W args hL h => haKeys_contract (enc := enc) W args hL (by rw [Tryd.params5] at h; exact h))
theorem haKeys_said : Rows.HaKeysSaid :=
  OpenClaim.holds_of_wide 5 Tryd.f5 rfl rfl rfl rfl rfl rfl rfl ⟨rfl, rfl, rfl, rfl, rfl⟩ rfl rfl rfl rfl rfl (by kernel_rfl) Tryd.func5 (by kernel_rfl)
    (of_decide_eq_true (by kernel_rfl)) (by unfold Func.isWrapper; first | (rw [if_pos (by decide +kernel)]; kernel_rfl) | (rw [if_neg (by decide +kernel)]; exact ⟨rfl, rfl⟩))
    (fun os started H enc _ => haKeys_lifted os started H enc)
theorem haKeys_plain (f : FuncId) (fn : Func) (hf : Tryd.pinned.checked.prog.funcNamed "tidewrack/tidewracklaw16.HaKeys" = some f) (hfn : Tryd.pinned.checked.prog.funcs[f]? = some fn) :
    false = Tryd.pinned.checked.prog.looks [] ∧ ∀ (j : Nat) t, fn.params[j]? = some t → Tryd.pinned.checked.prog.wantsStandIn t = false := by
  obtain rfl : f = 5 := Option.some.inj ((show Tryd.prog.funcNamed "tidewrack/tidewracklaw16.HaKeys" = some 5 by kernel_rfl).symm.trans hf) |>.symm
  obtain rfl : fn = Tryd.f5 := (Option.some.inj (Tryd.func5.symm.trans hfn)).symm
  refine ⟨by kernel_rfl, fun j t ht => ?_⟩
  rw [Tryd.params5] at ht
  have hm : t ∈ [9, 9, 9] := by simpa using Array.mem_of_getElem? ht
  have hall : ([9, 9, 9].all fun u => !Tryd.prog.wantsStandIn u) = true := by kernel_rfl
  exact (show Tryd.prog.wantsStandIn t = false by simpa using List.all_eq_true.1 hall t hm)
theorem haKeys_holds : Rows.HaKeysCardSaid :=
  Claim7.holds_tied_plain_at .later [] _ _ _ _ haKeys_said (fun _ h => by cases h) (by kernel_rfl) (fun _ h => by cases h) haKeys_row_tie rfl ⟨rfl, rfl⟩ (by kernel_rfl) rfl haKeys_plain (by kernel_rfl)
end Go.Proofs.YtngboplmlkckhaaDoor
