/- HaOne: whatever the arguments, the law hands back true, and nothing that was there has turned. No condition. -/
import Derived.Test.YtngboplmlkckhaaDoorHaOne
import Derived.Test.YtngboplmlkckhaaDoorHaT
import Derived.Test.YtngboplmlkckhaaDoorFrameC
import Derived.Test.YtngboplmlkckhaaDoorCards
import Derived.Test.YtngboplmlkckhaaDoorTie
import Derived.SevenTiedAt
import Derived.Test.YtngboplmlkckhaaDoorOpen2
import Derived.Lib.SmallJoins
namespace Go.Proofs.YtngboplmlkckhaaDoor
open Go.ChangeShapes Go.WideShapes Go.ChangeAt Go.RowKit

set_option maxRecDepth 100000 in
theorem haOne_contract {H : Type} {enc : TypeId × Value → H} (W : World) (args : Array Value) (hL : laidMetH Tryd.prog Rows.haOneRow.laid W) (h : GotAll enc Tryd.prog W [23, 9, 9, 2, 2, 2] args.toList) :
    Calls Tryd.prog 4 args W fun e W' => e = .returned (.bool true) ∧ Below W.heap.size W W' := by
  obtain ⟨args⟩ := args
  obtain ⟨v0, v1, v2, v3, v4, v5, rfl, ⟨d0, g0, f0, b0, w0⟩, ⟨d1, g1, f1, b1, w1⟩, ⟨d2, g2, f2, b2, w2⟩, ⟨d3, g3, f3, b3, w3⟩, ⟨d4, g4, f4, b4, w4⟩, ⟨d5, g5, f5, b5, w5⟩⟩ : ∃ v0 v1 v2 v3 v4 v5, args = [v0, v1, v2, v3, v4, v5] ∧ (∃ d, Got enc Tryd.prog W 23 v0.cells.toList d ∧ Fits Tryd.prog 23 d ∧ ∃ base, Value.okWide Tryd.prog W .any base 23 v0) ∧ (∃ d, Got enc Tryd.prog W 9 v1.cells.toList d ∧ Fits Tryd.prog 9 d ∧ ∃ base, Value.okWide Tryd.prog W .any base 9 v1) ∧ (∃ d, Got enc Tryd.prog W 9 v2.cells.toList d ∧ Fits Tryd.prog 9 d ∧ ∃ base, Value.okWide Tryd.prog W .any base 9 v2) ∧ (∃ d, Got enc Tryd.prog W 2 v3.cells.toList d ∧ Fits Tryd.prog 2 d ∧ ∃ base, Value.okWide Tryd.prog W .any base 2 v3) ∧ (∃ d, Got enc Tryd.prog W 2 v4.cells.toList d ∧ Fits Tryd.prog 2 d ∧ ∃ base, Value.okWide Tryd.prog W .any base 2 v4) ∧ (∃ d, Got enc Tryd.prog W 2 v5.cells.toList d ∧ Fits Tryd.prog 2 d ∧ ∃ base, Value.okWide Tryd.prog W .any base 2 v5) := by
    match args, h with
    | [v0, v1, v2, v3, v4, v5], ⟨h0, h1, h2, h3, h4, h5, _⟩ => exact ⟨v0, v1, v2, v3, v4, v5, rfl, h0, h1, h2, h3, h4, h5⟩
  obtain ⟨s0, t0, rfl, hm0, ht0⟩ := got_ldr w0 g0 f0
  obtain ⟨s1, rfl⟩ := okWide_string Tryd.underlying9 w1
  obtain ⟨_, hs1, hm1⟩ := got_stringF Tryd.underlying9 g1 f1
  injection hs1 with hs1
  subst hs1
  obtain ⟨s2, rfl⟩ := okWide_string Tryd.underlying9 w2
  obtain ⟨_, hs2, hm2⟩ := got_stringF Tryd.underlying9 g2 f2
  injection hs2 with hs2
  subst hs2
  obtain ⟨u3, rfl⟩ := okWide_int Tryd.underlying2 w3
  obtain ⟨u3', hu3, hw3⟩ := got_int Tryd.underlying2 g3
  injection hu3 with _ hu3
  subst hu3
  have hb3 := i64_wf hw3
  obtain ⟨u4, rfl⟩ := okWide_int Tryd.underlying2 w4
  obtain ⟨u4', hu4, hw4⟩ := got_int Tryd.underlying2 g4
  injection hu4 with _ hu4
  subst hu4
  have hb4 := i64_wf hw4
  obtain ⟨u5, rfl⟩ := okWide_int Tryd.underlying2 w5
  obtain ⟨u5', hu5, hw5⟩ := got_int Tryd.underlying2 g5
  injection hu5 with _ hu5
  subst hu5
  have hb5 := i64_wf hw5
  have ht := tab10_of hL
  exact haOne_law s0 t0 s1 s2 u3 u4 u5 W ht (le_reach hm0) (i64_wf ht0) (le_reach hm1) (le_reach hm2) hb3 hb4 hb5
theorem haOne_door (os : Os) (args : Array Value) : laidMetH Tryd.prog Rows.haOneRow.laid ((World.doorLaid Tryd.prog 24 os).forCall (fun _ _ => 0) ⟨#[], args, []⟩).memory :=
  laidMetH_of_parts3 (fuel := 8) (laidMet_of_run' 8 (by kernel_rfl) (by kernel_rfl)) (by kernel_rfl) (by kernel_rfl)
set_option maxRecDepth 100000 in
theorem haOne_lifted (os : Os) (started : os.Started) (H : Type) (enc : TypeId × Value → H) :
    ReturnsInHanded {} Tryd.checked os 4 .any (fun w args => (Rows.haOneSpec.pre enc Tryd.prog Tryd.f4 Rows.haOneRow.domain false w args ∧ laidMetH Tryd.prog Rows.haOneRow.laid w) ∧ sizedMet enc Tryd.prog Tryd.f4 (OpenSpec.ofChange Rows.haOneSpec) false w args) (Rows.haOneSpec.post enc Tryd.prog Tryd.f4 false true false false) :=
  law_liftedC (C := Tryd.checked) Tryd.own started (by kernel_rfl) Tryd.func4
    (ChangeSpec.witness_shaped (enc := enc) (C := Tryd.checked) (os := os) (X := fun w _ => laidMetH Tryd.prog Rows.haOneRow.laid w) false (World.doorLaid Tryd.prog 24 os) #[.agg #[.string ByteArray.empty, .int .i64 0], .string ByteArray.empty, .string ByteArray.empty, .int .i64 0, .int .i64 0, .int .i64 0] 8 rfl (World.shaped_of_RefB (by kernel_rfl) (by kernel_rfl)) (by kernel_rfl) (by kernel_rfl) (by kernel_rfl) (haOne_door os _))
    Tryd.laidOut (by
                have hall : (Tryd.f4.params.toList.all fun u => Tryd.prog.readableRec u && decide (u < Tryd.prog.types.size)) = true := by kernel_rfl
                intro t ht
                have h2 := List.all_eq_true.1 hall t ht
                rw [Bool.and_eq_true] at h2
                exact ⟨h2.1, of_decide_eq_true h2.2⟩) rfl (by kernel_rfl) Tryd.underlying4
    (by rw [Tryd.params4]; intro ds hd; match ds, hd with | [_, _, _, _, _, _], _ => rfl)
    (fun W args hL h => haOne_contract (enc := enc) W args hL (by rw [Tryd.params4] at h; exact h))
theorem haOne_said : Rows.HaOneSaid :=
  OpenClaim.holds_of_wide 4 Tryd.f4 rfl rfl rfl rfl rfl rfl rfl ⟨rfl, rfl, rfl, rfl, rfl⟩ rfl rfl rfl rfl rfl (by kernel_rfl) Tryd.func4 (by kernel_rfl)
    (of_decide_eq_true (by kernel_rfl)) (by unfold Func.isWrapper; first | (rw [if_pos (by decide +kernel)]; kernel_rfl) | (rw [if_neg (by decide +kernel)]; exact ⟨rfl, rfl⟩))
    (fun os started H enc _ => haOne_lifted os started H enc)
theorem haOne_plain (f : FuncId) (fn : Func) (hf : Tryd.pinned.checked.prog.funcNamed "tidewrack/tidewracklaw16.HaOne" = some f) (hfn : Tryd.pinned.checked.prog.funcs[f]? = some fn) :
    false = Tryd.pinned.checked.prog.looks [] ∧ ∀ (j : Nat) t, fn.params[j]? = some t → Tryd.pinned.checked.prog.wantsStandIn t = false := by
  obtain rfl : f = 4 := Option.some.inj ((show Tryd.prog.funcNamed "tidewrack/tidewracklaw16.HaOne" = some 4 by kernel_rfl).symm.trans hf) |>.symm
  obtain rfl : fn = Tryd.f4 := (Option.some.inj (Tryd.func4.symm.trans hfn)).symm
  refine ⟨by kernel_rfl, fun j t ht => ?_⟩
  rw [Tryd.params4] at ht
  have hm : t ∈ [23, 9, 9, 2, 2, 2] := by simpa using Array.mem_of_getElem? ht
  have hall : ([23, 9, 9, 2, 2, 2].all fun u => !Tryd.prog.wantsStandIn u) = true := by kernel_rfl
  exact (show Tryd.prog.wantsStandIn t = false by simpa using List.all_eq_true.1 hall t hm)
theorem haOne_holds : Rows.HaOneCardSaid :=
  Claim7.holds_tied_plain_at .later [] _ _ _ _ haOne_said (fun _ h => by cases h) (by kernel_rfl) (fun _ h => by cases h) haOne_row_tie rfl ⟨rfl, rfl⟩ (by kernel_rfl) rfl haOne_plain (by kernel_rfl)
end Go.Proofs.YtngboplmlkckhaaDoor
