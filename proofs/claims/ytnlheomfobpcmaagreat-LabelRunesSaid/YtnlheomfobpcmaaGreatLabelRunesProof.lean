/- LabelRunes: whatever the arguments, the law hands back true, and nothing that was there has turned. No condition. -/
import Derived.Test.YtnlheomfobpcmaaGreatLabelRunes
import Derived.Test.YtnlheomfobpcmaaGreatOpenLabE
import Derived.Lib.SmallJoins
namespace Go.Proofs.YtnlheomfobpcmaaGreat
open Go.ChangeShapes Go.WideShapes Go.ChangeAt Go.RowKit

set_option maxRecDepth 100000 in
theorem labelRunes_contract {H : Type} {enc : TypeId × Value → H} (W : World) (args : Array Value) (h : GotAll enc Tryz.prog W [3, 9] args.toList) :
    Calls Tryz.prog 8 args W fun e W' => e = .returned (.bool true) ∧ Below W.heap.size W W' := by
  obtain ⟨v0, v1, rfl, ⟨d0, g0, f0, b0, w0⟩, ⟨d1, g1, f1, b1, w1⟩⟩ := gotAll_two h
  obtain ⟨u0, rfl⟩ := okWide_int Tryz.underlying3 w0
  obtain ⟨u0', hu0, hw0⟩ := got_int Tryz.underlying3 g0
  injection hu0 with _ hu0
  subst hu0
  have hb0 := i64_wf hw0
  obtain ⟨s1, rfl⟩ := okWide_string Tryz.underlying9 w1
  obtain ⟨_, hs1, hm1⟩ := got_stringF Tryz.underlying9 g1 f1
  injection hs1 with hs1
  subst hs1
  exact labelRunes_any u0 s1 W (le_reach hm1)

set_option maxRecDepth 100000 in
theorem labelRunes_lifted (os : Os) (started : os.Started) (H : Type) (enc : TypeId × Value → H) :
    ReturnsInHanded {} Tryz.checked os 8 .any (Rows.labelRunesSpec.pre6 enc Tryz.prog Tryz.f8 Rows.labelRunesRow.domain false) (Rows.labelRunesSpec.post enc Tryz.prog Tryz.f8 false true false false) :=
  law_lifted (C := Tryz.checked) Tryz.own started (by kernel_rfl) Tryz.func8
    (ChangeSpec.witness6 (enc := enc) (C := Tryz.checked) false ⟨#[], #[.int .i64 0, .string ByteArray.empty], []⟩ 8 (by kernel_rfl) (by kernel_rfl) (by kernel_rfl) (by kernel_rfl))
    Tryz.laidOut (by
                have hall : (Tryz.f8.params.toList.all fun u => Tryz.prog.readableRec u && decide (u < Tryz.prog.types.size)) = true := by kernel_rfl
                intro t ht
                have h2 := List.all_eq_true.1 hall t ht
                rw [Bool.and_eq_true] at h2
                exact ⟨h2.1, of_decide_eq_true h2.2⟩) rfl (by kernel_rfl) Tryz.underlying4
    (by rw [Tryz.params8]; intro ds hd; match ds, hd with | [_, _], _ => rfl)
    (fun W args h => labelRunes_contract (enc := enc) W args (by rw [Tryz.params8] at h; exact h))

theorem labelRunes_holds : Rows.LabelRunesSaid :=
  OpenClaim.holds_of_wide 8 Tryz.f8 rfl rfl rfl rfl rfl rfl rfl ⟨rfl, rfl, rfl, rfl, rfl⟩ rfl rfl rfl rfl rfl (by kernel_rfl) Tryz.func8 (by kernel_rfl)
    (of_decide_eq_true (by kernel_rfl)) (by unfold Func.isWrapper; first | (rw [if_pos (by decide +kernel)]; kernel_rfl) | (rw [if_neg (by decide +kernel)]; exact ⟨rfl, rfl⟩))
    (fun os started H enc _ => labelRunes_lifted os started H enc)
end Go.Proofs.YtnlheomfobpcmaaGreat
