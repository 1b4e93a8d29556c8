/- LabelOrder: whatever the arguments, the law hands back true, and nothing that was there has turned. No condition. -/
import Derived.Test.YtnlheomfobpcmaaGreatLabelOrder
import Derived.Test.YtnlheomfobpcmaaGreatOpenLabE
import Derived.Lib.SmallJoins
namespace Go.Proofs.YtnlheomfobpcmaaGreat
open Go.ChangeShapes Go.WideShapes Go.ChangeAt Go.RowKit

set_option maxRecDepth 100000 in
theorem labelOrder_contract {H : Type} {enc : TypeId × Value → H} (W : World) (args : Array Value) (h : GotAll enc Tryz.prog W [22, 22, 22] args.toList) :
    Calls Tryz.prog 5 args W fun e W' => e = .returned (.bool true) ∧ Below W.heap.size W W' := by
  obtain ⟨v0, v1, v2, rfl, ⟨d0, g0, f0, b0, w0⟩, ⟨d1, g1, f1, b1, w1⟩, ⟨d2, g2, f2, b2, w2⟩⟩ := gotAll_three h
  obtain ⟨a0, n0, c0, rfl⟩ := okWide_slice Tryz.underlying22 w0
  obtain ⟨A0, c0', l0, hv0, hc0, hcm0, hm0, hr0, ho0⟩ := got_labs g0 f0
  rw [hv0]
  obtain ⟨a1, n1, c1, rfl⟩ := okWide_slice Tryz.underlying22 w1
  obtain ⟨A1, c1', l1, hv1, hc1, hcm1, hm1, hr1, ho1⟩ := got_labs g1 f1
  rw [hv1]
  obtain ⟨a2, n2, c2, rfl⟩ := okWide_slice Tryz.underlying22 w2
  obtain ⟨A2, c2', l2, hv2, hc2, hcm2, hm2, hr2, ho2⟩ := got_labs g2 f2
  rw [hv2]
  exact labelOrder_any l0 l1 l2 A0 A1 A2 _ _ _ c0' c1' c2' _ _ _ W hr0 hr1 hr2 rfl rfl rfl (Nat.le_refl _) (Nat.le_refl _) (Nat.le_refl _) (le_reach hm0) (le_reach hm1) (le_reach hm2)

set_option maxRecDepth 100000 in
theorem labelOrder_lifted (os : Os) (started : os.Started) (H : Type) (enc : TypeId × Value → H) :
    ReturnsInHanded {} Tryz.checked os 5 .any (Rows.labelOrderSpec.pre6 enc Tryz.prog Tryz.f5 Rows.labelOrderRow.domain false) (Rows.labelOrderSpec.post enc Tryz.prog Tryz.f5 false true false false) :=
  law_lifted (C := Tryz.checked) Tryz.own started (by kernel_rfl) Tryz.func5
    (ChangeSpec.witness6 (enc := enc) (C := Tryz.checked) false ⟨#[], #[.slice none 0 0, .slice none 0 0, .slice none 0 0], []⟩ 8 (by kernel_rfl) (by kernel_rfl) (by kernel_rfl) (by kernel_rfl))
    Tryz.laidOut (by
                have hall : (Tryz.f5.params.toList.all fun u => Tryz.prog.readableRec u && decide (u < Tryz.prog.types.size)) = true := by kernel_rfl
                intro t ht
                have h2 := List.all_eq_true.1 hall t ht
                rw [Bool.and_eq_true] at h2
                exact ⟨h2.1, of_decide_eq_true h2.2⟩) rfl (by kernel_rfl) Tryz.underlying4
    (by rw [Tryz.params5]; intro ds hd; match ds, hd with | [_, _, _], _ => rfl)
    (fun W args h => labelOrder_contract (enc := enc) W args (by rw [Tryz.params5] at h; exact h))

theorem labelOrder_holds : Rows.LabelOrderSaid :=
  OpenClaim.holds_of_wide 5 Tryz.f5 rfl rfl rfl rfl rfl rfl rfl ⟨rfl, rfl, rfl, rfl, rfl⟩ rfl rfl rfl rfl rfl (by kernel_rfl) Tryz.func5 (by kernel_rfl)
    (of_decide_eq_true (by kernel_rfl)) (by unfold Func.isWrapper; first | (rw [if_pos (by decide +kernel)]; kernel_rfl) | (rw [if_neg (by decide +kernel)]; exact ⟨rfl, rfl⟩))
    (fun os started H enc _ => labelOrder_lifted os started H enc)
end Go.Proofs.YtnlheomfobpcmaaGreat
