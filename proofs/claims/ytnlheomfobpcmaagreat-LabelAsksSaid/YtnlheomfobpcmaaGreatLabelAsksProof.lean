/- LabelAsks: whatever the arguments, the law hands back true, and nothing that was there has turned. No condition. -/
import Derived.Test.YtnlheomfobpcmaaGreatLabelAsks
import Derived.Test.YtnlheomfobpcmaaGreatOpenLabE
import Derived.Lib.SmallJoins
namespace Go.Proofs.YtnlheomfobpcmaaGreat
open Go.ChangeShapes Go.WideShapes Go.ChangeAt Go.RowKit

set_option maxRecDepth 100000 in
theorem labelAsks_contract {H : Type} {enc : TypeId × Value → H} (W : World) (args : Array Value) (h : GotAll enc Tryz.prog W [22, 9, 9, 35] args.toList) :
    Calls Tryz.prog 4 args W fun e W' => e = .returned (.bool true) ∧ Below W.heap.size W W' := by
  obtain ⟨v0, v1, v2, v3, rfl, ⟨d0, g0, f0, b0, w0⟩, ⟨d1, g1, f1, b1, w1⟩, ⟨d2, g2, f2, b2, w2⟩, ⟨d3, g3, f3, b3, w3⟩⟩ := gotAll_four h
  obtain ⟨a0, n0, c0, rfl⟩ := okWide_slice Tryz.underlying22 w0
  obtain ⟨A0, c0', l0, hv0, hc0, hcm0, hm0, hr0, ho0⟩ := got_labs g0 f0
  rw [hv0]
  obtain ⟨s1, rfl⟩ := okWide_string Tryz.underlying9 w1
  obtain ⟨_, hs1, hm1⟩ := got_stringF Tryz.underlying9 g1 f1
  injection hs1 with hs1
  subst hs1
  obtain ⟨s2, rfl⟩ := okWide_string Tryz.underlying9 w2
  obtain ⟨_, hs2, hm2⟩ := got_stringF Tryz.underlying9 g2 f2
  injection hs2 with hs2
  subst hs2
  obtain ⟨a3, n3, c3, rfl⟩ := okWide_slice Tryz.underlying35 w3
  obtain ⟨A3, c3', l3, hv3, hc3, hcm3, hm3, hr3, ho3⟩ := got_names g3 f3
  rw [hv3]
  exact labelAsks_any l0 s1 s2 l3 A0 A3 _ c0' _ _ c3' _ W hr0 rfl (Nat.le_refl _) (le_reach hm0) hr3 rfl (Nat.le_refl _) (le_reach hm3)

set_option maxRecDepth 100000 in
theorem labelAsks_lifted (os : Os) (started : os.Started) (H : Type) (enc : TypeId × Value → H) :
    ReturnsInHanded {} Tryz.checked os 4 .any (Rows.labelAsksSpec.pre6 enc Tryz.prog Tryz.f4 Rows.labelAsksRow.domain false) (Rows.labelAsksSpec.post enc Tryz.prog Tryz.f4 false true false false) :=
  law_lifted (C := Tryz.checked) Tryz.own started (by kernel_rfl) Tryz.func4
    (ChangeSpec.witness6 (enc := enc) (C := Tryz.checked) false ⟨#[], #[.slice none 0 0, .string ByteArray.empty, .string ByteArray.empty, .slice none 0 0], []⟩ 8 (by kernel_rfl) (by kernel_rfl) (by kernel_rfl) (by kernel_rfl))
    Tryz.laidOut (by
                have hall : (Tryz.f4.params.toList.all fun u => Tryz.prog.readableRec u && decide (u < Tryz.prog.types.size)) = true := by kernel_rfl
                intro t ht
                have h2 := List.all_eq_true.1 hall t ht
                rw [Bool.and_eq_true] at h2
                exact ⟨h2.1, of_decide_eq_true h2.2⟩) rfl (by kernel_rfl) Tryz.underlying4
    (by rw [Tryz.params4]; intro ds hd; match ds, hd with | [_, _, _, _], _ => rfl)
    (fun W args h => labelAsks_contract (enc := enc) W args (by rw [Tryz.params4] at h; exact h))

theorem labelAsks_holds : Rows.LabelAsksSaid :=
  OpenClaim.holds_of_wide 4 Tryz.f4 rfl rfl rfl rfl rfl rfl rfl ⟨rfl, rfl, rfl, rfl, rfl⟩ rfl rfl rfl rfl rfl (by kernel_rfl) Tryz.func4 (by kernel_rfl)
    (of_decide_eq_true (by kernel_rfl)) (by unfold Func.isWrapper; first | (rw [if_pos (by decide +kernel)]; kernel_rfl) | (rw [if_neg (by decide +kernel)]; exact ⟨rfl, rfl⟩))
    (fun os started H enc _ => labelAsks_lifted os started H enc)
end Go.Proofs.YtnlheomfobpcmaaGreat
