/- LabelBack, where what comes in is of bulk at most 1048576: the law hands back true, and nothing that was there has turned. -/
import Derived.Test.YtnlheomfobpcmaaGreatLabelBack
import Derived.Test.YtnlheomfobpcmaaGreatSumP
import Derived.Lib.SmallJoins
namespace Go.Proofs.YtnlheomfobpcmaaGreat
open Go.ChangeShapes Go.WideShapes Go.ChangeAt Go.RowKit

set_option maxRecDepth 100000 in
theorem labelBackUpto_contract {H : Type} {enc : TypeId × Value → H} (W : World) (args : Array Value) (ds : List (DataW H)) (h : GotAllB enc Tryz.prog W [26, 22, 22, 26] args.toList ds) (hk : Rows.uptoBulkAll ds ≤ 1048576) :
    Calls Tryz.prog 6 args W fun e W' => e = .returned (.bool true) ∧ Below W.heap.size W W' := by
  obtain ⟨args⟩ := args
  replace h : GotAllB enc Tryz.prog W [26, 22, 22, 26] args ds := h
  obtain ⟨v0, args, d0, ds, rfl, rfl, ⟨g0, b0, w0⟩, h⟩ := gotAllB_cons h
  obtain ⟨v1, args, d1, ds, rfl, rfl, ⟨g1, b1, w1⟩, h⟩ := gotAllB_cons h
  obtain ⟨v2, args, d2, ds, rfl, rfl, ⟨g2, b2, w2⟩, h⟩ := gotAllB_cons h
  obtain ⟨v3, args, d3, ds, rfl, rfl, ⟨g3, b3, w3⟩, h⟩ := gotAllB_cons h
  obtain ⟨rfl, rfl⟩ := gotAllB_nil h
  obtain ⟨a0, n0, c0, rfl⟩ := okWide_slice Tryz.underlying26 w0
  obtain ⟨A0, c0', l0, hv0, hc0, hcm0, hr0, hs0⟩ := got_bytesB g0
  rw [hv0]
  obtain ⟨a1, n1, c1, rfl⟩ := okWide_slice Tryz.underlying22 w1
  obtain ⟨A1, c1', l1, hv1, hc1, hcm1, hr1, ho1, hs1⟩ := got_labsB g1
  rw [hv1]
  obtain ⟨a2, n2, c2, rfl⟩ := okWide_slice Tryz.underlying22 w2
  obtain ⟨A2, c2', l2, hv2, hc2, hcm2, hr2, ho2, hs2⟩ := got_labsB g2
  rw [hv2]
  obtain ⟨a3, n3, c3, rfl⟩ := okWide_slice Tryz.underlying26 w3
  obtain ⟨A3, c3', l3, hv3, hc3, hcm3, hr3, hs3⟩ := got_bytesB g3
  rw [hv3]
  have hb : Rows.uptoBulk d0 + Rows.uptoBulk d1 + Rows.uptoBulk d2 + Rows.uptoBulk d3 ≤ 1048576 := by
    have := hk
    simp only [Rows.uptoBulkAll] at this
    omega
  exact labelBack_any l0 l3 l1 l2 A1 A2 A0 A3 _ _ c1' c2' _ _ _ c0' _ _ c3' _ W hr1 rfl (Nat.le_refl _) hr2 rfl (Nat.le_refl _) hr0 rfl (Nat.le_refl _) hr3 rfl (Nat.le_refl _) ho1 ho2 (by have := sumL_len l1; omega) (by have := sumL_len l2; omega) (by omega) (by omega) (by have := encL_sum l1 (by omega); omega) (by have := encL_sum l2 (by omega); omega) (by have := textL_sum l1; omega) (by have := textL_sum l2; omega)
set_option maxRecDepth 100000 in
theorem labelBackUpto_lifted (os : Os) (started : os.Started) (H : Type) (enc : TypeId × Value → H) (F : Stop.Interp) :
    ReturnsInHanded {} Tryz.checked os 6 .any ((Rows.OpenSpec.upto Rows.labelBackSpec).pre6 enc Tryz.prog Tryz.f6 Rows.labelBackUptoRow.domain false) (((Rows.OpenSpec.upto Rows.labelBackSpec).at F).post enc Tryz.prog Tryz.f6 false true false false) :=
  law_liftedU (C := Tryz.checked) Tryz.own started (by kernel_rfl) Tryz.func6
    (OpenSpec.witness (enc := enc) (C := Tryz.checked) (s := Rows.OpenSpec.upto Rows.labelBackSpec) (k := Rows.uptoSmall) rfl false ⟨#[], #[.slice none 0 0, .slice none 0 0, .slice none 0 0, .slice none 0 0], []⟩ 8 (by kernel_rfl) (by kernel_rfl) (by kernel_rfl)
      (x := ([.nil, .nil, .nil, .nil], [], [])) (by kernel_rfl) rfl (by kernel_rfl))
    Tryz.laidOut (by
                have hall : (Tryz.f6.params.toList.all fun u => Tryz.prog.readableRec u && decide (u < Tryz.prog.types.size)) = true := by kernel_rfl
                intro t ht
                have h2 := List.all_eq_true.1 hall t ht
                rw [Bool.and_eq_true] at h2
                exact ⟨h2.1, of_decide_eq_true h2.2⟩) rfl (by kernel_rfl) Tryz.underlying4
    (by rw [Tryz.params6]; intro ds hd; match ds, hd with | [_, _, _, _], _ => rfl)
    (fun W args ds h hk => labelBackUpto_contract (enc := enc) W args ds (by rw [Tryz.params6] at h; exact h) hk)

theorem labelBackUpto_holds : Rows.LabelBackUptoSaid :=
  OpenClaim.holds_of_cond 6 Tryz.f6 rfl rfl rfl rfl rfl rfl rfl ⟨rfl, rfl, rfl, rfl, rfl⟩ rfl rfl rfl rfl rfl (by kernel_rfl) Tryz.func6 (by kernel_rfl)
    (of_decide_eq_true (by kernel_rfl)) (by unfold Func.isWrapper; first | (rw [if_pos (by decide +kernel)]; kernel_rfl) | (rw [if_neg (by decide +kernel)]; exact ⟨rfl, rfl⟩))
    (fun os started H enc _ F => labelBackUpto_lifted os started H enc F)
end Go.Proofs.YtnlheomfobpcmaaGreat
