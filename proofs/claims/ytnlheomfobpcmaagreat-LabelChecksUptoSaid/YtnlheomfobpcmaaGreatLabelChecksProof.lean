/- LabelChecks, where what comes in is of bulk at most 1048576: the law hands back true, and nothing that was there has turned. -/
import Derived.Test.YtnlheomfobpcmaaGreatLabelChecks
import Derived.Test.YtnlheomfobpcmaaGreatSumP
import Derived.Lib.SmallJoins
namespace Go.Proofs.YtnlheomfobpcmaaGreat
open Go.ChangeShapes Go.WideShapes Go.ChangeAt Go.RowKit

set_option maxRecDepth 100000 in
theorem labelChecksUpto_contract {H : Type} {enc : TypeId × Value → H} (W : World) (args : Array Value) (ds : List (DataW H)) (h : GotAllB enc Tryz.prog W [22] args.toList ds) (hk : Rows.uptoBulkAll ds ≤ 1048576) :
    Calls Tryz.prog 3 args W fun e W' => e = .returned (.bool true) ∧ Below W.heap.size W W' := by
  obtain ⟨args⟩ := args
  replace h : GotAllB enc Tryz.prog W [22] args ds := h
  obtain ⟨v0, args, d0, ds, rfl, rfl, ⟨g0, b0, w0⟩, h⟩ := gotAllB_cons h
  obtain ⟨rfl, rfl⟩ := gotAllB_nil h
  obtain ⟨a0, n0, c0, rfl⟩ := okWide_slice Tryz.underlying22 w0
  obtain ⟨A0, c0', l0, hv0, hc0, hcm0, hr0, ho0, hs0⟩ := got_labsB g0
  rw [hv0]
  have hb : Rows.uptoBulk d0 ≤ 1048576 := by
    have := hk
    simp only [Rows.uptoBulkAll] at this
    omega
  exact labelChecks_any l0 A0 _ c0' _ W hr0 rfl (Nat.le_refl _) (by have := sumL_len l0; omega) ho0 (by have := encL_sum l0 (by omega); omega) (by have := textL_sum l0; omega)
set_option maxRecDepth 100000 in
theorem labelChecksUpto_lifted (os : Os) (started : os.Started) (H : Type) (enc : TypeId × Value → H) (F : Stop.Interp) :
    ReturnsInHanded {} Tryz.checked os 3 .any ((Rows.OpenSpec.upto Rows.labelChecksSpec).pre6 enc Tryz.prog Tryz.f3 Rows.labelChecksUptoRow.domain false) (((Rows.OpenSpec.upto Rows.labelChecksSpec).at F).post enc Tryz.prog Tryz.f3 false true false false) :=
  law_liftedU (C := Tryz.checked) Tryz.own started (by kernel_rfl) Tryz.func3
    (OpenSpec.witness (enc := enc) (C := Tryz.checked) (s := Rows.OpenSpec.upto Rows.labelChecksSpec) (k := Rows.uptoSmall) rfl false ⟨#[], #[.slice none 0 0], []⟩ 8 (by kernel_rfl) (by kernel_rfl) (by kernel_rfl)
      (x := ([.nil], [], [])) (by kernel_rfl) rfl (by kernel_rfl))
    Tryz.laidOut (by
                have hall : (Tryz.f3.params.toList.all fun u => Tryz.prog.readableRec u && decide (u < Tryz.prog.types.size)) = true := by kernel_rfl
                intro t ht
                have h2 := List.all_eq_true.1 hall t ht
                rw [Bool.and_eq_true] at h2
                exact ⟨h2.1, of_decide_eq_true h2.2⟩) rfl (by kernel_rfl) Tryz.underlying4
    (by rw [Tryz.params3]; intro ds hd; match ds, hd with | [_], _ => rfl)
    (fun W args ds h hk => labelChecksUpto_contract (enc := enc) W args ds (by rw [Tryz.params3] at h; exact h) hk)

theorem labelChecksUpto_holds : Rows.LabelChecksUptoSaid :=
  OpenClaim.holds_of_cond 3 Tryz.f3 rfl rfl rfl rfl rfl rfl rfl ⟨rfl, rfl, rfl, rfl, rfl⟩ rfl rfl rfl rfl rfl (by kernel_rfl) Tryz.func3 (by kernel_rfl)
    (of_decide_eq_true (by kernel_rfl)) (by unfold Func.isWrapper; first | (rw [if_pos (by decide +kernel)]; kernel_rfl) | (rw [if_neg (by decide +kernel)]; exact ⟨rfl, rfl⟩))
    (fun os started H enc _ F => labelChecksUpto_lifted os started H enc F)
end Go.Proofs.YtnlheomfobpcmaaGreat
