/- LexNumbers: whatever the arguments, the law hands back true, and nothing that was there has turned. No condition. -/
import Derived.Test.YtbhkoefbajflnaaLexNumbers
import Derived.Test.YtbhkoefbajflnaaOpen2
import Derived.Lib.SmallJoins
namespace Go.Proofs.Ytbhkoefbajflnaa
open Go.ChangeShapes Go.WideShapes Go.ChangeAt Go.RowKit

set_option maxRecDepth 100000 in
theorem lexNumbers_contract {H : Type} {enc : TypeId × Value → H} (W : World) (args : Array Value) (h : GotAll enc Try.prog W [35, 35, 3] args.toList) :
    Calls Try.prog 5 args W fun e W' => e = .returned (.bool true) ∧ Below W.heap.size W W' := by
  obtain ⟨v0, v1, v2, rfl, ⟨d0, g0, f0, b0, w0⟩, ⟨d1, g1, f1, b1, w1⟩, ⟨d2, g2, f2, b2, w2⟩⟩ := gotAll_three h
  obtain ⟨u0, rfl⟩ := okWide_int Try.underlying35 w0
  obtain ⟨u0', hu0, hw0⟩ := got_int Try.underlying35 g0
  injection hu0 with _ hu0
  subst hu0
  have hb0 := u64_wf hw0
  obtain ⟨u1, rfl⟩ := okWide_int Try.underlying35 w1
  obtain ⟨u1', hu1, hw1⟩ := got_int Try.underlying35 g1
  injection hu1 with _ hu1
  subst hu1
  have hb1 := u64_wf hw1
  obtain ⟨u2, rfl⟩ := okWide_int Try.underlying3 w2
  obtain ⟨u2', hu2, hw2⟩ := got_int Try.underlying3 g2
  injection hu2 with _ hu2
  subst hu2
  have hb2 := i64_wf hw2
  exact lexNumbers_int u0 u1 u2 W hb0 hb1 hb2

set_option maxRecDepth 100000 in
theorem lexNumbers_lifted (os : Os) (started : os.Started) (H : Type) (enc : TypeId × Value → H) :
    ReturnsInHanded {} Try.checked os 5 .any (Rows.lexNumbersSpec.pre6 enc Try.prog Try.f5 Rows.lexNumbersRow.domain false) (Rows.lexNumbersSpec.post enc Try.prog Try.f5 false true false false) :=
  law_lifted (C := Try.checked) Try.own started (by kernel_rfl) Try.func5
    (ChangeSpec.witness6 (enc := enc) (C := Try.checked) false ⟨#[], #[.int .u64 0, .int .u64 0, .int .i64 0], []⟩ 8 (by kernel_rfl) (by kernel_rfl) (by kernel_rfl) (by kernel_rfl))
    Try.laidOut (by rw [Try.params5]; intro t ht; simp at ht; rcases ht with rfl | rfl <;> exact ⟨by kernel_rfl, of_decide_eq_true (by kernel_rfl)⟩) rfl (by kernel_rfl) Try.underlying4
    (by rw [Try.params5]; intro ds hd; match ds, hd with | [_, _, _], _ => rfl)
    (fun W args h => lexNumbers_contract (enc := enc) W args (by rw [Try.params5] at h; exact h))

theorem lexNumbers_holds : Rows.LexNumbersSaid :=
  OpenClaim.holds_of_wide 5 Try.f5 rfl rfl rfl rfl rfl rfl rfl ⟨rfl, rfl, rfl, rfl, rfl⟩ rfl rfl rfl rfl rfl (by kernel_rfl) Try.func5 (by kernel_rfl)
    (of_decide_eq_true (by kernel_rfl)) (by unfold Func.isWrapper; first | (rw [if_pos (by decide +kernel)]; kernel_rfl) | (rw [if_neg (by decide +kernel)]; exact ⟨rfl, rfl⟩))
    (fun os started H enc _ => lexNumbers_lifted os started H enc)
end Go.Proofs.Ytbhkoefbajflnaa
