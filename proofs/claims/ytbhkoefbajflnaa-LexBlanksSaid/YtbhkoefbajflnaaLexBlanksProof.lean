/- LexBlanks: whatever the arguments, the law hands back true, and nothing that was there has turned. No condition. -/
import Derived.Test.YtbhkoefbajflnaaLexBlanks
import Derived.Test.YtbhkoefbajflnaaOpen2
import Derived.Lib.SmallJoins
namespace Go.Proofs.Ytbhkoefbajflnaa
open Go.ChangeShapes Go.WideShapes Go.ChangeAt Go.RowKit

set_option maxRecDepth 100000 in
theorem lexBlanks_contract {H : Type} {enc : TypeId × Value → H} (W : World) (args : Array Value) (h : GotAll enc Try.prog W [9, 30] args.toList) :
    Calls Try.prog 4 args W fun e W' => e = .returned (.bool true) ∧ Below W.heap.size W W' := by
  obtain ⟨v0, v1, rfl, ⟨d0, g0, f0, b0, w0⟩, ⟨d1, g1, f1, b1, w1⟩⟩ := gotAll_two h
  obtain ⟨s0, rfl⟩ := okWide_string Try.underlying9 w0
  obtain ⟨_, hs0, hm0⟩ := got_stringF Try.underlying9 g0 f0
  injection hs0 with hs0
  subst hs0
  obtain ⟨a1, n1, c1, rfl⟩ := okWide_slice Try.underlying30 w1
  obtain ⟨A1, c1', l1, hv1, _, hc1, hm1, hr1⟩ := got_bytes g1 f1
  rw [hv1]
  exact lexBlanks_any s0 l1 A1 l1.length c1' W.heap.size W (le_reach hm0) hr1 rfl (by have := le_reach hm1; simp only [maxLen]; omega) (Nat.le_refl _)

set_option maxRecDepth 100000 in
theorem lexBlanks_lifted (os : Os) (started : os.Started) (H : Type) (enc : TypeId × Value → H) :
    ReturnsInHanded {} Try.checked os 4 .any (Rows.lexBlanksSpec.pre6 enc Try.prog Try.f4 Rows.lexBlanksRow.domain false) (Rows.lexBlanksSpec.post enc Try.prog Try.f4 false true false false) :=
  law_lifted (C := Try.checked) Try.own started (by kernel_rfl) Try.func4
    (ChangeSpec.witness6 (enc := enc) (C := Try.checked) false ⟨#[], #[.string ByteArray.empty, .slice none 0 0], []⟩ 8 (by kernel_rfl) (by kernel_rfl) (by kernel_rfl) (by kernel_rfl))
    Try.laidOut (by rw [Try.params4]; intro t ht; simp at ht; rcases ht with rfl | rfl <;> exact ⟨by kernel_rfl, of_decide_eq_true (by kernel_rfl)⟩) rfl (by kernel_rfl) Try.underlying4
    (by rw [Try.params4]; intro ds hd; match ds, hd with | [_, _], _ => rfl)
    (fun W args h => lexBlanks_contract (enc := enc) W args (by rw [Try.params4] at h; exact h))

theorem lexBlanks_holds : Rows.LexBlanksSaid :=
  OpenClaim.holds_of_wide 4 Try.f4 rfl rfl rfl rfl rfl rfl rfl ⟨rfl, rfl, rfl, rfl, rfl⟩ rfl rfl rfl rfl rfl (by kernel_rfl) Try.func4 (by kernel_rfl)
    (of_decide_eq_true (by kernel_rfl)) (by unfold Func.isWrapper; first | (rw [if_pos (by decide +kernel)]; kernel_rfl) | (rw [if_neg (by decide +kernel)]; exact ⟨rfl, rfl⟩))
    (fun os started H enc _ => lexBlanks_lifted os started H enc)
end Go.Proofs.Ytbhkoefbajflnaa
