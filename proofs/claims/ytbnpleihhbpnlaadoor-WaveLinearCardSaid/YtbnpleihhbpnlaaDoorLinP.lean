/- WaveLinear, plain: what its comparisons compare. -/
import Derived.Test.YtbnpleihhbpnlaaDoorSumsP
namespace Go.Proofs.YtbnpleihhbpnlaaDoor
open Go.RowKit

/-- What is known of the floats that WaveLinear makes: of the numbers' spectra (X, Y), their sums' (Z), their opposites' (M). -/
structure LinG (X Y Z M : Nat → Nat) (n : Nat) : Prop where
  sub1 : ∀ j, nanN (opF .sub (Z j) (X j)) = false
  sub2 : ∀ j, nanN (opF .sub (opF .sub (Z j) (X j)) (Y j)) = false
  near : ∀ j, (FloatKind.f64.format.order (absW (opF .sub (opF .sub (Z j) (X j)) (Y j))) 4517329193108106637 == some .lt || FloatKind.f64.format.order (absW (opF .sub (opF .sub (Z j) (X j)) (Y j))) 4517329193108106637 == some .eq) = true
  opp : ∀ j, (FloatKind.f64.format.order (M j) (negW (X j)) != some .eq) = false
theorem lin_num {c a b : Nat} (h : leF (absW (subF (subF c a) b)) milF = true) : nanN (opF .sub c a) = false ∧ nanN (opF .sub (opF .sub c a) b) = false := by
  have h1 : nanN (opF .sub (opF .sub c a) b) = false := abs_num (le_num h).1
  exact ⟨(num_args (op := .sub) h1).1, h1⟩
theorem lin_g {f g : Nat → Int} {n : Nat} (hn : sizeN n) (hf : ∀ k, (f k).natAbs ≤ 999) (hg : ∀ k, (g k).natAbs ≤ 999) :
    LinG (lineR (xg (wX f n)) n) (lineR (xg (wX g n)) n) (lineR (xg (wX (fun k => f k + g k) n)) n) (lineR (xg (wX (fun k => - f k) n)) n) n ∧
    LinG (lineI (xg (wX f n)) n) (lineI (xg (wX g n)) n) (lineI (xg (wX (fun k => f k + g k) n)) n) (lineI (xg (wX (fun k => - f k) n)) n) n := by
  have hx := wX_small (f := f) hn (fun k => Nat.le_trans (hf k) (by decide))
  have hy := wX_small (f := g) hn (fun k => Nat.le_trans (hg k) (by decide))
  have hz := wX_small (f := fun k => f k + g k) hn (fun k => by have := hf k; have := hg k; show (f k + g k).natAbs ≤ 1998; omega)
  have hm := wX_small (f := fun k => - f k) hn (fun k => by have := hf k; show (- f k).natAbs ≤ 1998; omega)
  have h1 := fun j => lin_near hx hy hz (fun _ _ => rfl) j
  have h2 := fun j => lin_opp hx hm (fun _ _ => rfl) j
  exact ⟨⟨fun j => (lin_num (h1 j).1).1, fun j => (lin_num (h1 j).1).2, fun j => (h1 j).1, fun j => ne_of_eqF (h2 j).1⟩,
    ⟨fun j => (lin_num (h1 j).2).1, fun j => (lin_num (h1 j).2).2, fun j => (h1 j).2, fun j => ne_of_eqF (h2 j).2⟩⟩
end Go.Proofs.YtbnpleihhbpnlaaDoor
