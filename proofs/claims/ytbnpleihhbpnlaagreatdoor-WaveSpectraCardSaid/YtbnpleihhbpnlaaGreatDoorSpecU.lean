/- Spectrum and Power, of both programs, whatever the list. -/
import Derived.Test.YtbnpleihhbpnlaaGreatDoorRefPow
namespace Go.Proofs.YtbnpleihhbpnlaaGreatDoor
open Go.RowKit

/-- What a Spectrum hands back: two lists of m words, in new memory, and a code. -/
def SpecU (m : Nat) (lR lI : List Nat) (er : Int) (w : World) (e : Ending) (w' : World) : Prop := ∃ A1 c1 A2 c2, e = .returned (.tuple #[.slice A1 m c1, .slice A2 m c2, .int .i64 er]) ∧ Two w A1 m c1 lR A2 m c2 lI w'
def PowU (p : Nat) (er : Int) (w : World) (e : Ending) (w' : World) : Prop := e = .returned (.tuple #[.int .u64 p, .int .i64 er]) ∧ Below w.heap.size w w'
structure SpecsOf (xs : List Nat) (n m : Nat) (lR lI : List Nat) (er : Int) (p : Nat) : Prop where
  small : m ≤ 8
  rspec : ∀ A c B w, Rd w B 1 A (wrdC xs) → B ≤ w.heap.size → Calls Tryz.prog 20 #[.slice A n c] w (SpecU m lR lI er w)
  spec : ∀ A c B w, Rd w B 1 A (wrdC xs) → B ≤ w.heap.size → Calls Tryz.prog 23 #[.slice A n c] w (SpecU m lR lI er w)
  rpow : ∀ A c B w, Rd w B 1 A (wrdC xs) → B ≤ w.heap.size → Calls Tryz.prog 21 #[.slice A n c] w (PowU p er w)
  pow : ∀ A c B w, Rd w B 1 A (wrdC xs) → B ≤ w.heap.size → Calls Tryz.prog 24 #[.slice A n c] w (PowU p er w)
theorem specs_of (xs : List Nat) {n : Nat} (hl : xs.length = n) : ∃ m lR lI er p, SpecsOf xs n m lR lI er p := by
  by_cases hn : sizeN n
  · exact ⟨n, specR xs n n, specI xs n n, 0, powerV xs n, size_le hn,
      fun A c B w hr hB => rspectrum_any xs A n c B w hn hl hr hB, fun A c B w hr hB => spectrum_any xs A n c B w hn hl hr hB,
      fun A c B w hr hB => rpower_any xs A n c B w hn hl hr hB, fun A c B w hr hB => power_any xs A n c B w hn hl hr hB⟩
  · refine ⟨0, [], [], 210, 0, by omega, fun A c B w _ _ => ?_, fun A c B w _ _ => ?_, fun A c B w _ _ => ?_, fun A c B w _ _ => ?_⟩
    · refine (rspectrum_no A n c w hn).mono ?_
      rintro e w' ⟨rfl, rfl⟩
      exact ⟨none, 0, none, 0, rfl, Two.start w⟩
    · refine (spectrum_no A n c w hn).mono ?_
      rintro e w' ⟨rfl, rfl⟩
      exact ⟨none, 0, none, 0, rfl, Two.start w⟩
    · refine (rpower_no A n c w hn).mono ?_
      rintro e w' ⟨rfl, rfl⟩
      exact ⟨rfl, Below.refl _ _⟩
    · refine (power_no A n c w hn).mono ?_
      rintro e w' ⟨rfl, rfl⟩
      exact ⟨rfl, Below.refl _ _⟩
end Go.Proofs.YtbnpleihhbpnlaaGreatDoor
