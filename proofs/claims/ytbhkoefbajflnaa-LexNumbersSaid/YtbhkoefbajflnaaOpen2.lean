/- What an argument reads as: texts within reach, lists of bytes. -/
import Derived.Test.YtbhkoefbajflnaaOpen
import Derived.Test.YtbhkoefbajflnaaRows
namespace Go.Proofs.Ytbhkoefbajflnaa
open Go.ChangeShapes Go.WideShapes Go.ChangeAt Go.RowKit

theorem Try.own : ownKnob Try.prog.godebug = none := by kernel_rfl
theorem Try.laidOut : laidOutB Try.prog = true := by kernel_rfl
theorem reach_val : reachBytes = 140737488351232 := by decide +kernel
theorem le_reach {n : Nat} (h : n ≤ reachBytes) : n ≤ 140737488351232 := reach_val ▸ h
section
variable {H : Type} {enc : TypeId × Value → H} {P : Program} {w : World}
theorem got_stringF {t : TypeId} {v : Value} {d : DataW H} (ht : P.underlying t = some .string) (h : Got enc P w t [v] d) (hf : Fits P t d) : ∃ s : ByteArray, v = .string s ∧ s.size ≤ reachBytes := by
  obtain ⟨fuel, ps, hg⟩ := h
  obtain ⟨s, hs, hd, hm⟩ := DataW.trod_string ht hg
  refine ⟨s, by simpa using hs, ?_⟩
  simp only [Prod.mk.injEq] at hd
  have := hf s.size (by rw [hd.1]; simp [DataW.weights])
  exact this
end
end Go.Proofs.Ytbhkoefbajflnaa
