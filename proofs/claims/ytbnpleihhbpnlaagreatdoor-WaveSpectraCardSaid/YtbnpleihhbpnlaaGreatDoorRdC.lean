/- The cells of a row of words. -/
import Derived.Test.YtbnpleihhbpnlaaGreatDoorWavG
namespace Go.Proofs.YtbnpleihhbpnlaaGreatDoor
open Go.RowKit

/-- The cells of a row of words. -/
theorem rd_cells {w : World} {B : Nat} {A : Option Addr} {l : List Nat} (h : Rd w B 1 A (wrdC l)) (hl : 0 < l.length) : ∃ b o, A = some ⟨b, o, none⟩ ∧ b < B ∧ ∀ (j x : Nat), l[j]? = some x → w.cell? ⟨b, o + j, none⟩ = some (.int .u64 (x : Int)) := by
  obtain ⟨x, hx⟩ : ∃ x, l[0]? = some x := ⟨_, List.getElem?_eq_getElem hl⟩
  obtain ⟨b, o, hA, hb, _⟩ := h.at1 (wrdC_at hx)
  refine ⟨b, o, hA, hb, fun j y hy => ?_⟩
  obtain ⟨b2, o2, hA2, _, hc⟩ := h.at1 (wrdC_at hy)
  rw [hA] at hA2
  injection hA2 with hA2
  injection hA2 with e1 e2
  subst e1 e2
  exact hc
end Go.Proofs.YtbnpleihhbpnlaaGreatDoor
