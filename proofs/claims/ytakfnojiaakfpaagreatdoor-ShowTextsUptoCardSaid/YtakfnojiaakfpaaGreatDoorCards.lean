/-
  DERIVED. GIVEN WITH THE SEED: THE CARDS: each row of YtakfnojiaakfpaaGreatDoorRows.lean that lists a variable, with what it lists TIED to the program's text (the seventh form; the later family's looks); each row that meets fmt, with fmt's text TOLD by the authors' own Lean function (tested against real Go, not proved from fmt's source: count such statements apart). THE CARD IS WHAT COUNTS. Prove the row's statement (the work); the ties are given (YtakfnojiaakfpaaGreatDoorTie.lean); close each card by the builder's one call (the guide's Derived/Test/ToyasCard.lean, 'card_holds'). Laid BY PROGRAM, IN A SANDBOX (cutbox-door.mjs). By AI agents, Wed Nov 11 2026. No macro, syntax, notation, axiom, sorry.
-/
import Derived.Test.YtakfnojiaakfpaaGreatDoorRows
import GoSem.ClaimSeven
namespace Go.Proofs.YtakfnojiaakfpaaGreatDoor
namespace Rows

/-- THE TIED CARD OF 'tidewracklaw20.ShowTexts'. -/
def showTextsCard : Claim7 := { stood := { row := showTextsRow, standIns := [], harness := (true, "59dd3e911ded15acaeabe4eb8a2723b63e6753314f55ade13bbd2619ce500a20"), looks := true }, kinds := [], alts := [], laidByText := true, laidKinds := [.data, .data, .data], laidTests := true, laidLooks := .later }
def ShowTextsCardSaid : Prop := Claim7.holds Tryz.pinned (.plain (OpenSpec.ofChange showTextsSpec)) showTextsCard

/-- THE TIED CARD OF 'tidewracklaw20.ShowApart'. -/
def showApartCard : Claim7 := { stood := { row := showApartRow, standIns := [], harness := (true, "59dd3e911ded15acaeabe4eb8a2723b63e6753314f55ade13bbd2619ce500a20"), looks := true }, kinds := [], alts := [], laidByText := true, laidKinds := [.data, .data, .data], laidTests := true, laidLooks := .later }
def ShowApartCardSaid : Prop := Claim7.holds Tryz.pinned (.plain (OpenSpec.ofChange showApartSpec)) showApartCard

/-- THE TIED CARD OF 'tidewracklaw20.ShowBack'. -/
def showBackCard : Claim7 := { stood := { row := showBackRow, standIns := [], harness := (true, "59dd3e911ded15acaeabe4eb8a2723b63e6753314f55ade13bbd2619ce500a20"), looks := true }, kinds := [], alts := [], laidByText := true, laidKinds := [.data, .data, .data], laidTests := true, laidLooks := .later }
def ShowBackCardSaid : Prop := Claim7.holds Tryz.pinned (.plain (OpenSpec.ofChange showBackSpec)) showBackCard

/-- THE TIED CARD OF 'tidewracklaw20.ShowSources'. -/
def showSourcesCard : Claim7 := { stood := { row := showSourcesRow, standIns := [], harness := (true, "59dd3e911ded15acaeabe4eb8a2723b63e6753314f55ade13bbd2619ce500a20"), looks := true }, kinds := [], alts := [], laidByText := true, laidKinds := [.data, .data, .data], laidTests := true, laidLooks := .later }
def ShowSourcesCardSaid : Prop := Claim7.holds Tryz.pinned (.plain (OpenSpec.ofChange showSourcesSpec)) showSourcesCard

/-- THE TIED CARD OF 'tidewracklaw20.ShowNeeds'. -/
def showNeedsCard : Claim7 := { stood := { row := showNeedsRow, standIns := [], harness := (true, "59dd3e911ded15acaeabe4eb8a2723b63e6753314f55ade13bbd2619ce500a20"), looks := true }, kinds := [], alts := [], laidByText := true, laidKinds := [.data, .data, .data], laidTests := true, laidLooks := .later }
def ShowNeedsCardSaid : Prop := Claim7.holds Tryz.pinned (.plain (OpenSpec.ofChange showNeedsSpec)) showNeedsCard

/-- THE TIED CARD OF 'tidewracklaw20.ShowSpans'. -/
def showSpansCard : Claim7 := { stood := { row := showSpansRow, standIns := [], harness := (true, "59dd3e911ded15acaeabe4eb8a2723b63e6753314f55ade13bbd2619ce500a20"), looks := true }, kinds := [], alts := [], laidByText := true, laidKinds := [.data, .data, .data], laidTests := true, laidLooks := .later }
def ShowSpansCardSaid : Prop := Claim7.holds Tryz.pinned (.plain (OpenSpec.ofChange showSpansSpec)) showSpansCard

/-- THE SECOND FORM's CARD OF 'tidewracklaw20.ShowTexts'. -/
def showTextsUptoCard : Claim7 := { stood := { row := showTextsUptoRow, standIns := [], harness := (true, "59dd3e911ded15acaeabe4eb8a2723b63e6753314f55ade13bbd2619ce500a20"), looks := true }, kinds := [], alts := [], laidByText := true, laidKinds := [.data, .data, .data], laidTests := true, laidLooks := .later }
def ShowTextsUptoCardSaid : Prop := Claim7.holds Tryz.pinned (.plain (OpenSpec.upto showTextsSpec)) showTextsUptoCard

/-- THE SECOND FORM's CARD OF 'tidewracklaw20.ShowApart'. -/
def showApartUptoCard : Claim7 := { stood := { row := showApartUptoRow, standIns := [], harness := (true, "59dd3e911ded15acaeabe4eb8a2723b63e6753314f55ade13bbd2619ce500a20"), looks := true }, kinds := [], alts := [], laidByText := true, laidKinds := [.data, .data, .data], laidTests := true, laidLooks := .later }
def ShowApartUptoCardSaid : Prop := Claim7.holds Tryz.pinned (.plain (OpenSpec.upto showApartSpec)) showApartUptoCard

/-- THE SECOND FORM's CARD OF 'tidewracklaw20.ShowBack'. -/
def showBackUptoCard : Claim7 := { stood := { row := showBackUptoRow, standIns := [], harness := (true, "59dd3e911ded15acaeabe4eb8a2723b63e6753314f55ade13bbd2619ce500a20"), looks := true }, kinds := [], alts := [], laidByText := true, laidKinds := [.data, .data, .data], laidTests := true, laidLooks := .later }
def ShowBackUptoCardSaid : Prop := Claim7.holds Tryz.pinned (.plain (OpenSpec.upto showBackSpec)) showBackUptoCard

/-- THE SECOND FORM's CARD OF 'tidewracklaw20.ShowSources'. -/
def showSourcesUptoCard : Claim7 := { stood := { row := showSourcesUptoRow, standIns := [], harness := (true, "59dd3e911ded15acaeabe4eb8a2723b63e6753314f55ade13bbd2619ce500a20"), looks := true }, kinds := [], alts := [], laidByText := true, laidKinds := [.data, .data, .data], laidTests := true, laidLooks := .later }
def ShowSourcesUptoCardSaid : Prop := Claim7.holds Tryz.pinned (.plain (OpenSpec.upto showSourcesSpec)) showSourcesUptoCard

/-- THE SECOND FORM's CARD OF 'tidewracklaw20.ShowNeeds'. -/
def showNeedsUptoCard : Claim7 := { stood := { row := showNeedsUptoRow, standIns := [], harness := (true, "59dd3e911ded15acaeabe4eb8a2723b63e6753314f55ade13bbd2619ce500a20"), looks := true }, kinds := [], alts := [], laidByText := true, laidKinds := [.data, .data, .data], laidTests := true, laidLooks := .later }
def ShowNeedsUptoCardSaid : Prop := Claim7.holds Tryz.pinned (.plain (OpenSpec.upto showNeedsSpec)) showNeedsUptoCard

/-- THE SECOND FORM's CARD OF 'tidewracklaw20.ShowSpans'. -/
def showSpansUptoCard : Claim7 := { stood := { row := showSpansUptoRow, standIns := [], harness := (true, "59dd3e911ded15acaeabe4eb8a2723b63e6753314f55ade13bbd2619ce500a20"), looks := true }, kinds := [], alts := [], laidByText := true, laidKinds := [.data, .data, .data], laidTests := true, laidLooks := .later }
def ShowSpansUptoCardSaid : Prop := Claim7.holds Tryz.pinned (.plain (OpenSpec.upto showSpansSpec)) showSpansUptoCard
end Rows
end Go.Proofs.YtakfnojiaakfpaaGreatDoor
