/-
  DERIVED. GIVEN WITH THE SEED: THE CARDS: each row of YtbnpleihhbpnlaaGreatDoorRows.lean that lists a variable, with what it lists TIED to the program's text (the seventh form; the later family's looks); each row that meets fmt, with fmt's text TOLD by the authors' own Lean function (tested against real Go, not proved from fmt's source: count such statements apart). THE CARD IS WHAT COUNTS. Prove the row's statement (the work); the ties are given (YtbnpleihhbpnlaaGreatDoorTie.lean); close each card by the builder's one call (the guide's Derived/Test/ToyasCard.lean, 'card_holds'). Laid BY PROGRAM, IN A SANDBOX (cutbox-door.mjs). By AI agents, Wed Nov 11 2026. No macro, syntax, notation, axiom, sorry.
-/
import Derived.Test.YtbnpleihhbpnlaaGreatDoorRows
import GoSem.ClaimSeven
namespace Go.Proofs.YtbnpleihhbpnlaaGreatDoor
namespace Rows

/-- THE TIED CARD OF 'tidewracklaw21.WaveArith'. -/
def waveArithCard : Claim7 := { stood := { row := waveArithRow, standIns := [], harness := (true, "09e1079651da75cbc59acb7749534b188503728f4bfb3cc366cb27c7cd6daede"), looks := true }, kinds := [], alts := [], laidByText := true, laidKinds := [.data, .data, .widerDeep, .widerDeep, .data, .data, .data, .data, .data, .sentinel, .sentinel, .pinned, .pinned], laidTests := true, laidLooks := .later }
def WaveArithCardSaid : Prop := Claim7.holds Tryz.pinned (.plain (OpenSpec.ofChange waveArithSpec)) waveArithCard

/-- THE TIED CARD OF 'tidewracklaw21.WaveNumbers'. -/
def waveNumbersCard : Claim7 := { stood := { row := waveNumbersRow, standIns := [], harness := (true, "09e1079651da75cbc59acb7749534b188503728f4bfb3cc366cb27c7cd6daede"), looks := true }, kinds := [], alts := [], laidByText := true, laidKinds := [.data, .data, .widerDeep, .widerDeep, .data, .data, .data, .data, .data, .sentinel, .sentinel, .pinned, .pinned], laidTests := true, laidLooks := .later }
def WaveNumbersCardSaid : Prop := Claim7.holds Tryz.pinned (.plain (OpenSpec.ofChange waveNumbersSpec)) waveNumbersCard

/-- THE TIED CARD OF 'tidewracklaw21.WaveSpectra'. -/
def waveSpectraCard : Claim7 := { stood := { row := waveSpectraRow, standIns := [], harness := (true, "09e1079651da75cbc59acb7749534b188503728f4bfb3cc366cb27c7cd6daede"), looks := true }, kinds := [], alts := [], laidByText := true, laidKinds := [.data, .data, .widerDeep, .widerDeep, .data, .data, .data, .data, .data, .sentinel, .sentinel, .pinned, .pinned], laidTests := true, laidLooks := .later }
def WaveSpectraCardSaid : Prop := Claim7.holds Tryz.pinned (.plain (OpenSpec.ofChange waveSpectraSpec)) waveSpectraCard

/-- THE SECOND FORM's CARD OF 'tidewracklaw21.WaveArith'. -/
def waveArithUptoCard : Claim7 := { stood := { row := waveArithUptoRow, standIns := [], harness := (true, "09e1079651da75cbc59acb7749534b188503728f4bfb3cc366cb27c7cd6daede"), looks := true }, kinds := [], alts := [], laidByText := true, laidKinds := [.data, .data, .widerDeep, .widerDeep, .data, .data, .data, .data, .data, .sentinel, .sentinel, .pinned, .pinned], laidTests := true, laidLooks := .later }
def WaveArithUptoCardSaid : Prop := Claim7.holds Tryz.pinned (.plain (OpenSpec.upto waveArithSpec)) waveArithUptoCard

/-- THE SECOND FORM's CARD OF 'tidewracklaw21.WaveNumbers'. -/
def waveNumbersUptoCard : Claim7 := { stood := { row := waveNumbersUptoRow, standIns := [], harness := (true, "09e1079651da75cbc59acb7749534b188503728f4bfb3cc366cb27c7cd6daede"), looks := true }, kinds := [], alts := [], laidByText := true, laidKinds := [.data, .data, .widerDeep, .widerDeep, .data, .data, .data, .data, .data, .sentinel, .sentinel, .pinned, .pinned], laidTests := true, laidLooks := .later }
def WaveNumbersUptoCardSaid : Prop := Claim7.holds Tryz.pinned (.plain (OpenSpec.upto waveNumbersSpec)) waveNumbersUptoCard

/-- THE SECOND FORM's CARD OF 'tidewracklaw21.WaveSpectra'. -/
def waveSpectraUptoCard : Claim7 := { stood := { row := waveSpectraUptoRow, standIns := [], harness := (true, "09e1079651da75cbc59acb7749534b188503728f4bfb3cc366cb27c7cd6daede"), looks := true }, kinds := [], alts := [], laidByText := true, laidKinds := [.data, .data, .widerDeep, .widerDeep, .data, .data, .data, .data, .data, .sentinel, .sentinel, .pinned, .pinned], laidTests := true, laidLooks := .later }
def WaveSpectraUptoCardSaid : Prop := Claim7.holds Tryz.pinned (.plain (OpenSpec.upto waveSpectraSpec)) waveSpectraUptoCard
end Rows
end Go.Proofs.YtbnpleihhbpnlaaGreatDoor
