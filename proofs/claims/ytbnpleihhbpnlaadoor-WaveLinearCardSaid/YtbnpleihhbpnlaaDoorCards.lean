/-
  DERIVED. GIVEN WITH THE SEED: THE CARDS: each row of YtbnpleihhbpnlaaDoorRows.lean that lists a variable, with what it lists TIED to the program's text (the seventh form; the later family's looks); each row that meets fmt, with fmt's text TOLD by the authors' own Lean function (tested against real Go, not proved from fmt's source: count such statements apart). THE CARD IS WHAT COUNTS. Prove the row's statement (the work); the ties are given (YtbnpleihhbpnlaaDoorTie.lean); close each card by the builder's one call (the guide's Derived/Test/ToyasCard.lean, 'card_holds'). Laid BY PROGRAM, IN A SANDBOX (cutbox-door.mjs). By AI agents, Wed Nov 11 2026. No macro, syntax, notation, axiom, sorry.
-/
import Derived.Test.YtbnpleihhbpnlaaDoorRows
import GoSem.ClaimSeven
namespace Go.Proofs.YtbnpleihhbpnlaaDoor
namespace Rows

/-- THE TIED CARD OF 'tidewracklaw21.WaveSums'. -/
def waveSumsCard : Claim7 := { stood := { row := waveSumsRow, standIns := [], harness := (true, "494a60375993306e51f633d3333621068ea1bfa348986a30125ab32b1e94cc19"), looks := true }, kinds := [], alts := [], laidByText := true, laidKinds := [.data, .data, .widerDeep, .widerDeep, .data, .data, .data, .data, .data, .sentinel, .sentinel, .pinned, .pinned], laidTests := true, laidLooks := .later }
def WaveSumsCardSaid : Prop := Claim7.holds Tryd.pinned (.plain (OpenSpec.ofChange waveSumsSpec)) waveSumsCard

/-- THE TIED CARD OF 'tidewracklaw21.WaveOrders'. -/
def waveOrdersCard : Claim7 := { stood := { row := waveOrdersRow, standIns := [], harness := (true, "494a60375993306e51f633d3333621068ea1bfa348986a30125ab32b1e94cc19"), looks := true }, kinds := [], alts := [], laidByText := true, laidKinds := [.data, .data, .widerDeep, .widerDeep, .data, .data, .data, .data, .data, .sentinel, .sentinel, .pinned, .pinned], laidTests := true, laidLooks := .later }
def WaveOrdersCardSaid : Prop := Claim7.holds Tryd.pinned (.plain (OpenSpec.ofChange waveOrdersSpec)) waveOrdersCard

/-- THE TIED CARD OF 'tidewracklaw21.WaveSigns'. -/
def waveSignsCard : Claim7 := { stood := { row := waveSignsRow, standIns := [], harness := (true, "494a60375993306e51f633d3333621068ea1bfa348986a30125ab32b1e94cc19"), looks := true }, kinds := [], alts := [], laidByText := true, laidKinds := [.data, .data, .widerDeep, .widerDeep, .data, .data, .data, .data, .data, .sentinel, .sentinel, .pinned, .pinned], laidTests := true, laidLooks := .later }
def WaveSignsCardSaid : Prop := Claim7.holds Tryd.pinned (.plain (OpenSpec.ofChange waveSignsSpec)) waveSignsCard

/-- THE TIED CARD OF 'tidewracklaw21.WaveLinear'. -/
def waveLinearCard : Claim7 := { stood := { row := waveLinearRow, standIns := [], harness := (true, "494a60375993306e51f633d3333621068ea1bfa348986a30125ab32b1e94cc19"), looks := true }, kinds := [], alts := [], laidByText := true, laidKinds := [.data, .data, .widerDeep, .widerDeep, .data, .data, .data, .data, .data, .sentinel, .sentinel, .pinned, .pinned], laidTests := true, laidLooks := .later }
def WaveLinearCardSaid : Prop := Claim7.holds Tryd.pinned (.plain (OpenSpec.ofChange waveLinearSpec)) waveLinearCard

/-- THE SECOND FORM's CARD OF 'tidewracklaw21.WaveSums'. -/
def waveSumsUptoCard : Claim7 := { stood := { row := waveSumsUptoRow, standIns := [], harness := (true, "494a60375993306e51f633d3333621068ea1bfa348986a30125ab32b1e94cc19"), looks := true }, kinds := [], alts := [], laidByText := true, laidKinds := [.data, .data, .widerDeep, .widerDeep, .data, .data, .data, .data, .data, .sentinel, .sentinel, .pinned, .pinned], laidTests := true, laidLooks := .later }
def WaveSumsUptoCardSaid : Prop := Claim7.holds Tryd.pinned (.plain (OpenSpec.upto waveSumsSpec)) waveSumsUptoCard

/-- THE SECOND FORM's CARD OF 'tidewracklaw21.WaveOrders'. -/
def waveOrdersUptoCard : Claim7 := { stood := { row := waveOrdersUptoRow, standIns := [], harness := (true, "494a60375993306e51f633d3333621068ea1bfa348986a30125ab32b1e94cc19"), looks := true }, kinds := [], alts := [], laidByText := true, laidKinds := [.data, .data, .widerDeep, .widerDeep, .data, .data, .data, .data, .data, .sentinel, .sentinel, .pinned, .pinned], laidTests := true, laidLooks := .later }
def WaveOrdersUptoCardSaid : Prop := Claim7.holds Tryd.pinned (.plain (OpenSpec.upto waveOrdersSpec)) waveOrdersUptoCard

/-- THE SECOND FORM's CARD OF 'tidewracklaw21.WaveSigns'. -/
def waveSignsUptoCard : Claim7 := { stood := { row := waveSignsUptoRow, standIns := [], harness := (true, "494a60375993306e51f633d3333621068ea1bfa348986a30125ab32b1e94cc19"), looks := true }, kinds := [], alts := [], laidByText := true, laidKinds := [.data, .data, .widerDeep, .widerDeep, .data, .data, .data, .data, .data, .sentinel, .sentinel, .pinned, .pinned], laidTests := true, laidLooks := .later }
def WaveSignsUptoCardSaid : Prop := Claim7.holds Tryd.pinned (.plain (OpenSpec.upto waveSignsSpec)) waveSignsUptoCard

/-- THE SECOND FORM's CARD OF 'tidewracklaw21.WaveLinear'. -/
def waveLinearUptoCard : Claim7 := { stood := { row := waveLinearUptoRow, standIns := [], harness := (true, "494a60375993306e51f633d3333621068ea1bfa348986a30125ab32b1e94cc19"), looks := true }, kinds := [], alts := [], laidByText := true, laidKinds := [.data, .data, .widerDeep, .widerDeep, .data, .data, .data, .data, .data, .sentinel, .sentinel, .pinned, .pinned], laidTests := true, laidLooks := .later }
def WaveLinearUptoCardSaid : Prop := Claim7.holds Tryd.pinned (.plain (OpenSpec.upto waveLinearSpec)) waveLinearUptoCard
end Rows
end Go.Proofs.YtbnpleihhbpnlaaDoor
