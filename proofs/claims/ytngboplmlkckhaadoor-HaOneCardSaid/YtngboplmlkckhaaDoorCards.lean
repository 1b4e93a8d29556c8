/-
  DERIVED. GIVEN WITH THE SEED: THE CARDS: each row of YtngboplmlkckhaaDoorRows.lean that lists a variable, with what it lists TIED to the program's text (the seventh form; the later family's looks); each row that meets fmt, with fmt's text TOLD by the authors' own Lean function (tested against real Go, not proved from fmt's source: count such statements apart). THE CARD IS WHAT COUNTS. Prove the row's statement (the work); the ties are given (YtngboplmlkckhaaDoorTie.lean); close each card by the builder's one call (the guide's Derived/Test/ToyasCard.lean, 'card_holds'). Laid BY PROGRAM, IN A SANDBOX (cutbox-door.mjs). By AI agents, Wed Nov 11 2026. No macro, syntax, notation, axiom, sorry.
-/
import Derived.Test.YtngboplmlkckhaaDoorRows
import GoSem.ClaimSeven
namespace Go.Proofs.YtngboplmlkckhaaDoor
namespace Rows

/-- THE TIED CARD OF 'tidewracklaw16.HaDecides'. -/
def haDecidesCard : Claim7 := { stood := { row := haDecidesRow, standIns := [], harness := (true, "bb1b2b35530010a64b6018a4540c4779c193fd1144b9882eff42913a64984080"), looks := false }, kinds := [], alts := [], laidByText := true, laidKinds := [.data, .data, .data], laidTests := true, laidLooks := .later }
def HaDecidesCardSaid : Prop := Claim7.holds Tryd.pinned (.plain (OpenSpec.ofChange haDecidesSpec)) haDecidesCard

/-- THE TIED CARD OF 'tidewracklaw16.HaOne'. -/
def haOneCard : Claim7 := { stood := { row := haOneRow, standIns := [], harness := (true, "bb1b2b35530010a64b6018a4540c4779c193fd1144b9882eff42913a64984080"), looks := false }, kinds := [], alts := [], laidByText := true, laidKinds := [.data, .data, .data], laidTests := true, laidLooks := .later }
def HaOneCardSaid : Prop := Claim7.holds Tryd.pinned (.plain (OpenSpec.ofChange haOneSpec)) haOneCard

/-- THE TIED CARD OF 'tidewracklaw16.HaKeys'. -/
def haKeysCard : Claim7 := { stood := { row := haKeysRow, standIns := [], harness := (true, "bb1b2b35530010a64b6018a4540c4779c193fd1144b9882eff42913a64984080"), looks := false }, kinds := [], alts := [], laidByText := true, laidKinds := [.data, .data, .data], laidTests := true, laidLooks := .later }
def HaKeysCardSaid : Prop := Claim7.holds Tryd.pinned (.plain (OpenSpec.ofChange haKeysSpec)) haKeysCard

/-- THE SECOND FORM's CARD OF 'tidewracklaw16.HaDecides'. -/
def haDecidesUptoCard : Claim7 := { stood := { row := haDecidesUptoRow, standIns := [], harness := (true, "bb1b2b35530010a64b6018a4540c4779c193fd1144b9882eff42913a64984080"), looks := false }, kinds := [], alts := [], laidByText := true, laidKinds := [.data, .data, .data], laidTests := true, laidLooks := .later }
def HaDecidesUptoCardSaid : Prop := Claim7.holds Tryd.pinned (.plain (OpenSpec.upto haDecidesSpec)) haDecidesUptoCard

/-- THE SECOND FORM's CARD OF 'tidewracklaw16.HaOne'. -/
def haOneUptoCard : Claim7 := { stood := { row := haOneUptoRow, standIns := [], harness := (true, "bb1b2b35530010a64b6018a4540c4779c193fd1144b9882eff42913a64984080"), looks := false }, kinds := [], alts := [], laidByText := true, laidKinds := [.data, .data, .data], laidTests := true, laidLooks := .later }
def HaOneUptoCardSaid : Prop := Claim7.holds Tryd.pinned (.plain (OpenSpec.upto haOneSpec)) haOneUptoCard

/-- THE SECOND FORM's CARD OF 'tidewracklaw16.HaKeys'. -/
def haKeysUptoCard : Claim7 := { stood := { row := haKeysUptoRow, standIns := [], harness := (true, "bb1b2b35530010a64b6018a4540c4779c193fd1144b9882eff42913a64984080"), looks := false }, kinds := [], alts := [], laidByText := true, laidKinds := [.data, .data, .data], laidTests := true, laidLooks := .later }
def HaKeysUptoCardSaid : Prop := Claim7.holds Tryd.pinned (.plain (OpenSpec.upto haKeysSpec)) haKeysUptoCard
end Rows
end Go.Proofs.YtngboplmlkckhaaDoor
