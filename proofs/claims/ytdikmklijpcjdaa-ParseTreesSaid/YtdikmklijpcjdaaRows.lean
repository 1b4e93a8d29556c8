/-
  No cell of these rows narrows 'for every input' (looked for: loops, veiled, ifaces, maps, wideKeys, modest, calm, conditions, laid).
  DERIVED. THE GIVEN ROWS OF THIS SEAT. 6 by the template 'for every input the law returns true; each argument reads behind the call as it read before'; 0 by the template 'total and deterministic' (their statements: YtdikmklijpcjdaaTotals.lean).
  GIVEN WITH THE SEED: the statements are not yours to turn. If you find one false, say at which input.
  Laid BY PROGRAM, IN A SANDBOX (cutbox-rows.mjs): the forced cells as the released guide's own fill.sh prints them over the translation 6546f8b3ba1c382f… (all of the seat's roots in one cut). By AI agents, Wed Nov 11 2026. No macro, syntax, notation, axiom, sorry.
-/
import Derived.Test.YtdikmklijpcjdaaChecked
import GoSem.Claim
import GoSem.ClaimJoined
import GoSem.ClaimMapViews
import Derived.JoinedTies
import Derived.KernelRfl
namespace Go.Proofs.Ytdikmklijpcjdaa
/- THE CELL 'sum', in the pinned program and in every row, IS THE sha256 OF THE DUMP (.gsa) THAT YtdikmklijpcjdaaProg.lean LOADS. Nothing in Lean hashes anything: it is a label: what it is worth is what the hold of that sum in a sandbox is worth. -/
noncomputable def Try.pinned : Pinned := { name := "ytdikmklijpcjdaa", sum := "6546f8b3ba1c382fcd78b6a7e9e20b0c6b389b53674a08514aaa1bb901e842eb", checked := Try.checked }
namespace Rows
def none {H : Type} : Left H := { results := [], args := [] }

/-- 'tidewracklaw18.ParseTrees': WHATEVER THE INPUT: true; the input reads as it did. -/
def parseTreesSpec : ChangeSpec := { name := "parseTrees", fn := fun _ => fun
  | [d] => { results := [.lit (.bool true)], args := [d] }
  | _ => none }
def parseTreesRow : OpenClaim := { program := "ytdikmklijpcjdaa", sum := "6546f8b3ba1c382fcd78b6a7e9e20b0c6b389b53674a08514aaa1bb901e842eb", func := "tidewrack/tidewracklaw18.ParseTrees", spec := "parseTrees", inPlace := ["internal/bytealg.IndexByteString"], unfollowed := true, recurses := true, apart := false }
def ParseTreesSaid : Prop := parseTreesRow.holds Try.pinned (OpenSpec.ofChange parseTreesSpec)

/-- ITS FALSE NEIGHBOUR: 'it returns false'. Refute it at one input. -/
def parseTreesWrong : ChangeSpec := { name := "parseTrees", fn := fun _ => fun
  | [d] => { results := [.lit (.bool false)], args := [d] }
  | _ => none }
def ParseTreesWrongFalsely : Prop := parseTreesRow.holds Try.pinned (OpenSpec.ofChange parseTreesWrong)

/-- 'tidewracklaw18.ParseTotal': WHATEVER THE INPUT: true; the input reads as it did. -/
def parseTotalSpec : ChangeSpec := { name := "parseTotal", fn := fun _ => fun
  | [d] => { results := [.lit (.bool true)], args := [d] }
  | _ => none }
def parseTotalRow : OpenClaim := { program := "ytdikmklijpcjdaa", sum := "6546f8b3ba1c382fcd78b6a7e9e20b0c6b389b53674a08514aaa1bb901e842eb", func := "tidewrack/tidewracklaw18.ParseTotal", spec := "parseTotal", inPlace := ["internal/bytealg.IndexByteString"], unfollowed := true, recurses := true, apart := false }
def ParseTotalSaid : Prop := parseTotalRow.holds Try.pinned (OpenSpec.ofChange parseTotalSpec)

/-- ITS FALSE NEIGHBOUR: 'it returns false'. Refute it at one input. -/
def parseTotalWrong : ChangeSpec := { name := "parseTotal", fn := fun _ => fun
  | [d] => { results := [.lit (.bool false)], args := [d] }
  | _ => none }
def ParseTotalWrongFalsely : Prop := parseTotalRow.holds Try.pinned (OpenSpec.ofChange parseTotalWrong)

/-- 'tidewracklaw18.ParseBrackets': WHATEVER THE INPUT: true; the input reads as it did. -/
def parseBracketsSpec : ChangeSpec := { name := "parseBrackets", fn := fun _ => fun
  | [d1, d2] => { results := [.lit (.bool true)], args := [d1, d2] }
  | _ => none }
def parseBracketsRow : OpenClaim := { program := "ytdikmklijpcjdaa", sum := "6546f8b3ba1c382fcd78b6a7e9e20b0c6b389b53674a08514aaa1bb901e842eb", func := "tidewrack/tidewracklaw18.ParseBrackets", spec := "parseBrackets", inPlace := ["internal/bytealg.IndexByteString"], unfollowed := true, recurses := true, apart := false }
def ParseBracketsSaid : Prop := parseBracketsRow.holds Try.pinned (OpenSpec.ofChange parseBracketsSpec)

/-- ITS FALSE NEIGHBOUR: 'it returns false'. Refute it at one input. -/
def parseBracketsWrong : ChangeSpec := { name := "parseBrackets", fn := fun _ => fun
  | [d1, d2] => { results := [.lit (.bool false)], args := [d1, d2] }
  | _ => none }
def ParseBracketsWrongFalsely : Prop := parseBracketsRow.holds Try.pinned (OpenSpec.ofChange parseBracketsWrong)

/-- 'tidewracklaw18.ParseBins': WHATEVER THE INPUT: true; the input reads as it did. -/
def parseBinsSpec : ChangeSpec := { name := "parseBins", fn := fun _ => fun
  | [d1, d2, d3, d4] => { results := [.lit (.bool true)], args := [d1, d2, d3, d4] }
  | _ => none }
def parseBinsRow : OpenClaim := { program := "ytdikmklijpcjdaa", sum := "6546f8b3ba1c382fcd78b6a7e9e20b0c6b389b53674a08514aaa1bb901e842eb", func := "tidewrack/tidewracklaw18.ParseBins", spec := "parseBins", inPlace := ["internal/bytealg.IndexByteString"], unfollowed := true, recurses := true, apart := false }
def ParseBinsSaid : Prop := parseBinsRow.holds Try.pinned (OpenSpec.ofChange parseBinsSpec)

/-- ITS FALSE NEIGHBOUR: 'it returns false'. Refute it at one input. -/
def parseBinsWrong : ChangeSpec := { name := "parseBins", fn := fun _ => fun
  | [d1, d2, d3, d4] => { results := [.lit (.bool false)], args := [d1, d2, d3, d4] }
  | _ => none }
def ParseBinsWrongFalsely : Prop := parseBinsRow.holds Try.pinned (OpenSpec.ofChange parseBinsWrong)

/-- 'tidewracklaw18.ParseRows': WHATEVER THE INPUT: true; the input reads as it did. -/
def parseRowsSpec : ChangeSpec := { name := "parseRows", fn := fun _ => fun
  | [d1, d2] => { results := [.lit (.bool true)], args := [d1, d2] }
  | _ => none }
def parseRowsRow : OpenClaim := { program := "ytdikmklijpcjdaa", sum := "6546f8b3ba1c382fcd78b6a7e9e20b0c6b389b53674a08514aaa1bb901e842eb", func := "tidewrack/tidewracklaw18.ParseRows", spec := "parseRows", inPlace := ["internal/bytealg.IndexByteString"], unfollowed := true, recurses := true, apart := false }
def ParseRowsSaid : Prop := parseRowsRow.holds Try.pinned (OpenSpec.ofChange parseRowsSpec)

/-- ITS FALSE NEIGHBOUR: 'it returns false'. Refute it at one input. -/
def parseRowsWrong : ChangeSpec := { name := "parseRows", fn := fun _ => fun
  | [d1, d2] => { results := [.lit (.bool false)], args := [d1, d2] }
  | _ => none }
def ParseRowsWrongFalsely : Prop := parseRowsRow.holds Try.pinned (OpenSpec.ofChange parseRowsWrong)

/-- 'tidewracklaw18.ParseSelects': WHATEVER THE INPUT: true; the input reads as it did. -/
def parseSelectsSpec : ChangeSpec := { name := "parseSelects", fn := fun _ => fun
  | [d1, d2, d3, d4, d5] => { results := [.lit (.bool true)], args := [d1, d2, d3, d4, d5] }
  | _ => none }
def parseSelectsRow : OpenClaim := { program := "ytdikmklijpcjdaa", sum := "6546f8b3ba1c382fcd78b6a7e9e20b0c6b389b53674a08514aaa1bb901e842eb", func := "tidewrack/tidewracklaw18.ParseSelects", spec := "parseSelects", inPlace := ["internal/bytealg.IndexByteString"], unfollowed := true, recurses := true, apart := false }
def ParseSelectsSaid : Prop := parseSelectsRow.holds Try.pinned (OpenSpec.ofChange parseSelectsSpec)

/-- ITS FALSE NEIGHBOUR: 'it returns false'. Refute it at one input. -/
def parseSelectsWrong : ChangeSpec := { name := "parseSelects", fn := fun _ => fun
  | [d1, d2, d3, d4, d5] => { results := [.lit (.bool false)], args := [d1, d2, d3, d4, d5] }
  | _ => none }
def ParseSelectsWrongFalsely : Prop := parseSelectsRow.holds Try.pinned (OpenSpec.ofChange parseSelectsWrong)

/- THE SECOND FORM. 'bulk': how many values and letters a reading holds, each counted each time it is reached (what is shared counts as often as it is met; a slice's spare places count too). A statement '..UptoSaid' is the law's where the arguments, and the package variables that the reading takes, are together of bulk at most 1048576: NARROWER than '..Said'. Prove '..Said' where nothing that the law and all that it calls make is longer than what came in: it says more and counts as full. Else prove '..UptoSaid'. A law counts once. -/
mutual
def uptoBulk {H : Type} : DataW H → Nat
  | .lit (.string bytes) => bytes.length + 1
  | .lit _ => 1
  | .nil => 1
  | .ptr d => uptoBulk d + 1
  | .slice elems spare => uptoBulkAll elems + uptoBulkAll spare + 1
  | .agg parts => uptoBulkAll parts + 1
  | .iface _ d => uptoBulk d + 1
  | .map entries => uptoBulkEntries entries + 1
  | .held _ => 1
def uptoBulkAll {H : Type} : List (DataW H) → Nat
  | [] => 0
  | d :: r => uptoBulk d + uptoBulkAll r
def uptoBulkEntries {H : Type} : List (Lit × DataW H) → Nat
  | [] => 0
  | x :: r => uptoBulkEntry x + uptoBulkEntries r
def uptoBulkEntry {H : Type} : Lit × DataW H → Nat
  | (.string bytes, d) => bytes.length + uptoBulk d + 1
  | (_, d) => uptoBulk d + 1
 end
def uptoSmall : (H : Type) → List (DataW H) → Bool := fun _ ds => decide (uptoBulkAll ds ≤ 1048576)
def OpenSpec.upto (s : _root_.Go.ChangeSpec) : _root_.Go.OpenSpec := { _root_.Go.OpenSpec.ofChange s with cond := some uptoSmall }

/-- 'tidewracklaw18.ParseTrees', WHERE WHAT IT READS IS OF BULK AT MOST 1048576: true; the input reads as it did. -/
def parseTreesUptoRow : OpenClaim := { program := "ytdikmklijpcjdaa", sum := "6546f8b3ba1c382fcd78b6a7e9e20b0c6b389b53674a08514aaa1bb901e842eb", func := "tidewrack/tidewracklaw18.ParseTrees", spec := "parseTrees", inPlace := ["internal/bytealg.IndexByteString"], unfollowed := true, recurses := true, apart := false, narrowed := true }
def ParseTreesUptoSaid : Prop := parseTreesUptoRow.holds Try.pinned (OpenSpec.upto parseTreesSpec)

/-- 'tidewracklaw18.ParseTotal', WHERE WHAT IT READS IS OF BULK AT MOST 1048576: true; the input reads as it did. -/
def parseTotalUptoRow : OpenClaim := { program := "ytdikmklijpcjdaa", sum := "6546f8b3ba1c382fcd78b6a7e9e20b0c6b389b53674a08514aaa1bb901e842eb", func := "tidewrack/tidewracklaw18.ParseTotal", spec := "parseTotal", inPlace := ["internal/bytealg.IndexByteString"], unfollowed := true, recurses := true, apart := false, narrowed := true }
def ParseTotalUptoSaid : Prop := parseTotalUptoRow.holds Try.pinned (OpenSpec.upto parseTotalSpec)

/-- 'tidewracklaw18.ParseBrackets', WHERE WHAT IT READS IS OF BULK AT MOST 1048576: true; the input reads as it did. -/
def parseBracketsUptoRow : OpenClaim := { program := "ytdikmklijpcjdaa", sum := "6546f8b3ba1c382fcd78b6a7e9e20b0c6b389b53674a08514aaa1bb901e842eb", func := "tidewrack/tidewracklaw18.ParseBrackets", spec := "parseBrackets", inPlace := ["internal/bytealg.IndexByteString"], unfollowed := true, recurses := true, apart := false, narrowed := true }
def ParseBracketsUptoSaid : Prop := parseBracketsUptoRow.holds Try.pinned (OpenSpec.upto parseBracketsSpec)

/-- 'tidewracklaw18.ParseBins', WHERE WHAT IT READS IS OF BULK AT MOST 1048576: true; the input reads as it did. -/
def parseBinsUptoRow : OpenClaim := { program := "ytdikmklijpcjdaa", sum := "6546f8b3ba1c382fcd78b6a7e9e20b0c6b389b53674a08514aaa1bb901e842eb", func := "tidewrack/tidewracklaw18.ParseBins", spec := "parseBins", inPlace := ["internal/bytealg.IndexByteString"], unfollowed := true, recurses := true, apart := false, narrowed := true }
def ParseBinsUptoSaid : Prop := parseBinsUptoRow.holds Try.pinned (OpenSpec.upto parseBinsSpec)

/-- 'tidewracklaw18.ParseRows', WHERE WHAT IT READS IS OF BULK AT MOST 1048576: true; the input reads as it did. -/
def parseRowsUptoRow : OpenClaim := { program := "ytdikmklijpcjdaa", sum := "6546f8b3ba1c382fcd78b6a7e9e20b0c6b389b53674a08514aaa1bb901e842eb", func := "tidewrack/tidewracklaw18.ParseRows", spec := "parseRows", inPlace := ["internal/bytealg.IndexByteString"], unfollowed := true, recurses := true, apart := false, narrowed := true }
def ParseRowsUptoSaid : Prop := parseRowsUptoRow.holds Try.pinned (OpenSpec.upto parseRowsSpec)

/-- 'tidewracklaw18.ParseSelects', WHERE WHAT IT READS IS OF BULK AT MOST 1048576: true; the input reads as it did. -/
def parseSelectsUptoRow : OpenClaim := { program := "ytdikmklijpcjdaa", sum := "6546f8b3ba1c382fcd78b6a7e9e20b0c6b389b53674a08514aaa1bb901e842eb", func := "tidewrack/tidewracklaw18.ParseSelects", spec := "parseSelects", inPlace := ["internal/bytealg.IndexByteString"], unfollowed := true, recurses := true, apart := false, narrowed := true }
def ParseSelectsUptoSaid : Prop := parseSelectsUptoRow.holds Try.pinned (OpenSpec.upto parseSelectsSpec)

end Rows
end Go.Proofs.Ytdikmklijpcjdaa
