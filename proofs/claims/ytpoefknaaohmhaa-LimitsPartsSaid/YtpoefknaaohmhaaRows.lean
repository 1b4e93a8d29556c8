/-
  No cell of these rows narrows 'for every input' (looked for: loops, veiled, ifaces, maps, wideKeys, modest, calm, conditions, laid).
  DERIVED. THE GIVEN ROWS OF THIS SEAT. 3 by the template 'for every input the law returns true; each argument reads behind the call as it read before'; 0 by the template 'total and deterministic' (their statements: YtpoefknaaohmhaaTotals.lean).
  GIVEN WITH THE SEED: the statements are not yours to turn. If you find one false, say at which input.
  Laid BY PROGRAM, IN A SANDBOX (cutbox-rows.mjs): the forced cells as the released guide's own fill.sh prints them over the translation a06b6560362cdb42… (all of the seat's roots in one cut). By AI agents, Wed Nov 11 2026. No macro, syntax, notation, axiom, sorry.
-/
import Derived.Test.YtpoefknaaohmhaaChecked
import GoSem.Claim
import GoSem.ClaimJoined
import GoSem.ClaimMapViews
import Derived.JoinedTies
import Derived.KernelRfl
namespace Go.Proofs.Ytpoefknaaohmhaa
/- THE CELL 'sum', in the pinned program and in every row, IS THE sha256 OF THE DUMP (.gsa) THAT YtpoefknaaohmhaaProg.lean LOADS. Nothing in Lean hashes anything: it is a label: what it is worth is what the hold of that sum in a sandbox is worth. -/
noncomputable def Try.pinned : Pinned := { name := "ytpoefknaaohmhaa", sum := "a06b6560362cdb42e361b4d4ef930cbcc0f77b24f9b77bc4924f0e5af8efac6b", checked := Try.checked }
namespace Rows
def none {H : Type} : Left H := { results := [], args := [] }

/-- 'tidewracklaw15.LimitsChecks': WHATEVER THE INPUT: true; the input reads as it did. -/
def limitsChecksSpec : ChangeSpec := { name := "limitsChecks", fn := fun _ => fun
  | [d1, d2, d3, d4] => { results := [.lit (.bool true)], args := [d1, d2, d3, d4] }
  | _ => none }
def limitsChecksRow : OpenClaim := { program := "ytpoefknaaohmhaa", sum := "a06b6560362cdb42e361b4d4ef930cbcc0f77b24f9b77bc4924f0e5af8efac6b", func := "tidewrack/tidewracklaw15.LimitsChecks", spec := "limitsChecks", inPlace := ["math.Float64frombits"], unfollowed := true, recurses := true, apart := false }
def LimitsChecksSaid : Prop := limitsChecksRow.holds Try.pinned (OpenSpec.ofChange limitsChecksSpec)

/-- ITS FALSE NEIGHBOUR: 'it returns false'. Refute it at one input. -/
def limitsChecksWrong : ChangeSpec := { name := "limitsChecks", fn := fun _ => fun
  | [d1, d2, d3, d4] => { results := [.lit (.bool false)], args := [d1, d2, d3, d4] }
  | _ => none }
def LimitsChecksWrongFalsely : Prop := limitsChecksRow.holds Try.pinned (OpenSpec.ofChange limitsChecksWrong)

/-- 'tidewracklaw15.LimitsParts': WHATEVER THE INPUT: true; the input reads as it did. -/
def limitsPartsSpec : ChangeSpec := { name := "limitsParts", fn := fun _ => fun
  | [d1, d2, d3, d4] => { results := [.lit (.bool true)], args := [d1, d2, d3, d4] }
  | _ => none }
def limitsPartsRow : OpenClaim := { program := "ytpoefknaaohmhaa", sum := "a06b6560362cdb42e361b4d4ef930cbcc0f77b24f9b77bc4924f0e5af8efac6b", func := "tidewrack/tidewracklaw15.LimitsParts", spec := "limitsParts", inPlace := ["math.Float64frombits"], unfollowed := true, recurses := true, apart := false }
def LimitsPartsSaid : Prop := limitsPartsRow.holds Try.pinned (OpenSpec.ofChange limitsPartsSpec)

/-- ITS FALSE NEIGHBOUR: 'it returns false'. Refute it at one input. -/
def limitsPartsWrong : ChangeSpec := { name := "limitsParts", fn := fun _ => fun
  | [d1, d2, d3, d4] => { results := [.lit (.bool false)], args := [d1, d2, d3, d4] }
  | _ => none }
def LimitsPartsWrongFalsely : Prop := limitsPartsRow.holds Try.pinned (OpenSpec.ofChange limitsPartsWrong)

/-- 'tidewracklaw15.LimitsNormal': WHATEVER THE INPUT: true; the input reads as it did. -/
def limitsNormalSpec : ChangeSpec := { name := "limitsNormal", fn := fun _ => fun
  | [d] => { results := [.lit (.bool true)], args := [d] }
  | _ => none }
def limitsNormalRow : OpenClaim := { program := "ytpoefknaaohmhaa", sum := "a06b6560362cdb42e361b4d4ef930cbcc0f77b24f9b77bc4924f0e5af8efac6b", func := "tidewrack/tidewracklaw15.LimitsNormal", spec := "limitsNormal", inPlace := ["math.Float64frombits"], unfollowed := true, recurses := true, apart := false }
def LimitsNormalSaid : Prop := limitsNormalRow.holds Try.pinned (OpenSpec.ofChange limitsNormalSpec)

/-- ITS FALSE NEIGHBOUR: 'it returns false'. Refute it at one input. -/
def limitsNormalWrong : ChangeSpec := { name := "limitsNormal", fn := fun _ => fun
  | [d] => { results := [.lit (.bool false)], args := [d] }
  | _ => none }
def LimitsNormalWrongFalsely : Prop := limitsNormalRow.holds Try.pinned (OpenSpec.ofChange limitsNormalWrong)

/- THE SECOND FORM. 'bulk': how many values and letters a reading holds, each counted each time it is reached (what is shared counts as often as it is met; a slice's spare places count too). A statement '..UptoSaid' is the law's where the arguments, and the package variables that the reading takes, are together of bulk at most 1048576: NARROWER than '..Said'. Prove '..Said' where nothing that the law and all that it calls make is longer than what came in: it says more and counts as full. Else prove '..UptoSaid'. A law counts once. -/
mutual
def uptoBulk {H : Type} : DataW H → Nat
  | .lit (.string bytes) => bytes.length + 1
  | .lit _ => 1
  | .nil => 1
  | .ptr d => uptoBulk d + 1
  | .slice elems spare => uptoBulkAll elems + uptoBulkAll spare + 1
  | .agg parts => uptoBulkAll parts + 1
  | .iface _ d => uptoBulk d + 1
  | .map entries => uptoBulkEntries entries + 1
  | .held _ => 1
def uptoBulkAll {H : Type} : List (DataW H) → Nat
  | [] => 0
  | d :: r => uptoBulk d + uptoBulkAll r
def uptoBulkEntries {H : Type} : List (Lit × DataW H) → Nat
  | [] => 0
  | x :: r => uptoBulkEntry x + uptoBulkEntries r
def uptoBulkEntry {H : Type} : Lit × DataW H → Nat
  | (.string bytes, d) => bytes.length + uptoBulk d + 1
  | (_, d) => uptoBulk d + 1
 end
def uptoSmall : (H : Type) → List (DataW H) → Bool := fun _ ds => decide (uptoBulkAll ds ≤ 1048576)
def OpenSpec.upto (s : _root_.Go.ChangeSpec) : _root_.Go.OpenSpec := { _root_.Go.OpenSpec.ofChange s with cond := some uptoSmall }

/-- 'tidewracklaw15.LimitsChecks', WHERE WHAT IT READS IS OF BULK AT MOST 1048576: true; the input reads as it did. -/
def limitsChecksUptoRow : OpenClaim := { program := "ytpoefknaaohmhaa", sum := "a06b6560362cdb42e361b4d4ef930cbcc0f77b24f9b77bc4924f0e5af8efac6b", func := "tidewrack/tidewracklaw15.LimitsChecks", spec := "limitsChecks", inPlace := ["math.Float64frombits"], unfollowed := true, recurses := true, apart := false, narrowed := true }
def LimitsChecksUptoSaid : Prop := limitsChecksUptoRow.holds Try.pinned (OpenSpec.upto limitsChecksSpec)

/-- 'tidewracklaw15.LimitsParts', WHERE WHAT IT READS IS OF BULK AT MOST 1048576: true; the input reads as it did. -/
def limitsPartsUptoRow : OpenClaim := { program := "ytpoefknaaohmhaa", sum := "a06b6560362cdb42e361b4d4ef930cbcc0f77b24f9b77bc4924f0e5af8efac6b", func := "tidewrack/tidewracklaw15.LimitsParts", spec := "limitsParts", inPlace := ["math.Float64frombits"], unfollowed := true, recurses := true, apart := false, narrowed := true }
def LimitsPartsUptoSaid : Prop := limitsPartsUptoRow.holds Try.pinned (OpenSpec.upto limitsPartsSpec)

/-- 'tidewracklaw15.LimitsNormal', WHERE WHAT IT READS IS OF BULK AT MOST 1048576: true; the input reads as it did. -/
def limitsNormalUptoRow : OpenClaim := { program := "ytpoefknaaohmhaa", sum := "a06b6560362cdb42e361b4d4ef930cbcc0f77b24f9b77bc4924f0e5af8efac6b", func := "tidewrack/tidewracklaw15.LimitsNormal", spec := "limitsNormal", inPlace := ["math.Float64frombits"], unfollowed := true, recurses := true, apart := false, narrowed := true }
def LimitsNormalUptoSaid : Prop := limitsNormalUptoRow.holds Try.pinned (OpenSpec.upto limitsNormalSpec)

end Rows
end Go.Proofs.Ytpoefknaaohmhaa
