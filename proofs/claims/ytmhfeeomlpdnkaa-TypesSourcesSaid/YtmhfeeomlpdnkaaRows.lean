/-
  No cell of these rows narrows 'for every input' (looked for: loops, veiled, ifaces, maps, wideKeys, modest, calm, conditions, laid).
  DERIVED. THE GIVEN ROWS OF THIS SEAT. 4 by the template 'for every input the law returns true; each argument reads behind the call as it read before'; 0 by the template 'total and deterministic' (their statements: YtmhfeeomlpdnkaaTotals.lean).
  GIVEN WITH THE SEED: the statements are not yours to turn. If you find one false, say at which input.
  Laid BY PROGRAM, IN A SANDBOX (cutbox-rows.mjs): the forced cells as the released guide's own fill.sh prints them over the translation dcc984520e64a284… (all of the seat's roots in one cut). By AI agents, Wed Nov 11 2026. No macro, syntax, notation, axiom, sorry.
-/
import Derived.Test.YtmhfeeomlpdnkaaChecked
import GoSem.Claim
import GoSem.ClaimJoined
import GoSem.ClaimMapViews
import Derived.JoinedTies
import Derived.KernelRfl
namespace Go.Proofs.Ytmhfeeomlpdnkaa
/- THE CELL 'sum', in the pinned program and in every row, IS THE sha256 OF THE DUMP (.gsa) THAT YtmhfeeomlpdnkaaProg.lean LOADS. Nothing in Lean hashes anything: it is a label: what it is worth is what the hold of that sum in a sandbox is worth. -/
noncomputable def Try.pinned : Pinned := { name := "ytmhfeeomlpdnkaa", sum := "dcc984520e64a28458cb32807a8e9d84a2eee58d0c639dd2ee579b2f07eed39a", checked := Try.checked }
namespace Rows
def none {H : Type} : Left H := { results := [], args := [] }

/-- 'tidewracklaw19.TypesChecks': WHATEVER THE INPUT: true; the input reads as it did. -/
def typesChecksSpec : ChangeSpec := { name := "typesChecks", fn := fun _ => fun
  | [d] => { results := [.lit (.bool true)], args := [d] }
  | _ => none }
def typesChecksRow : OpenClaim := { program := "ytmhfeeomlpdnkaa", sum := "dcc984520e64a28458cb32807a8e9d84a2eee58d0c639dd2ee579b2f07eed39a", func := "tidewrack/tidewracklaw19.TypesChecks", spec := "typesChecks", unfollowed := true, recurses := true, apart := false }
def TypesChecksSaid : Prop := typesChecksRow.holds Try.pinned (OpenSpec.ofChange typesChecksSpec)

/-- ITS FALSE NEIGHBOUR: 'it returns false'. Refute it at one input. -/
def typesChecksWrong : ChangeSpec := { name := "typesChecks", fn := fun _ => fun
  | [d] => { results := [.lit (.bool false)], args := [d] }
  | _ => none }
def TypesChecksWrongFalsely : Prop := typesChecksRow.holds Try.pinned (OpenSpec.ofChange typesChecksWrong)

/-- 'tidewracklaw19.TypesFirst': WHATEVER THE INPUT: true; the input reads as it did. -/
def typesFirstSpec : ChangeSpec := { name := "typesFirst", fn := fun _ => fun
  | [d1, d2] => { results := [.lit (.bool true)], args := [d1, d2] }
  | _ => none }
def typesFirstRow : OpenClaim := { program := "ytmhfeeomlpdnkaa", sum := "dcc984520e64a28458cb32807a8e9d84a2eee58d0c639dd2ee579b2f07eed39a", func := "tidewrack/tidewracklaw19.TypesFirst", spec := "typesFirst", unfollowed := true, recurses := true, apart := false }
def TypesFirstSaid : Prop := typesFirstRow.holds Try.pinned (OpenSpec.ofChange typesFirstSpec)

/-- ITS FALSE NEIGHBOUR: 'it returns false'. Refute it at one input. -/
def typesFirstWrong : ChangeSpec := { name := "typesFirst", fn := fun _ => fun
  | [d1, d2] => { results := [.lit (.bool false)], args := [d1, d2] }
  | _ => none }
def TypesFirstWrongFalsely : Prop := typesFirstRow.holds Try.pinned (OpenSpec.ofChange typesFirstWrong)

/-- 'tidewracklaw19.TypesJoins': WHATEVER THE INPUT: true; the input reads as it did. -/
def typesJoinsSpec : ChangeSpec := { name := "typesJoins", fn := fun _ => fun
  | [d1, d2, d3] => { results := [.lit (.bool true)], args := [d1, d2, d3] }
  | _ => none }
def typesJoinsRow : OpenClaim := { program := "ytmhfeeomlpdnkaa", sum := "dcc984520e64a28458cb32807a8e9d84a2eee58d0c639dd2ee579b2f07eed39a", func := "tidewrack/tidewracklaw19.TypesJoins", spec := "typesJoins", unfollowed := true, recurses := true, apart := false }
def TypesJoinsSaid : Prop := typesJoinsRow.holds Try.pinned (OpenSpec.ofChange typesJoinsSpec)

/-- ITS FALSE NEIGHBOUR: 'it returns false'. Refute it at one input. -/
def typesJoinsWrong : ChangeSpec := { name := "typesJoins", fn := fun _ => fun
  | [d1, d2, d3] => { results := [.lit (.bool false)], args := [d1, d2, d3] }
  | _ => none }
def TypesJoinsWrongFalsely : Prop := typesJoinsRow.holds Try.pinned (OpenSpec.ofChange typesJoinsWrong)

/-- 'tidewracklaw19.TypesSources': WHATEVER THE INPUT: true; the input reads as it did. -/
def typesSourcesSpec : ChangeSpec := { name := "typesSources", fn := fun _ => fun
  | [d] => { results := [.lit (.bool true)], args := [d] }
  | _ => none }
def typesSourcesRow : OpenClaim := { program := "ytmhfeeomlpdnkaa", sum := "dcc984520e64a28458cb32807a8e9d84a2eee58d0c639dd2ee579b2f07eed39a", func := "tidewrack/tidewracklaw19.TypesSources", spec := "typesSources", inPlace := ["internal/bytealg.IndexByteString"], unfollowed := true, recurses := true, apart := false }
def TypesSourcesSaid : Prop := typesSourcesRow.holds Try.pinned (OpenSpec.ofChange typesSourcesSpec)

/-- ITS FALSE NEIGHBOUR: 'it returns false'. Refute it at one input. -/
def typesSourcesWrong : ChangeSpec := { name := "typesSources", fn := fun _ => fun
  | [d] => { results := [.lit (.bool false)], args := [d] }
  | _ => none }
def TypesSourcesWrongFalsely : Prop := typesSourcesRow.holds Try.pinned (OpenSpec.ofChange typesSourcesWrong)

/- THE SECOND FORM. 'bulk': how many values and letters a reading holds, each counted each time it is reached (what is shared counts as often as it is met; a slice's spare places count too). A statement '..UptoSaid' is the law's where the arguments, and the package variables that the reading takes, are together of bulk at most 1048576: NARROWER than '..Said'. Prove '..Said' where nothing that the law and all that it calls make is longer than what came in: it says more and counts as full. Else prove '..UptoSaid'. A law counts once. -/
mutual
def uptoBulk {H : Type} : DataW H → Nat
  | .lit (.string bytes) => bytes.length + 1
  | .lit _ => 1
  | .nil => 1
  | .ptr d => uptoBulk d + 1
  | .slice elems spare => uptoBulkAll elems + uptoBulkAll spare + 1
  | .agg parts => uptoBulkAll parts + 1
  | .iface _ d => uptoBulk d + 1
  | .map entries => uptoBulkEntries entries + 1
  | .held _ => 1
def uptoBulkAll {H : Type} : List (DataW H) → Nat
  | [] => 0
  | d :: r => uptoBulk d + uptoBulkAll r
def uptoBulkEntries {H : Type} : List (Lit × DataW H) → Nat
  | [] => 0
  | x :: r => uptoBulkEntry x + uptoBulkEntries r
def uptoBulkEntry {H : Type} : Lit × DataW H → Nat
  | (.string bytes, d) => bytes.length + uptoBulk d + 1
  | (_, d) => uptoBulk d + 1
 end
def uptoSmall : (H : Type) → List (DataW H) → Bool := fun _ ds => decide (uptoBulkAll ds ≤ 1048576)
def OpenSpec.upto (s : _root_.Go.ChangeSpec) : _root_.Go.OpenSpec := { _root_.Go.OpenSpec.ofChange s with cond := some uptoSmall }

/-- 'tidewracklaw19.TypesChecks', WHERE WHAT IT READS IS OF BULK AT MOST 1048576: true; the input reads as it did. -/
def typesChecksUptoRow : OpenClaim := { program := "ytmhfeeomlpdnkaa", sum := "dcc984520e64a28458cb32807a8e9d84a2eee58d0c639dd2ee579b2f07eed39a", func := "tidewrack/tidewracklaw19.TypesChecks", spec := "typesChecks", unfollowed := true, recurses := true, apart := false, narrowed := true }
def TypesChecksUptoSaid : Prop := typesChecksUptoRow.holds Try.pinned (OpenSpec.upto typesChecksSpec)

/-- 'tidewracklaw19.TypesFirst', WHERE WHAT IT READS IS OF BULK AT MOST 1048576: true; the input reads as it did. -/
def typesFirstUptoRow : OpenClaim := { program := "ytmhfeeomlpdnkaa", sum := "dcc984520e64a28458cb32807a8e9d84a2eee58d0c639dd2ee579b2f07eed39a", func := "tidewrack/tidewracklaw19.TypesFirst", spec := "typesFirst", unfollowed := true, recurses := true, apart := false, narrowed := true }
def TypesFirstUptoSaid : Prop := typesFirstUptoRow.holds Try.pinned (OpenSpec.upto typesFirstSpec)

/-- 'tidewracklaw19.TypesJoins', WHERE WHAT IT READS IS OF BULK AT MOST 1048576: true; the input reads as it did. -/
def typesJoinsUptoRow : OpenClaim := { program := "ytmhfeeomlpdnkaa", sum := "dcc984520e64a28458cb32807a8e9d84a2eee58d0c639dd2ee579b2f07eed39a", func := "tidewrack/tidewracklaw19.TypesJoins", spec := "typesJoins", unfollowed := true, recurses := true, apart := false, narrowed := true }
def TypesJoinsUptoSaid : Prop := typesJoinsUptoRow.holds Try.pinned (OpenSpec.upto typesJoinsSpec)

/-- 'tidewracklaw19.TypesSources', WHERE WHAT IT READS IS OF BULK AT MOST 1048576: true; the input reads as it did. -/
def typesSourcesUptoRow : OpenClaim := { program := "ytmhfeeomlpdnkaa", sum := "dcc984520e64a28458cb32807a8e9d84a2eee58d0c639dd2ee579b2f07eed39a", func := "tidewrack/tidewracklaw19.TypesSources", spec := "typesSources", inPlace := ["internal/bytealg.IndexByteString"], unfollowed := true, recurses := true, apart := false, narrowed := true }
def TypesSourcesUptoSaid : Prop := typesSourcesUptoRow.holds Try.pinned (OpenSpec.upto typesSourcesSpec)

end Rows
end Go.Proofs.Ytmhfeeomlpdnkaa
