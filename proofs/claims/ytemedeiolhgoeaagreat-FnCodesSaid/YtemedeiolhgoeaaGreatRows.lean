/-
  No cell of these rows narrows 'for every input' (looked for: loops, veiled, ifaces, maps, wideKeys, modest, calm, conditions, laid).
  DERIVED. THE GIVEN ROWS OF THIS SEAT. 4 by the template 'for every input the law returns true; each argument reads behind the call as it read before'; 0 by the template 'total and deterministic' (their statements: YtemedeiolhgoeaaGreatTotals.lean).
  GIVEN WITH THE SEED: the statements are not yours to turn. If you find one false, say at which input.
  Laid BY PROGRAM, IN A SANDBOX (cutbox-rows.mjs): the forced cells as the released guide's own fill.sh prints them over the translation 8e9b5567842c67a0… (all of the seat's roots in one cut). By AI agents, Wed Nov 11 2026. No macro, syntax, notation, axiom, sorry.
-/
import Derived.Test.YtemedeiolhgoeaaGreatChecked
import GoSem.Claim
import GoSem.ClaimJoined
import GoSem.ClaimMapViews
import Derived.JoinedTies
import Derived.KernelRfl
namespace Go.Proofs.YtemedeiolhgoeaaGreat
/- THE CELL 'sum', in the pinned program and in every row, IS THE sha256 OF THE DUMP (.gsa) THAT YtemedeiolhgoeaaGreatProg.lean LOADS. Nothing in Lean hashes anything: it is a label: what it is worth is what the hold of that sum in a sandbox is worth. -/
noncomputable def Tryz.pinned : Pinned := { name := "ytemedeiolhgoeaagreat", sum := "8e9b5567842c67a0dd9d28d9a3c07536a8016448d27e187df0751a87ee321bcd", checked := Tryz.checked }
namespace Rows
def none {H : Type} : Left H := { results := [], args := [] }

/-- 'laws.FnCodes': WHATEVER THE INPUT: true; the input reads as it did. -/
def fnCodesSpec : ChangeSpec := { name := "fnCodes", fn := fun _ => fun
  | [d] => { results := [.lit (.bool true)], args := [d] }
  | _ => none }
def fnCodesRow : OpenClaim := { program := "ytemedeiolhgoeaagreat", sum := "8e9b5567842c67a0dd9d28d9a3c07536a8016448d27e187df0751a87ee321bcd", func := "loop.example/g01285/laws.FnCodes", spec := "fnCodes", unfollowed := true, recurses := true, plainKeys := false, apart := false }
def FnCodesSaid : Prop := fnCodesRow.holds Tryz.pinned (OpenSpec.ofChange fnCodesSpec)

/-- ITS FALSE NEIGHBOUR: 'it returns false'. Refute it at one input. -/
def fnCodesWrong : ChangeSpec := { name := "fnCodes", fn := fun _ => fun
  | [d] => { results := [.lit (.bool false)], args := [d] }
  | _ => none }
def FnCodesWrongFalsely : Prop := fnCodesRow.holds Tryz.pinned (OpenSpec.ofChange fnCodesWrong)

/-- 'laws.FnAlternants': WHATEVER THE INPUT: true; the input reads as it did. -/
def fnAlternantsSpec : ChangeSpec := { name := "fnAlternants", fn := fun _ => fun
  | [d] => { results := [.lit (.bool true)], args := [d] }
  | _ => none }
def fnAlternantsRow : OpenClaim := { program := "ytemedeiolhgoeaagreat", sum := "8e9b5567842c67a0dd9d28d9a3c07536a8016448d27e187df0751a87ee321bcd", func := "loop.example/g01285/laws.FnAlternants", spec := "fnAlternants", unfollowed := true, recurses := true, plainKeys := false, apart := false }
def FnAlternantsSaid : Prop := fnAlternantsRow.holds Tryz.pinned (OpenSpec.ofChange fnAlternantsSpec)

/-- ITS FALSE NEIGHBOUR: 'it returns false'. Refute it at one input. -/
def fnAlternantsWrong : ChangeSpec := { name := "fnAlternants", fn := fun _ => fun
  | [d] => { results := [.lit (.bool false)], args := [d] }
  | _ => none }
def FnAlternantsWrongFalsely : Prop := fnAlternantsRow.holds Tryz.pinned (OpenSpec.ofChange fnAlternantsWrong)

/-- 'laws.FnSymmetrics': WHATEVER THE INPUT: true; the input reads as it did. -/
def fnSymmetricsSpec : ChangeSpec := { name := "fnSymmetrics", fn := fun _ => fun
  | [d] => { results := [.lit (.bool true)], args := [d] }
  | _ => none }
def fnSymmetricsRow : OpenClaim := { program := "ytemedeiolhgoeaagreat", sum := "8e9b5567842c67a0dd9d28d9a3c07536a8016448d27e187df0751a87ee321bcd", func := "loop.example/g01285/laws.FnSymmetrics", spec := "fnSymmetrics", unfollowed := true, recurses := true, plainKeys := false, apart := false }
def FnSymmetricsSaid : Prop := fnSymmetricsRow.holds Tryz.pinned (OpenSpec.ofChange fnSymmetricsSpec)

/-- ITS FALSE NEIGHBOUR: 'it returns false'. Refute it at one input. -/
def fnSymmetricsWrong : ChangeSpec := { name := "fnSymmetrics", fn := fun _ => fun
  | [d] => { results := [.lit (.bool false)], args := [d] }
  | _ => none }
def FnSymmetricsWrongFalsely : Prop := fnSymmetricsRow.holds Tryz.pinned (OpenSpec.ofChange fnSymmetricsWrong)

/-- 'laws.FnRelations': WHATEVER THE INPUT: true; the input reads as it did. -/
def fnRelationsSpec : ChangeSpec := { name := "fnRelations", fn := fun _ => fun
  | [d] => { results := [.lit (.bool true)], args := [d] }
  | _ => none }
def fnRelationsRow : OpenClaim := { program := "ytemedeiolhgoeaagreat", sum := "8e9b5567842c67a0dd9d28d9a3c07536a8016448d27e187df0751a87ee321bcd", func := "loop.example/g01285/laws.FnRelations", spec := "fnRelations", unfollowed := true, recurses := true, plainKeys := false, apart := false }
def FnRelationsSaid : Prop := fnRelationsRow.holds Tryz.pinned (OpenSpec.ofChange fnRelationsSpec)

/-- ITS FALSE NEIGHBOUR: 'it returns false'. Refute it at one input. -/
def fnRelationsWrong : ChangeSpec := { name := "fnRelations", fn := fun _ => fun
  | [d] => { results := [.lit (.bool false)], args := [d] }
  | _ => none }
def FnRelationsWrongFalsely : Prop := fnRelationsRow.holds Tryz.pinned (OpenSpec.ofChange fnRelationsWrong)

/- THE SECOND FORM. 'bulk': how many values and letters a reading holds, each counted each time it is reached (what is shared counts as often as it is met; a slice's spare places count too). A statement '..UptoSaid' is the law's where the arguments, and the package variables that the reading takes, are together of bulk at most 1048576: NARROWER than '..Said'. Prove '..Said' where nothing that the law and all that it calls make is longer than what came in: it says more and counts as full. Else prove '..UptoSaid'. A law counts once. -/
mutual
def uptoBulk {H : Type} : DataW H → Nat
  | .lit (.string bytes) => bytes.length + 1
  | .lit _ => 1
  | .nil => 1
  | .ptr d => uptoBulk d + 1
  | .slice elems spare => uptoBulkAll elems + uptoBulkAll spare + 1
  | .agg parts => uptoBulkAll parts + 1
  | .iface _ d => uptoBulk d + 1
  | .map entries => uptoBulkEntries entries + 1
  | .held _ => 1
def uptoBulkAll {H : Type} : List (DataW H) → Nat
  | [] => 0
  | d :: r => uptoBulk d + uptoBulkAll r
def uptoBulkEntries {H : Type} : List (Lit × DataW H) → Nat
  | [] => 0
  | x :: r => uptoBulkEntry x + uptoBulkEntries r
def uptoBulkEntry {H : Type} : Lit × DataW H → Nat
  | (.string bytes, d) => bytes.length + uptoBulk d + 1
  | (_, d) => uptoBulk d + 1
 end
def uptoSmall : (H : Type) → List (DataW H) → Bool := fun _ ds => decide (uptoBulkAll ds ≤ 1048576)
def OpenSpec.upto (s : _root_.Go.ChangeSpec) : _root_.Go.OpenSpec := { _root_.Go.OpenSpec.ofChange s with cond := some uptoSmall }

/-- 'laws.FnCodes', WHERE WHAT IT READS IS OF BULK AT MOST 1048576: true; the input reads as it did. -/
def fnCodesUptoRow : OpenClaim := { program := "ytemedeiolhgoeaagreat", sum := "8e9b5567842c67a0dd9d28d9a3c07536a8016448d27e187df0751a87ee321bcd", func := "loop.example/g01285/laws.FnCodes", spec := "fnCodes", unfollowed := true, recurses := true, plainKeys := false, apart := false, narrowed := true }
def FnCodesUptoSaid : Prop := fnCodesUptoRow.holds Tryz.pinned (OpenSpec.upto fnCodesSpec)

/-- 'laws.FnAlternants', WHERE WHAT IT READS IS OF BULK AT MOST 1048576: true; the input reads as it did. -/
def fnAlternantsUptoRow : OpenClaim := { program := "ytemedeiolhgoeaagreat", sum := "8e9b5567842c67a0dd9d28d9a3c07536a8016448d27e187df0751a87ee321bcd", func := "loop.example/g01285/laws.FnAlternants", spec := "fnAlternants", unfollowed := true, recurses := true, plainKeys := false, apart := false, narrowed := true }
def FnAlternantsUptoSaid : Prop := fnAlternantsUptoRow.holds Tryz.pinned (OpenSpec.upto fnAlternantsSpec)

/-- 'laws.FnSymmetrics', WHERE WHAT IT READS IS OF BULK AT MOST 1048576: true; the input reads as it did. -/
def fnSymmetricsUptoRow : OpenClaim := { program := "ytemedeiolhgoeaagreat", sum := "8e9b5567842c67a0dd9d28d9a3c07536a8016448d27e187df0751a87ee321bcd", func := "loop.example/g01285/laws.FnSymmetrics", spec := "fnSymmetrics", unfollowed := true, recurses := true, plainKeys := false, apart := false, narrowed := true }
def FnSymmetricsUptoSaid : Prop := fnSymmetricsUptoRow.holds Tryz.pinned (OpenSpec.upto fnSymmetricsSpec)

/-- 'laws.FnRelations', WHERE WHAT IT READS IS OF BULK AT MOST 1048576: true; the input reads as it did. -/
def fnRelationsUptoRow : OpenClaim := { program := "ytemedeiolhgoeaagreat", sum := "8e9b5567842c67a0dd9d28d9a3c07536a8016448d27e187df0751a87ee321bcd", func := "loop.example/g01285/laws.FnRelations", spec := "fnRelations", unfollowed := true, recurses := true, plainKeys := false, apart := false, narrowed := true }
def FnRelationsUptoSaid : Prop := fnRelationsUptoRow.holds Tryz.pinned (OpenSpec.upto fnRelationsSpec)

end Rows
end Go.Proofs.YtemedeiolhgoeaaGreat
