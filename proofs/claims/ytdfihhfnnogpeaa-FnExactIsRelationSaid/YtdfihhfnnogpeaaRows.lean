/-
  No cell of these rows narrows 'for every input' (looked for: loops, veiled, ifaces, maps, wideKeys, modest, calm, conditions, laid).
  DERIVED. THE GIVEN ROWS OF THIS SEAT. 3 by the template 'for every input the law returns true; each argument reads behind the call as it read before'; 0 by the template 'total and deterministic' (their statements: YtdfihhfnnogpeaaTotals.lean).
  GIVEN WITH THE SEED: the statements are not yours to turn. If you find one false, say at which input.
  Laid BY PROGRAM, IN A SANDBOX (cutbox-rows.mjs): the forced cells as the released guide's own fill.sh prints them over the translation 13b083111bd80bf9… (all of the seat's roots in one cut). By AI agents, Wed Nov 11 2026. No macro, syntax, notation, axiom, sorry.
-/
import Derived.Test.YtdfihhfnnogpeaaChecked
import GoSem.Claim
import GoSem.ClaimJoined
import GoSem.ClaimMapViews
import Derived.JoinedTies
import Derived.KernelRfl
namespace Go.Proofs.Ytdfihhfnnogpeaa
/- THE CELL 'sum', in the pinned program and in every row, IS THE sha256 OF THE DUMP (.gsa) THAT YtdfihhfnnogpeaaProg.lean LOADS. Nothing in Lean hashes anything: it is a label: what it is worth is what the hold of that sum in a sandbox is worth. -/
noncomputable def Try.pinned : Pinned := { name := "ytdfihhfnnogpeaa", sum := "13b083111bd80bf9f37e24980c9e8917815eba343a4bd82856d4949f3ccc8a89", checked := Try.checked }
namespace Rows
def none {H : Type} : Left H := { results := [], args := [] }

/-- 'laws.FnExactAlternatingQuotient': WHATEVER THE INPUT: true; the input reads as it did. -/
def fnExactAlternatingQuotientSpec : ChangeSpec := { name := "fnExactAlternatingQuotient", fn := fun _ => fun
  | [d] => { results := [.lit (.bool true)], args := [d] }
  | _ => none }
def fnExactAlternatingQuotientRow : OpenClaim := { program := "ytdfihhfnnogpeaa", sum := "13b083111bd80bf9f37e24980c9e8917815eba343a4bd82856d4949f3ccc8a89", func := "loop.example/g01285/laws.FnExactAlternatingQuotient", spec := "fnExactAlternatingQuotient", unfollowed := true, recurses := true, plainKeys := false, apart := false }
def FnExactAlternatingQuotientSaid : Prop := fnExactAlternatingQuotientRow.holds Try.pinned (OpenSpec.ofChange fnExactAlternatingQuotientSpec)

/-- ITS FALSE NEIGHBOUR: 'it returns false'. Refute it at one input. -/
def fnExactAlternatingQuotientWrong : ChangeSpec := { name := "fnExactAlternatingQuotient", fn := fun _ => fun
  | [d] => { results := [.lit (.bool false)], args := [d] }
  | _ => none }
def FnExactAlternatingQuotientWrongFalsely : Prop := fnExactAlternatingQuotientRow.holds Try.pinned (OpenSpec.ofChange fnExactAlternatingQuotientWrong)

/-- 'laws.FnExactTellSymmetric': WHATEVER THE INPUT: true; the input reads as it did. -/
def fnExactTellSymmetricSpec : ChangeSpec := { name := "fnExactTellSymmetric", fn := fun _ => fun
  | [d] => { results := [.lit (.bool true)], args := [d] }
  | _ => none }
def fnExactTellSymmetricRow : OpenClaim := { program := "ytdfihhfnnogpeaa", sum := "13b083111bd80bf9f37e24980c9e8917815eba343a4bd82856d4949f3ccc8a89", func := "loop.example/g01285/laws.FnExactTellSymmetric", spec := "fnExactTellSymmetric", unfollowed := true, recurses := true, plainKeys := false, apart := false }
def FnExactTellSymmetricSaid : Prop := fnExactTellSymmetricRow.holds Try.pinned (OpenSpec.ofChange fnExactTellSymmetricSpec)

/-- ITS FALSE NEIGHBOUR: 'it returns false'. Refute it at one input. -/
def fnExactTellSymmetricWrong : ChangeSpec := { name := "fnExactTellSymmetric", fn := fun _ => fun
  | [d] => { results := [.lit (.bool false)], args := [d] }
  | _ => none }
def FnExactTellSymmetricWrongFalsely : Prop := fnExactTellSymmetricRow.holds Try.pinned (OpenSpec.ofChange fnExactTellSymmetricWrong)

/-- 'laws.FnExactIsRelation': WHATEVER THE INPUT: true; the input reads as it did. -/
def fnExactIsRelationSpec : ChangeSpec := { name := "fnExactIsRelation", fn := fun _ => fun
  | [d1, d2, d3] => { results := [.lit (.bool true)], args := [d1, d2, d3] }
  | _ => none }
def fnExactIsRelationRow : OpenClaim := { program := "ytdfihhfnnogpeaa", sum := "13b083111bd80bf9f37e24980c9e8917815eba343a4bd82856d4949f3ccc8a89", func := "loop.example/g01285/laws.FnExactIsRelation", spec := "fnExactIsRelation", unfollowed := true, recurses := true, plainKeys := false, apart := false }
def FnExactIsRelationSaid : Prop := fnExactIsRelationRow.holds Try.pinned (OpenSpec.ofChange fnExactIsRelationSpec)

/-- ITS FALSE NEIGHBOUR: 'it returns false'. Refute it at one input. -/
def fnExactIsRelationWrong : ChangeSpec := { name := "fnExactIsRelation", fn := fun _ => fun
  | [d1, d2, d3] => { results := [.lit (.bool false)], args := [d1, d2, d3] }
  | _ => none }
def FnExactIsRelationWrongFalsely : Prop := fnExactIsRelationRow.holds Try.pinned (OpenSpec.ofChange fnExactIsRelationWrong)

/- THE SECOND FORM. 'bulk': how many values and letters a reading holds, each counted each time it is reached (what is shared counts as often as it is met; a slice's spare places count too). A statement '..UptoSaid' is the law's where the arguments, and the package variables that the reading takes, are together of bulk at most 1048576: NARROWER than '..Said'. Prove '..Said' where nothing that the law and all that it calls make is longer than what came in: it says more and counts as full. Else prove '..UptoSaid'. A law counts once. -/
mutual
def uptoBulk {H : Type} : DataW H → Nat
  | .lit (.string bytes) => bytes.length + 1
  | .lit _ => 1
  | .nil => 1
  | .ptr d => uptoBulk d + 1
  | .slice elems spare => uptoBulkAll elems + uptoBulkAll spare + 1
  | .agg parts => uptoBulkAll parts + 1
  | .iface _ d => uptoBulk d + 1
  | .map entries => uptoBulkEntries entries + 1
  | .held _ => 1
def uptoBulkAll {H : Type} : List (DataW H) → Nat
  | [] => 0
  | d :: r => uptoBulk d + uptoBulkAll r
def uptoBulkEntries {H : Type} : List (Lit × DataW H) → Nat
  | [] => 0
  | x :: r => uptoBulkEntry x + uptoBulkEntries r
def uptoBulkEntry {H : Type} : Lit × DataW H → Nat
  | (.string bytes, d) => bytes.length + uptoBulk d + 1
  | (_, d) => uptoBulk d + 1
 end
def uptoSmall : (H : Type) → List (DataW H) → Bool := fun _ ds => decide (uptoBulkAll ds ≤ 1048576)
def OpenSpec.upto (s : _root_.Go.ChangeSpec) : _root_.Go.OpenSpec := { _root_.Go.OpenSpec.ofChange s with cond := some uptoSmall }

/-- 'laws.FnExactAlternatingQuotient', WHERE WHAT IT READS IS OF BULK AT MOST 1048576: true; the input reads as it did. -/
def fnExactAlternatingQuotientUptoRow : OpenClaim := { program := "ytdfihhfnnogpeaa", sum := "13b083111bd80bf9f37e24980c9e8917815eba343a4bd82856d4949f3ccc8a89", func := "loop.example/g01285/laws.FnExactAlternatingQuotient", spec := "fnExactAlternatingQuotient", unfollowed := true, recurses := true, plainKeys := false, apart := false, narrowed := true }
def FnExactAlternatingQuotientUptoSaid : Prop := fnExactAlternatingQuotientUptoRow.holds Try.pinned (OpenSpec.upto fnExactAlternatingQuotientSpec)

/-- 'laws.FnExactTellSymmetric', WHERE WHAT IT READS IS OF BULK AT MOST 1048576: true; the input reads as it did. -/
def fnExactTellSymmetricUptoRow : OpenClaim := { program := "ytdfihhfnnogpeaa", sum := "13b083111bd80bf9f37e24980c9e8917815eba343a4bd82856d4949f3ccc8a89", func := "loop.example/g01285/laws.FnExactTellSymmetric", spec := "fnExactTellSymmetric", unfollowed := true, recurses := true, plainKeys := false, apart := false, narrowed := true }
def FnExactTellSymmetricUptoSaid : Prop := fnExactTellSymmetricUptoRow.holds Try.pinned (OpenSpec.upto fnExactTellSymmetricSpec)

/-- 'laws.FnExactIsRelation', WHERE WHAT IT READS IS OF BULK AT MOST 1048576: true; the input reads as it did. -/
def fnExactIsRelationUptoRow : OpenClaim := { program := "ytdfihhfnnogpeaa", sum := "13b083111bd80bf9f37e24980c9e8917815eba343a4bd82856d4949f3ccc8a89", func := "loop.example/g01285/laws.FnExactIsRelation", spec := "fnExactIsRelation", unfollowed := true, recurses := true, plainKeys := false, apart := false, narrowed := true }
def FnExactIsRelationUptoSaid : Prop := fnExactIsRelationUptoRow.holds Try.pinned (OpenSpec.upto fnExactIsRelationSpec)

end Rows
end Go.Proofs.Ytdfihhfnnogpeaa
