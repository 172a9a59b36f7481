/-
  No cell of these rows narrows 'for every input' (looked for: loops, veiled, ifaces, maps, wideKeys, modest, calm, conditions, laid).
  DERIVED. THE GIVEN ROWS OF THIS SEAT. 3 by the template 'for every input the law returns true; each argument reads behind the call as it read before'; 0 by the template 'total and deterministic' (their statements: YtdfihhfnnogpeaaGreatTotals.lean).
  GIVEN WITH THE SEED: the statements are not yours to turn. If you find one false, say at which input.
  Laid BY PROGRAM, IN A SANDBOX (cutbox-rows.mjs): the forced cells as the released guide's own fill.sh prints them over the translation cdc2239de4c4d18c… (all of the seat's roots in one cut). By AI agents, Wed Nov 11 2026. No macro, syntax, notation, axiom, sorry.
-/
import Derived.Test.YtdfihhfnnogpeaaGreatChecked
import GoSem.Claim
import GoSem.ClaimJoined
import GoSem.ClaimMapViews
import Derived.JoinedTies
import Derived.KernelRfl
namespace Go.Proofs.YtdfihhfnnogpeaaGreat
/- THE CELL 'sum', in the pinned program and in every row, IS THE sha256 OF THE DUMP (.gsa) THAT YtdfihhfnnogpeaaGreatProg.lean LOADS. Nothing in Lean hashes anything: it is a label: what it is worth is what the hold of that sum in a sandbox is worth. -/
noncomputable def Tryz.pinned : Pinned := { name := "ytdfihhfnnogpeaagreat", sum := "cdc2239de4c4d18c417e48b5313bfe2df02d69a9e67dfedc616f3d18ec9e82c3", checked := Tryz.checked }
namespace Rows
def none {H : Type} : Left H := { results := [], args := [] }

/-- 'laws.FnExactCountRelations': WHATEVER THE INPUT: true; the input reads as it did. -/
def fnExactCountRelationsSpec : ChangeSpec := { name := "fnExactCountRelations", fn := fun _ => fun
  | [d1, d2] => { results := [.lit (.bool true)], args := [d1, d2] }
  | _ => none }
def fnExactCountRelationsRow : OpenClaim := { program := "ytdfihhfnnogpeaagreat", sum := "cdc2239de4c4d18c417e48b5313bfe2df02d69a9e67dfedc616f3d18ec9e82c3", func := "loop.example/g01285/laws.FnExactCountRelations", spec := "fnExactCountRelations", unfollowed := true, recurses := true, plainKeys := false, apart := false }
def FnExactCountRelationsSaid : Prop := fnExactCountRelationsRow.holds Tryz.pinned (OpenSpec.ofChange fnExactCountRelationsSpec)

/-- ITS FALSE NEIGHBOUR: 'it returns false'. Refute it at one input. -/
def fnExactCountRelationsWrong : ChangeSpec := { name := "fnExactCountRelations", fn := fun _ => fun
  | [d1, d2] => { results := [.lit (.bool false)], args := [d1, d2] }
  | _ => none }
def FnExactCountRelationsWrongFalsely : Prop := fnExactCountRelationsRow.holds Tryz.pinned (OpenSpec.ofChange fnExactCountRelationsWrong)

/-- 'laws.FnExactRelationsOf': WHATEVER THE INPUT: true; the input reads as it did. -/
def fnExactRelationsOfSpec : ChangeSpec := { name := "fnExactRelationsOf", fn := fun _ => fun
  | [d1, d2] => { results := [.lit (.bool true)], args := [d1, d2] }
  | _ => none }
def fnExactRelationsOfRow : OpenClaim := { program := "ytdfihhfnnogpeaagreat", sum := "cdc2239de4c4d18c417e48b5313bfe2df02d69a9e67dfedc616f3d18ec9e82c3", func := "loop.example/g01285/laws.FnExactRelationsOf", spec := "fnExactRelationsOf", unfollowed := true, recurses := true, plainKeys := false, apart := false }
def FnExactRelationsOfSaid : Prop := fnExactRelationsOfRow.holds Tryz.pinned (OpenSpec.ofChange fnExactRelationsOfSpec)

/-- ITS FALSE NEIGHBOUR: 'it returns false'. Refute it at one input. -/
def fnExactRelationsOfWrong : ChangeSpec := { name := "fnExactRelationsOf", fn := fun _ => fun
  | [d1, d2] => { results := [.lit (.bool false)], args := [d1, d2] }
  | _ => none }
def FnExactRelationsOfWrongFalsely : Prop := fnExactRelationsOfRow.holds Tryz.pinned (OpenSpec.ofChange fnExactRelationsOfWrong)

/-- 'laws.FnExactNewRelations': WHATEVER THE INPUT: true; the input reads as it did. -/
def fnExactNewRelationsSpec : ChangeSpec := { name := "fnExactNewRelations", fn := fun _ => fun
  | [d1, d2] => { results := [.lit (.bool true)], args := [d1, d2] }
  | _ => none }
def fnExactNewRelationsRow : OpenClaim := { program := "ytdfihhfnnogpeaagreat", sum := "cdc2239de4c4d18c417e48b5313bfe2df02d69a9e67dfedc616f3d18ec9e82c3", func := "loop.example/g01285/laws.FnExactNewRelations", spec := "fnExactNewRelations", unfollowed := true, recurses := true, plainKeys := false, apart := false }
def FnExactNewRelationsSaid : Prop := fnExactNewRelationsRow.holds Tryz.pinned (OpenSpec.ofChange fnExactNewRelationsSpec)

/-- ITS FALSE NEIGHBOUR: 'it returns false'. Refute it at one input. -/
def fnExactNewRelationsWrong : ChangeSpec := { name := "fnExactNewRelations", fn := fun _ => fun
  | [d1, d2] => { results := [.lit (.bool false)], args := [d1, d2] }
  | _ => none }
def FnExactNewRelationsWrongFalsely : Prop := fnExactNewRelationsRow.holds Tryz.pinned (OpenSpec.ofChange fnExactNewRelationsWrong)

/- THE SECOND FORM. 'bulk': how many values and letters a reading holds, each counted each time it is reached (what is shared counts as often as it is met; a slice's spare places count too). A statement '..UptoSaid' is the law's where the arguments, and the package variables that the reading takes, are together of bulk at most 1048576: NARROWER than '..Said'. Prove '..Said' where nothing that the law and all that it calls make is longer than what came in: it says more and counts as full. Else prove '..UptoSaid'. A law counts once. -/
mutual
def uptoBulk {H : Type} : DataW H → Nat
  | .lit (.string bytes) => bytes.length + 1
  | .lit _ => 1
  | .nil => 1
  | .ptr d => uptoBulk d + 1
  | .slice elems spare => uptoBulkAll elems + uptoBulkAll spare + 1
  | .agg parts => uptoBulkAll parts + 1
  | .iface _ d => uptoBulk d + 1
  | .map entries => uptoBulkEntries entries + 1
  | .held _ => 1
def uptoBulkAll {H : Type} : List (DataW H) → Nat
  | [] => 0
  | d :: r => uptoBulk d + uptoBulkAll r
def uptoBulkEntries {H : Type} : List (Lit × DataW H) → Nat
  | [] => 0
  | x :: r => uptoBulkEntry x + uptoBulkEntries r
def uptoBulkEntry {H : Type} : Lit × DataW H → Nat
  | (.string bytes, d) => bytes.length + uptoBulk d + 1
  | (_, d) => uptoBulk d + 1
 end
def uptoSmall : (H : Type) → List (DataW H) → Bool := fun _ ds => decide (uptoBulkAll ds ≤ 1048576)
def OpenSpec.upto (s : _root_.Go.ChangeSpec) : _root_.Go.OpenSpec := { _root_.Go.OpenSpec.ofChange s with cond := some uptoSmall }

/-- 'laws.FnExactCountRelations', WHERE WHAT IT READS IS OF BULK AT MOST 1048576: true; the input reads as it did. -/
def fnExactCountRelationsUptoRow : OpenClaim := { program := "ytdfihhfnnogpeaagreat", sum := "cdc2239de4c4d18c417e48b5313bfe2df02d69a9e67dfedc616f3d18ec9e82c3", func := "loop.example/g01285/laws.FnExactCountRelations", spec := "fnExactCountRelations", unfollowed := true, recurses := true, plainKeys := false, apart := false, narrowed := true }
def FnExactCountRelationsUptoSaid : Prop := fnExactCountRelationsUptoRow.holds Tryz.pinned (OpenSpec.upto fnExactCountRelationsSpec)

/-- 'laws.FnExactRelationsOf', WHERE WHAT IT READS IS OF BULK AT MOST 1048576: true; the input reads as it did. -/
def fnExactRelationsOfUptoRow : OpenClaim := { program := "ytdfihhfnnogpeaagreat", sum := "cdc2239de4c4d18c417e48b5313bfe2df02d69a9e67dfedc616f3d18ec9e82c3", func := "loop.example/g01285/laws.FnExactRelationsOf", spec := "fnExactRelationsOf", unfollowed := true, recurses := true, plainKeys := false, apart := false, narrowed := true }
def FnExactRelationsOfUptoSaid : Prop := fnExactRelationsOfUptoRow.holds Tryz.pinned (OpenSpec.upto fnExactRelationsOfSpec)

/-- 'laws.FnExactNewRelations', WHERE WHAT IT READS IS OF BULK AT MOST 1048576: true; the input reads as it did. -/
def fnExactNewRelationsUptoRow : OpenClaim := { program := "ytdfihhfnnogpeaagreat", sum := "cdc2239de4c4d18c417e48b5313bfe2df02d69a9e67dfedc616f3d18ec9e82c3", func := "loop.example/g01285/laws.FnExactNewRelations", spec := "fnExactNewRelations", unfollowed := true, recurses := true, plainKeys := false, apart := false, narrowed := true }
def FnExactNewRelationsUptoSaid : Prop := fnExactNewRelationsUptoRow.holds Tryz.pinned (OpenSpec.upto fnExactNewRelationsSpec)

end Rows
end Go.Proofs.YtdfihhfnnogpeaaGreat
