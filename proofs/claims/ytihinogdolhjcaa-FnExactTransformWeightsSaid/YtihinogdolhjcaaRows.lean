/-
  No cell of these rows narrows 'for every input' (looked for: loops, veiled, ifaces, maps, wideKeys, modest, calm, conditions, laid).
  DERIVED. THE GIVEN ROWS OF THIS SEAT. 12 by the template 'for every input the law returns true; each argument reads behind the call as it read before'; 0 by the template 'total and deterministic' (their statements: YtihinogdolhjcaaTotals.lean).
  GIVEN WITH THE SEED: the statements are not yours to turn. If you find one false, say at which input.
  Laid BY PROGRAM, IN A SANDBOX (cutbox-rows.mjs): the forced cells as the released guide's own fill.sh prints them over the translation 471726c7df70fb0c… (all of the seat's roots in one cut). By AI agents, Wed Nov 11 2026. No macro, syntax, notation, axiom, sorry.
-/
import Derived.Test.YtihinogdolhjcaaChecked
import GoSem.Claim
import GoSem.ClaimJoined
import GoSem.ClaimMapViews
import Derived.JoinedTies
import Derived.KernelRfl
namespace Go.Proofs.Ytihinogdolhjcaa
/- THE CELL 'sum', in the pinned program and in every row, IS THE sha256 OF THE DUMP (.gsa) THAT YtihinogdolhjcaaProg.lean LOADS. Nothing in Lean hashes anything: it is a label: what it is worth is what the hold of that sum in a sandbox is worth. -/
noncomputable def Try.pinned : Pinned := { name := "ytihinogdolhjcaa", sum := "471726c7df70fb0c70fb6d490ca6bac71f212de313f13c0d6ef0ae31af148020", checked := Try.checked }
namespace Rows
def none {H : Type} : Left H := { results := [], args := [] }

/-- 'laws.FnExactTransformWeights': WHATEVER THE INPUT: true; the input reads as it did. -/
def fnExactTransformWeightsSpec : ChangeSpec := { name := "fnExactTransformWeights", fn := fun _ => fun
  | [d1, d2] => { results := [.lit (.bool true)], args := [d1, d2] }
  | _ => none }
def fnExactTransformWeightsRow : OpenClaim := { program := "ytihinogdolhjcaa", sum := "471726c7df70fb0c70fb6d490ca6bac71f212de313f13c0d6ef0ae31af148020", func := "loop.example/g01285/laws.FnExactTransformWeights", spec := "fnExactTransformWeights", plainKeys := false, apart := false }
def FnExactTransformWeightsSaid : Prop := fnExactTransformWeightsRow.holds Try.pinned (OpenSpec.ofChange fnExactTransformWeightsSpec)

/-- ITS FALSE NEIGHBOUR: 'it returns false'. Refute it at one input. -/
def fnExactTransformWeightsWrong : ChangeSpec := { name := "fnExactTransformWeights", fn := fun _ => fun
  | [d1, d2] => { results := [.lit (.bool false)], args := [d1, d2] }
  | _ => none }
def FnExactTransformWeightsWrongFalsely : Prop := fnExactTransformWeightsRow.holds Try.pinned (OpenSpec.ofChange fnExactTransformWeightsWrong)

/-- 'laws.FnExactValuesOf': WHATEVER THE INPUT: true; the input reads as it did. -/
def fnExactValuesOfSpec : ChangeSpec := { name := "fnExactValuesOf", fn := fun _ => fun
  | [d1, d2] => { results := [.lit (.bool true)], args := [d1, d2] }
  | _ => none }
def fnExactValuesOfRow : OpenClaim := { program := "ytihinogdolhjcaa", sum := "471726c7df70fb0c70fb6d490ca6bac71f212de313f13c0d6ef0ae31af148020", func := "loop.example/g01285/laws.FnExactValuesOf", spec := "fnExactValuesOf", plainKeys := false, apart := false }
def FnExactValuesOfSaid : Prop := fnExactValuesOfRow.holds Try.pinned (OpenSpec.ofChange fnExactValuesOfSpec)

/-- ITS FALSE NEIGHBOUR: 'it returns false'. Refute it at one input. -/
def fnExactValuesOfWrong : ChangeSpec := { name := "fnExactValuesOf", fn := fun _ => fun
  | [d1, d2] => { results := [.lit (.bool false)], args := [d1, d2] }
  | _ => none }
def FnExactValuesOfWrongFalsely : Prop := fnExactValuesOfRow.holds Try.pinned (OpenSpec.ofChange fnExactValuesOfWrong)

/-- 'laws.FnExactCompletePoly': WHATEVER THE INPUT: true; the input reads as it did. -/
def fnExactCompletePolySpec : ChangeSpec := { name := "fnExactCompletePoly", fn := fun _ => fun
  | [d1, d2, d3] => { results := [.lit (.bool true)], args := [d1, d2, d3] }
  | _ => none }
def fnExactCompletePolyRow : OpenClaim := { program := "ytihinogdolhjcaa", sum := "471726c7df70fb0c70fb6d490ca6bac71f212de313f13c0d6ef0ae31af148020", func := "loop.example/g01285/laws.FnExactCompletePoly", spec := "fnExactCompletePoly", unfollowed := true, recurses := true, plainKeys := false, apart := false }
def FnExactCompletePolySaid : Prop := fnExactCompletePolyRow.holds Try.pinned (OpenSpec.ofChange fnExactCompletePolySpec)

/-- ITS FALSE NEIGHBOUR: 'it returns false'. Refute it at one input. -/
def fnExactCompletePolyWrong : ChangeSpec := { name := "fnExactCompletePoly", fn := fun _ => fun
  | [d1, d2, d3] => { results := [.lit (.bool false)], args := [d1, d2, d3] }
  | _ => none }
def FnExactCompletePolyWrongFalsely : Prop := fnExactCompletePolyRow.holds Try.pinned (OpenSpec.ofChange fnExactCompletePolyWrong)

/-- 'laws.FnExactEnumeratorOf': WHATEVER THE INPUT: true; the input reads as it did. -/
def fnExactEnumeratorOfSpec : ChangeSpec := { name := "fnExactEnumeratorOf", fn := fun _ => fun
  | [d1, d2] => { results := [.lit (.bool true)], args := [d1, d2] }
  | _ => none }
def fnExactEnumeratorOfRow : OpenClaim := { program := "ytihinogdolhjcaa", sum := "471726c7df70fb0c70fb6d490ca6bac71f212de313f13c0d6ef0ae31af148020", func := "loop.example/g01285/laws.FnExactEnumeratorOf", spec := "fnExactEnumeratorOf", unfollowed := true, recurses := true, plainKeys := false, apart := false }
def FnExactEnumeratorOfSaid : Prop := fnExactEnumeratorOfRow.holds Try.pinned (OpenSpec.ofChange fnExactEnumeratorOfSpec)

/-- ITS FALSE NEIGHBOUR: 'it returns false'. Refute it at one input. -/
def fnExactEnumeratorOfWrong : ChangeSpec := { name := "fnExactEnumeratorOf", fn := fun _ => fun
  | [d1, d2] => { results := [.lit (.bool false)], args := [d1, d2] }
  | _ => none }
def FnExactEnumeratorOfWrongFalsely : Prop := fnExactEnumeratorOfRow.holds Try.pinned (OpenSpec.ofChange fnExactEnumeratorOfWrong)

/-- 'laws.FnExactPowerSumPoly': WHATEVER THE INPUT: true; the input reads as it did. -/
def fnExactPowerSumPolySpec : ChangeSpec := { name := "fnExactPowerSumPoly", fn := fun _ => fun
  | [d1, d2, d3] => { results := [.lit (.bool true)], args := [d1, d2, d3] }
  | _ => none }
def fnExactPowerSumPolyRow : OpenClaim := { program := "ytihinogdolhjcaa", sum := "471726c7df70fb0c70fb6d490ca6bac71f212de313f13c0d6ef0ae31af148020", func := "loop.example/g01285/laws.FnExactPowerSumPoly", spec := "fnExactPowerSumPoly", unfollowed := true, recurses := true, plainKeys := false, apart := false }
def FnExactPowerSumPolySaid : Prop := fnExactPowerSumPolyRow.holds Try.pinned (OpenSpec.ofChange fnExactPowerSumPolySpec)

/-- ITS FALSE NEIGHBOUR: 'it returns false'. Refute it at one input. -/
def fnExactPowerSumPolyWrong : ChangeSpec := { name := "fnExactPowerSumPoly", fn := fun _ => fun
  | [d1, d2, d3] => { results := [.lit (.bool false)], args := [d1, d2, d3] }
  | _ => none }
def FnExactPowerSumPolyWrongFalsely : Prop := fnExactPowerSumPolyRow.holds Try.pinned (OpenSpec.ofChange fnExactPowerSumPolyWrong)

/-- 'laws.FnExactVandermondePoly': WHATEVER THE INPUT: true; the input reads as it did. -/
def fnExactVandermondePolySpec : ChangeSpec := { name := "fnExactVandermondePoly", fn := fun _ => fun
  | [d1, d2] => { results := [.lit (.bool true)], args := [d1, d2] }
  | _ => none }
def fnExactVandermondePolyRow : OpenClaim := { program := "ytihinogdolhjcaa", sum := "471726c7df70fb0c70fb6d490ca6bac71f212de313f13c0d6ef0ae31af148020", func := "loop.example/g01285/laws.FnExactVandermondePoly", spec := "fnExactVandermondePoly", unfollowed := true, recurses := true, plainKeys := false, apart := false }
def FnExactVandermondePolySaid : Prop := fnExactVandermondePolyRow.holds Try.pinned (OpenSpec.ofChange fnExactVandermondePolySpec)

/-- ITS FALSE NEIGHBOUR: 'it returns false'. Refute it at one input. -/
def fnExactVandermondePolyWrong : ChangeSpec := { name := "fnExactVandermondePoly", fn := fun _ => fun
  | [d1, d2] => { results := [.lit (.bool false)], args := [d1, d2] }
  | _ => none }
def FnExactVandermondePolyWrongFalsely : Prop := fnExactVandermondePolyRow.holds Try.pinned (OpenSpec.ofChange fnExactVandermondePolyWrong)

/-- 'laws.FnExactElementaryPoly': WHATEVER THE INPUT: true; the input reads as it did. -/
def fnExactElementaryPolySpec : ChangeSpec := { name := "fnExactElementaryPoly", fn := fun _ => fun
  | [d1, d2, d3] => { results := [.lit (.bool true)], args := [d1, d2, d3] }
  | _ => none }
def fnExactElementaryPolyRow : OpenClaim := { program := "ytihinogdolhjcaa", sum := "471726c7df70fb0c70fb6d490ca6bac71f212de313f13c0d6ef0ae31af148020", func := "loop.example/g01285/laws.FnExactElementaryPoly", spec := "fnExactElementaryPoly", unfollowed := true, recurses := true, plainKeys := false, apart := false }
def FnExactElementaryPolySaid : Prop := fnExactElementaryPolyRow.holds Try.pinned (OpenSpec.ofChange fnExactElementaryPolySpec)

/-- ITS FALSE NEIGHBOUR: 'it returns false'. Refute it at one input. -/
def fnExactElementaryPolyWrong : ChangeSpec := { name := "fnExactElementaryPoly", fn := fun _ => fun
  | [d1, d2, d3] => { results := [.lit (.bool false)], args := [d1, d2, d3] }
  | _ => none }
def FnExactElementaryPolyWrongFalsely : Prop := fnExactElementaryPolyRow.holds Try.pinned (OpenSpec.ofChange fnExactElementaryPolyWrong)

/-- 'laws.FnExactIsSymmetric': WHATEVER THE INPUT: true; the input reads as it did. -/
def fnExactIsSymmetricSpec : ChangeSpec := { name := "fnExactIsSymmetric", fn := fun _ => fun
  | [d] => { results := [.lit (.bool true)], args := [d] }
  | _ => none }
def fnExactIsSymmetricRow : OpenClaim := { program := "ytihinogdolhjcaa", sum := "471726c7df70fb0c70fb6d490ca6bac71f212de313f13c0d6ef0ae31af148020", func := "loop.example/g01285/laws.FnExactIsSymmetric", spec := "fnExactIsSymmetric", unfollowed := true, recurses := true, plainKeys := false, apart := false }
def FnExactIsSymmetricSaid : Prop := fnExactIsSymmetricRow.holds Try.pinned (OpenSpec.ofChange fnExactIsSymmetricSpec)

/-- ITS FALSE NEIGHBOUR: 'it returns false'. Refute it at one input. -/
def fnExactIsSymmetricWrong : ChangeSpec := { name := "fnExactIsSymmetric", fn := fun _ => fun
  | [d] => { results := [.lit (.bool false)], args := [d] }
  | _ => none }
def FnExactIsSymmetricWrongFalsely : Prop := fnExactIsSymmetricRow.holds Try.pinned (OpenSpec.ofChange fnExactIsSymmetricWrong)

/-- 'laws.FnExactMonomialSum': WHATEVER THE INPUT: true; the input reads as it did. -/
def fnExactMonomialSumSpec : ChangeSpec := { name := "fnExactMonomialSum", fn := fun _ => fun
  | [d1, d2] => { results := [.lit (.bool true)], args := [d1, d2] }
  | _ => none }
def fnExactMonomialSumRow : OpenClaim := { program := "ytihinogdolhjcaa", sum := "471726c7df70fb0c70fb6d490ca6bac71f212de313f13c0d6ef0ae31af148020", func := "loop.example/g01285/laws.FnExactMonomialSum", spec := "fnExactMonomialSum", unfollowed := true, recurses := true, plainKeys := false, apart := false }
def FnExactMonomialSumSaid : Prop := fnExactMonomialSumRow.holds Try.pinned (OpenSpec.ofChange fnExactMonomialSumSpec)

/-- ITS FALSE NEIGHBOUR: 'it returns false'. Refute it at one input. -/
def fnExactMonomialSumWrong : ChangeSpec := { name := "fnExactMonomialSum", fn := fun _ => fun
  | [d1, d2] => { results := [.lit (.bool false)], args := [d1, d2] }
  | _ => none }
def FnExactMonomialSumWrongFalsely : Prop := fnExactMonomialSumRow.holds Try.pinned (OpenSpec.ofChange fnExactMonomialSumWrong)

/-- 'laws.FnExactCodeOf': WHATEVER THE INPUT: true; the input reads as it did. -/
def fnExactCodeOfSpec : ChangeSpec := { name := "fnExactCodeOf", fn := fun _ => fun
  | [d1, d2, d3] => { results := [.lit (.bool true)], args := [d1, d2, d3] }
  | _ => none }
def fnExactCodeOfRow : OpenClaim := { program := "ytihinogdolhjcaa", sum := "471726c7df70fb0c70fb6d490ca6bac71f212de313f13c0d6ef0ae31af148020", func := "loop.example/g01285/laws.FnExactCodeOf", spec := "fnExactCodeOf", unfollowed := true, recurses := true, plainKeys := false, apart := false }
def FnExactCodeOfSaid : Prop := fnExactCodeOfRow.holds Try.pinned (OpenSpec.ofChange fnExactCodeOfSpec)

/-- ITS FALSE NEIGHBOUR: 'it returns false'. Refute it at one input. -/
def fnExactCodeOfWrong : ChangeSpec := { name := "fnExactCodeOf", fn := fun _ => fun
  | [d1, d2, d3] => { results := [.lit (.bool false)], args := [d1, d2, d3] }
  | _ => none }
def FnExactCodeOfWrongFalsely : Prop := fnExactCodeOfRow.holds Try.pinned (OpenSpec.ofChange fnExactCodeOfWrong)

/-- 'laws.FnExactIsCode': WHATEVER THE INPUT: true; the input reads as it did. -/
def fnExactIsCodeSpec : ChangeSpec := { name := "fnExactIsCode", fn := fun _ => fun
  | [d] => { results := [.lit (.bool true)], args := [d] }
  | _ => none }
def fnExactIsCodeRow : OpenClaim := { program := "ytihinogdolhjcaa", sum := "471726c7df70fb0c70fb6d490ca6bac71f212de313f13c0d6ef0ae31af148020", func := "loop.example/g01285/laws.FnExactIsCode", spec := "fnExactIsCode", unfollowed := true, recurses := true, plainKeys := false, apart := false }
def FnExactIsCodeSaid : Prop := fnExactIsCodeRow.holds Try.pinned (OpenSpec.ofChange fnExactIsCodeSpec)

/-- ITS FALSE NEIGHBOUR: 'it returns false'. Refute it at one input. -/
def fnExactIsCodeWrong : ChangeSpec := { name := "fnExactIsCode", fn := fun _ => fun
  | [d] => { results := [.lit (.bool false)], args := [d] }
  | _ => none }
def FnExactIsCodeWrongFalsely : Prop := fnExactIsCodeRow.holds Try.pinned (OpenSpec.ofChange fnExactIsCodeWrong)

/-- 'laws.FnExactIsAlternating': WHATEVER THE INPUT: true; the input reads as it did. -/
def fnExactIsAlternatingSpec : ChangeSpec := { name := "fnExactIsAlternating", fn := fun _ => fun
  | [d] => { results := [.lit (.bool true)], args := [d] }
  | _ => none }
def fnExactIsAlternatingRow : OpenClaim := { program := "ytihinogdolhjcaa", sum := "471726c7df70fb0c70fb6d490ca6bac71f212de313f13c0d6ef0ae31af148020", func := "loop.example/g01285/laws.FnExactIsAlternating", spec := "fnExactIsAlternating", unfollowed := true, recurses := true, plainKeys := false, apart := false }
def FnExactIsAlternatingSaid : Prop := fnExactIsAlternatingRow.holds Try.pinned (OpenSpec.ofChange fnExactIsAlternatingSpec)

/-- ITS FALSE NEIGHBOUR: 'it returns false'. Refute it at one input. -/
def fnExactIsAlternatingWrong : ChangeSpec := { name := "fnExactIsAlternating", fn := fun _ => fun
  | [d] => { results := [.lit (.bool false)], args := [d] }
  | _ => none }
def FnExactIsAlternatingWrongFalsely : Prop := fnExactIsAlternatingRow.holds Try.pinned (OpenSpec.ofChange fnExactIsAlternatingWrong)

/- THE SECOND FORM. 'bulk': how many values and letters a reading holds, each counted each time it is reached (what is shared counts as often as it is met; a slice's spare places count too). A statement '..UptoSaid' is the law's where the arguments, and the package variables that the reading takes, are together of bulk at most 1048576: NARROWER than '..Said'. Prove '..Said' where nothing that the law and all that it calls make is longer than what came in: it says more and counts as full. Else prove '..UptoSaid'. A law counts once. -/
mutual
def uptoBulk {H : Type} : DataW H → Nat
  | .lit (.string bytes) => bytes.length + 1
  | .lit _ => 1
  | .nil => 1
  | .ptr d => uptoBulk d + 1
  | .slice elems spare => uptoBulkAll elems + uptoBulkAll spare + 1
  | .agg parts => uptoBulkAll parts + 1
  | .iface _ d => uptoBulk d + 1
  | .map entries => uptoBulkEntries entries + 1
  | .held _ => 1
def uptoBulkAll {H : Type} : List (DataW H) → Nat
  | [] => 0
  | d :: r => uptoBulk d + uptoBulkAll r
def uptoBulkEntries {H : Type} : List (Lit × DataW H) → Nat
  | [] => 0
  | x :: r => uptoBulkEntry x + uptoBulkEntries r
def uptoBulkEntry {H : Type} : Lit × DataW H → Nat
  | (.string bytes, d) => bytes.length + uptoBulk d + 1
  | (_, d) => uptoBulk d + 1
 end
def uptoSmall : (H : Type) → List (DataW H) → Bool := fun _ ds => decide (uptoBulkAll ds ≤ 1048576)
def OpenSpec.upto (s : _root_.Go.ChangeSpec) : _root_.Go.OpenSpec := { _root_.Go.OpenSpec.ofChange s with cond := some uptoSmall }

/-- 'laws.FnExactTransformWeights', WHERE WHAT IT READS IS OF BULK AT MOST 1048576: true; the input reads as it did. -/
def fnExactTransformWeightsUptoRow : OpenClaim := { program := "ytihinogdolhjcaa", sum := "471726c7df70fb0c70fb6d490ca6bac71f212de313f13c0d6ef0ae31af148020", func := "loop.example/g01285/laws.FnExactTransformWeights", spec := "fnExactTransformWeights", plainKeys := false, apart := false, narrowed := true }
def FnExactTransformWeightsUptoSaid : Prop := fnExactTransformWeightsUptoRow.holds Try.pinned (OpenSpec.upto fnExactTransformWeightsSpec)

/-- 'laws.FnExactValuesOf', WHERE WHAT IT READS IS OF BULK AT MOST 1048576: true; the input reads as it did. -/
def fnExactValuesOfUptoRow : OpenClaim := { program := "ytihinogdolhjcaa", sum := "471726c7df70fb0c70fb6d490ca6bac71f212de313f13c0d6ef0ae31af148020", func := "loop.example/g01285/laws.FnExactValuesOf", spec := "fnExactValuesOf", plainKeys := false, apart := false, narrowed := true }
def FnExactValuesOfUptoSaid : Prop := fnExactValuesOfUptoRow.holds Try.pinned (OpenSpec.upto fnExactValuesOfSpec)

/-- 'laws.FnExactCompletePoly', WHERE WHAT IT READS IS OF BULK AT MOST 1048576: true; the input reads as it did. -/
def fnExactCompletePolyUptoRow : OpenClaim := { program := "ytihinogdolhjcaa", sum := "471726c7df70fb0c70fb6d490ca6bac71f212de313f13c0d6ef0ae31af148020", func := "loop.example/g01285/laws.FnExactCompletePoly", spec := "fnExactCompletePoly", unfollowed := true, recurses := true, plainKeys := false, apart := false, narrowed := true }
def FnExactCompletePolyUptoSaid : Prop := fnExactCompletePolyUptoRow.holds Try.pinned (OpenSpec.upto fnExactCompletePolySpec)

/-- 'laws.FnExactEnumeratorOf', WHERE WHAT IT READS IS OF BULK AT MOST 1048576: true; the input reads as it did. -/
def fnExactEnumeratorOfUptoRow : OpenClaim := { program := "ytihinogdolhjcaa", sum := "471726c7df70fb0c70fb6d490ca6bac71f212de313f13c0d6ef0ae31af148020", func := "loop.example/g01285/laws.FnExactEnumeratorOf", spec := "fnExactEnumeratorOf", unfollowed := true, recurses := true, plainKeys := false, apart := false, narrowed := true }
def FnExactEnumeratorOfUptoSaid : Prop := fnExactEnumeratorOfUptoRow.holds Try.pinned (OpenSpec.upto fnExactEnumeratorOfSpec)

/-- 'laws.FnExactPowerSumPoly', WHERE WHAT IT READS IS OF BULK AT MOST 1048576: true; the input reads as it did. -/
def fnExactPowerSumPolyUptoRow : OpenClaim := { program := "ytihinogdolhjcaa", sum := "471726c7df70fb0c70fb6d490ca6bac71f212de313f13c0d6ef0ae31af148020", func := "loop.example/g01285/laws.FnExactPowerSumPoly", spec := "fnExactPowerSumPoly", unfollowed := true, recurses := true, plainKeys := false, apart := false, narrowed := true }
def FnExactPowerSumPolyUptoSaid : Prop := fnExactPowerSumPolyUptoRow.holds Try.pinned (OpenSpec.upto fnExactPowerSumPolySpec)

/-- 'laws.FnExactVandermondePoly', WHERE WHAT IT READS IS OF BULK AT MOST 1048576: true; the input reads as it did. -/
def fnExactVandermondePolyUptoRow : OpenClaim := { program := "ytihinogdolhjcaa", sum := "471726c7df70fb0c70fb6d490ca6bac71f212de313f13c0d6ef0ae31af148020", func := "loop.example/g01285/laws.FnExactVandermondePoly", spec := "fnExactVandermondePoly", unfollowed := true, recurses := true, plainKeys := false, apart := false, narrowed := true }
def FnExactVandermondePolyUptoSaid : Prop := fnExactVandermondePolyUptoRow.holds Try.pinned (OpenSpec.upto fnExactVandermondePolySpec)

/-- 'laws.FnExactElementaryPoly', WHERE WHAT IT READS IS OF BULK AT MOST 1048576: true; the input reads as it did. -/
def fnExactElementaryPolyUptoRow : OpenClaim := { program := "ytihinogdolhjcaa", sum := "471726c7df70fb0c70fb6d490ca6bac71f212de313f13c0d6ef0ae31af148020", func := "loop.example/g01285/laws.FnExactElementaryPoly", spec := "fnExactElementaryPoly", unfollowed := true, recurses := true, plainKeys := false, apart := false, narrowed := true }
def FnExactElementaryPolyUptoSaid : Prop := fnExactElementaryPolyUptoRow.holds Try.pinned (OpenSpec.upto fnExactElementaryPolySpec)

/-- 'laws.FnExactIsSymmetric', WHERE WHAT IT READS IS OF BULK AT MOST 1048576: true; the input reads as it did. -/
def fnExactIsSymmetricUptoRow : OpenClaim := { program := "ytihinogdolhjcaa", sum := "471726c7df70fb0c70fb6d490ca6bac71f212de313f13c0d6ef0ae31af148020", func := "loop.example/g01285/laws.FnExactIsSymmetric", spec := "fnExactIsSymmetric", unfollowed := true, recurses := true, plainKeys := false, apart := false, narrowed := true }
def FnExactIsSymmetricUptoSaid : Prop := fnExactIsSymmetricUptoRow.holds Try.pinned (OpenSpec.upto fnExactIsSymmetricSpec)

/-- 'laws.FnExactMonomialSum', WHERE WHAT IT READS IS OF BULK AT MOST 1048576: true; the input reads as it did. -/
def fnExactMonomialSumUptoRow : OpenClaim := { program := "ytihinogdolhjcaa", sum := "471726c7df70fb0c70fb6d490ca6bac71f212de313f13c0d6ef0ae31af148020", func := "loop.example/g01285/laws.FnExactMonomialSum", spec := "fnExactMonomialSum", unfollowed := true, recurses := true, plainKeys := false, apart := false, narrowed := true }
def FnExactMonomialSumUptoSaid : Prop := fnExactMonomialSumUptoRow.holds Try.pinned (OpenSpec.upto fnExactMonomialSumSpec)

/-- 'laws.FnExactCodeOf', WHERE WHAT IT READS IS OF BULK AT MOST 1048576: true; the input reads as it did. -/
def fnExactCodeOfUptoRow : OpenClaim := { program := "ytihinogdolhjcaa", sum := "471726c7df70fb0c70fb6d490ca6bac71f212de313f13c0d6ef0ae31af148020", func := "loop.example/g01285/laws.FnExactCodeOf", spec := "fnExactCodeOf", unfollowed := true, recurses := true, plainKeys := false, apart := false, narrowed := true }
def FnExactCodeOfUptoSaid : Prop := fnExactCodeOfUptoRow.holds Try.pinned (OpenSpec.upto fnExactCodeOfSpec)

/-- 'laws.FnExactIsCode', WHERE WHAT IT READS IS OF BULK AT MOST 1048576: true; the input reads as it did. -/
def fnExactIsCodeUptoRow : OpenClaim := { program := "ytihinogdolhjcaa", sum := "471726c7df70fb0c70fb6d490ca6bac71f212de313f13c0d6ef0ae31af148020", func := "loop.example/g01285/laws.FnExactIsCode", spec := "fnExactIsCode", unfollowed := true, recurses := true, plainKeys := false, apart := false, narrowed := true }
def FnExactIsCodeUptoSaid : Prop := fnExactIsCodeUptoRow.holds Try.pinned (OpenSpec.upto fnExactIsCodeSpec)

/-- 'laws.FnExactIsAlternating', WHERE WHAT IT READS IS OF BULK AT MOST 1048576: true; the input reads as it did. -/
def fnExactIsAlternatingUptoRow : OpenClaim := { program := "ytihinogdolhjcaa", sum := "471726c7df70fb0c70fb6d490ca6bac71f212de313f13c0d6ef0ae31af148020", func := "loop.example/g01285/laws.FnExactIsAlternating", spec := "fnExactIsAlternating", unfollowed := true, recurses := true, plainKeys := false, apart := false, narrowed := true }
def FnExactIsAlternatingUptoSaid : Prop := fnExactIsAlternatingUptoRow.holds Try.pinned (OpenSpec.upto fnExactIsAlternatingSpec)

end Rows
end Go.Proofs.Ytihinogdolhjcaa
