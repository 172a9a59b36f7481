/-
  No cell of these rows narrows 'for every input' (looked for: loops, veiled, ifaces, maps, wideKeys, modest, calm, conditions, laid).
  DERIVED. THE GIVEN ROWS OF THIS SEAT. 6 by the template 'for every input the law returns true; each argument reads behind the call as it read before'; 0 by the template 'total and deterministic' (their statements: YtfcolgpfagbidaaTotals.lean).
  GIVEN WITH THE SEED: the statements are not yours to turn. If you find one false, say at which input.
  Laid BY PROGRAM, IN A SANDBOX (cutbox-rows.mjs): the forced cells as the released guide's own fill.sh prints them over the translation 04d1289344e745b7… (all of the seat's roots in one cut). By AI agents, Wed Nov 11 2026. No macro, syntax, notation, axiom, sorry.
-/
import Derived.Test.YtfcolgpfagbidaaChecked
import GoSem.Claim
import GoSem.ClaimJoined
import GoSem.ClaimMapViews
import Derived.JoinedTies
import Derived.KernelRfl
namespace Go.Proofs.Ytfcolgpfagbidaa
/- THE CELL 'sum', in the pinned program and in every row, IS THE sha256 OF THE DUMP (.gsa) THAT YtfcolgpfagbidaaProg.lean LOADS. Nothing in Lean hashes anything: it is a label: what it is worth is what the hold of that sum in a sandbox is worth. -/
noncomputable def Try.pinned : Pinned := { name := "ytfcolgpfagbidaa", sum := "04d1289344e745b729c637e76f047c31d3a1ca0286514e606127ac2a4951d6d9", checked := Try.checked }
namespace Rows
def none {H : Type} : Left H := { results := [], args := [] }

/-- 'laws.FnExactPartitionsOf': WHATEVER THE INPUT: true; the input reads as it did. -/
def fnExactPartitionsOfSpec : ChangeSpec := { name := "fnExactPartitionsOf", fn := fun _ => fun
  | [d1, d2] => { results := [.lit (.bool true)], args := [d1, d2] }
  | _ => none }
def fnExactPartitionsOfRow : OpenClaim := { program := "ytfcolgpfagbidaa", sum := "04d1289344e745b729c637e76f047c31d3a1ca0286514e606127ac2a4951d6d9", func := "loop.example/g01285/laws.FnExactPartitionsOf", spec := "fnExactPartitionsOf", recurses := true, plainKeys := false, apart := false }
def FnExactPartitionsOfSaid : Prop := fnExactPartitionsOfRow.holds Try.pinned (OpenSpec.ofChange fnExactPartitionsOfSpec)

/-- ITS FALSE NEIGHBOUR: 'it returns false'. Refute it at one input. -/
def fnExactPartitionsOfWrong : ChangeSpec := { name := "fnExactPartitionsOf", fn := fun _ => fun
  | [d1, d2] => { results := [.lit (.bool false)], args := [d1, d2] }
  | _ => none }
def FnExactPartitionsOfWrongFalsely : Prop := fnExactPartitionsOfRow.holds Try.pinned (OpenSpec.ofChange fnExactPartitionsOfWrong)

/-- 'laws.FnExactTransformWeights': WHATEVER THE INPUT: true; the input reads as it did. -/
def fnExactTransformWeightsSpec : ChangeSpec := { name := "fnExactTransformWeights", fn := fun _ => fun
  | [d1, d2] => { results := [.lit (.bool true)], args := [d1, d2] }
  | _ => none }
def fnExactTransformWeightsRow : OpenClaim := { program := "ytfcolgpfagbidaa", sum := "04d1289344e745b729c637e76f047c31d3a1ca0286514e606127ac2a4951d6d9", func := "loop.example/g01285/laws.FnExactTransformWeights", spec := "fnExactTransformWeights", plainKeys := false, apart := false }
def FnExactTransformWeightsSaid : Prop := fnExactTransformWeightsRow.holds Try.pinned (OpenSpec.ofChange fnExactTransformWeightsSpec)

/-- ITS FALSE NEIGHBOUR: 'it returns false'. Refute it at one input. -/
def fnExactTransformWeightsWrong : ChangeSpec := { name := "fnExactTransformWeights", fn := fun _ => fun
  | [d1, d2] => { results := [.lit (.bool false)], args := [d1, d2] }
  | _ => none }
def FnExactTransformWeightsWrongFalsely : Prop := fnExactTransformWeightsRow.holds Try.pinned (OpenSpec.ofChange fnExactTransformWeightsWrong)

/-- 'laws.FnExactValuesOf': WHATEVER THE INPUT: true; the input reads as it did. -/
def fnExactValuesOfSpec : ChangeSpec := { name := "fnExactValuesOf", fn := fun _ => fun
  | [d1, d2] => { results := [.lit (.bool true)], args := [d1, d2] }
  | _ => none }
def fnExactValuesOfRow : OpenClaim := { program := "ytfcolgpfagbidaa", sum := "04d1289344e745b729c637e76f047c31d3a1ca0286514e606127ac2a4951d6d9", func := "loop.example/g01285/laws.FnExactValuesOf", spec := "fnExactValuesOf", plainKeys := false, apart := false }
def FnExactValuesOfSaid : Prop := fnExactValuesOfRow.holds Try.pinned (OpenSpec.ofChange fnExactValuesOfSpec)

/-- ITS FALSE NEIGHBOUR: 'it returns false'. Refute it at one input. -/
def fnExactValuesOfWrong : ChangeSpec := { name := "fnExactValuesOf", fn := fun _ => fun
  | [d1, d2] => { results := [.lit (.bool false)], args := [d1, d2] }
  | _ => none }
def FnExactValuesOfWrongFalsely : Prop := fnExactValuesOfRow.holds Try.pinned (OpenSpec.ofChange fnExactValuesOfWrong)

/-- 'laws.FnExactCompletePoly': WHATEVER THE INPUT: true; the input reads as it did. -/
def fnExactCompletePolySpec : ChangeSpec := { name := "fnExactCompletePoly", fn := fun _ => fun
  | [d1, d2, d3] => { results := [.lit (.bool true)], args := [d1, d2, d3] }
  | _ => none }
def fnExactCompletePolyRow : OpenClaim := { program := "ytfcolgpfagbidaa", sum := "04d1289344e745b729c637e76f047c31d3a1ca0286514e606127ac2a4951d6d9", func := "loop.example/g01285/laws.FnExactCompletePoly", spec := "fnExactCompletePoly", unfollowed := true, recurses := true, plainKeys := false, apart := false }
def FnExactCompletePolySaid : Prop := fnExactCompletePolyRow.holds Try.pinned (OpenSpec.ofChange fnExactCompletePolySpec)

/-- ITS FALSE NEIGHBOUR: 'it returns false'. Refute it at one input. -/
def fnExactCompletePolyWrong : ChangeSpec := { name := "fnExactCompletePoly", fn := fun _ => fun
  | [d1, d2, d3] => { results := [.lit (.bool false)], args := [d1, d2, d3] }
  | _ => none }
def FnExactCompletePolyWrongFalsely : Prop := fnExactCompletePolyRow.holds Try.pinned (OpenSpec.ofChange fnExactCompletePolyWrong)

/-- 'laws.FnExactEnumeratorOf': WHATEVER THE INPUT: true; the input reads as it did. -/
def fnExactEnumeratorOfSpec : ChangeSpec := { name := "fnExactEnumeratorOf", fn := fun _ => fun
  | [d1, d2] => { results := [.lit (.bool true)], args := [d1, d2] }
  | _ => none }
def fnExactEnumeratorOfRow : OpenClaim := { program := "ytfcolgpfagbidaa", sum := "04d1289344e745b729c637e76f047c31d3a1ca0286514e606127ac2a4951d6d9", func := "loop.example/g01285/laws.FnExactEnumeratorOf", spec := "fnExactEnumeratorOf", unfollowed := true, recurses := true, plainKeys := false, apart := false }
def FnExactEnumeratorOfSaid : Prop := fnExactEnumeratorOfRow.holds Try.pinned (OpenSpec.ofChange fnExactEnumeratorOfSpec)

/-- ITS FALSE NEIGHBOUR: 'it returns false'. Refute it at one input. -/
def fnExactEnumeratorOfWrong : ChangeSpec := { name := "fnExactEnumeratorOf", fn := fun _ => fun
  | [d1, d2] => { results := [.lit (.bool false)], args := [d1, d2] }
  | _ => none }
def FnExactEnumeratorOfWrongFalsely : Prop := fnExactEnumeratorOfRow.holds Try.pinned (OpenSpec.ofChange fnExactEnumeratorOfWrong)

/-- 'laws.FnExactPowerSumPoly': WHATEVER THE INPUT: true; the input reads as it did. -/
def fnExactPowerSumPolySpec : ChangeSpec := { name := "fnExactPowerSumPoly", fn := fun _ => fun
  | [d1, d2, d3] => { results := [.lit (.bool true)], args := [d1, d2, d3] }
  | _ => none }
def fnExactPowerSumPolyRow : OpenClaim := { program := "ytfcolgpfagbidaa", sum := "04d1289344e745b729c637e76f047c31d3a1ca0286514e606127ac2a4951d6d9", func := "loop.example/g01285/laws.FnExactPowerSumPoly", spec := "fnExactPowerSumPoly", unfollowed := true, recurses := true, plainKeys := false, apart := false }
def FnExactPowerSumPolySaid : Prop := fnExactPowerSumPolyRow.holds Try.pinned (OpenSpec.ofChange fnExactPowerSumPolySpec)

/-- ITS FALSE NEIGHBOUR: 'it returns false'. Refute it at one input. -/
def fnExactPowerSumPolyWrong : ChangeSpec := { name := "fnExactPowerSumPoly", fn := fun _ => fun
  | [d1, d2, d3] => { results := [.lit (.bool false)], args := [d1, d2, d3] }
  | _ => none }
def FnExactPowerSumPolyWrongFalsely : Prop := fnExactPowerSumPolyRow.holds Try.pinned (OpenSpec.ofChange fnExactPowerSumPolyWrong)

/- THE SECOND FORM. 'bulk': how many values and letters a reading holds, each counted each time it is reached (what is shared counts as often as it is met; a slice's spare places count too). A statement '..UptoSaid' is the law's where the arguments, and the package variables that the reading takes, are together of bulk at most 1048576: NARROWER than '..Said'. Prove '..Said' where nothing that the law and all that it calls make is longer than what came in: it says more and counts as full. Else prove '..UptoSaid'. A law counts once. -/
mutual
def uptoBulk {H : Type} : DataW H → Nat
  | .lit (.string bytes) => bytes.length + 1
  | .lit _ => 1
  | .nil => 1
  | .ptr d => uptoBulk d + 1
  | .slice elems spare => uptoBulkAll elems + uptoBulkAll spare + 1
  | .agg parts => uptoBulkAll parts + 1
  | .iface _ d => uptoBulk d + 1
  | .map entries => uptoBulkEntries entries + 1
  | .held _ => 1
def uptoBulkAll {H : Type} : List (DataW H) → Nat
  | [] => 0
  | d :: r => uptoBulk d + uptoBulkAll r
def uptoBulkEntries {H : Type} : List (Lit × DataW H) → Nat
  | [] => 0
  | x :: r => uptoBulkEntry x + uptoBulkEntries r
def uptoBulkEntry {H : Type} : Lit × DataW H → Nat
  | (.string bytes, d) => bytes.length + uptoBulk d + 1
  | (_, d) => uptoBulk d + 1
 end
def uptoSmall : (H : Type) → List (DataW H) → Bool := fun _ ds => decide (uptoBulkAll ds ≤ 1048576)
def OpenSpec.upto (s : _root_.Go.ChangeSpec) : _root_.Go.OpenSpec := { _root_.Go.OpenSpec.ofChange s with cond := some uptoSmall }

/-- 'laws.FnExactPartitionsOf', WHERE WHAT IT READS IS OF BULK AT MOST 1048576: true; the input reads as it did. -/
def fnExactPartitionsOfUptoRow : OpenClaim := { program := "ytfcolgpfagbidaa", sum := "04d1289344e745b729c637e76f047c31d3a1ca0286514e606127ac2a4951d6d9", func := "loop.example/g01285/laws.FnExactPartitionsOf", spec := "fnExactPartitionsOf", recurses := true, plainKeys := false, apart := false, narrowed := true }
def FnExactPartitionsOfUptoSaid : Prop := fnExactPartitionsOfUptoRow.holds Try.pinned (OpenSpec.upto fnExactPartitionsOfSpec)

/-- 'laws.FnExactTransformWeights', WHERE WHAT IT READS IS OF BULK AT MOST 1048576: true; the input reads as it did. -/
def fnExactTransformWeightsUptoRow : OpenClaim := { program := "ytfcolgpfagbidaa", sum := "04d1289344e745b729c637e76f047c31d3a1ca0286514e606127ac2a4951d6d9", func := "loop.example/g01285/laws.FnExactTransformWeights", spec := "fnExactTransformWeights", plainKeys := false, apart := false, narrowed := true }
def FnExactTransformWeightsUptoSaid : Prop := fnExactTransformWeightsUptoRow.holds Try.pinned (OpenSpec.upto fnExactTransformWeightsSpec)

/-- 'laws.FnExactValuesOf', WHERE WHAT IT READS IS OF BULK AT MOST 1048576: true; the input reads as it did. -/
def fnExactValuesOfUptoRow : OpenClaim := { program := "ytfcolgpfagbidaa", sum := "04d1289344e745b729c637e76f047c31d3a1ca0286514e606127ac2a4951d6d9", func := "loop.example/g01285/laws.FnExactValuesOf", spec := "fnExactValuesOf", plainKeys := false, apart := false, narrowed := true }
def FnExactValuesOfUptoSaid : Prop := fnExactValuesOfUptoRow.holds Try.pinned (OpenSpec.upto fnExactValuesOfSpec)

/-- 'laws.FnExactCompletePoly', WHERE WHAT IT READS IS OF BULK AT MOST 1048576: true; the input reads as it did. -/
def fnExactCompletePolyUptoRow : OpenClaim := { program := "ytfcolgpfagbidaa", sum := "04d1289344e745b729c637e76f047c31d3a1ca0286514e606127ac2a4951d6d9", func := "loop.example/g01285/laws.FnExactCompletePoly", spec := "fnExactCompletePoly", unfollowed := true, recurses := true, plainKeys := false, apart := false, narrowed := true }
def FnExactCompletePolyUptoSaid : Prop := fnExactCompletePolyUptoRow.holds Try.pinned (OpenSpec.upto fnExactCompletePolySpec)

/-- 'laws.FnExactEnumeratorOf', WHERE WHAT IT READS IS OF BULK AT MOST 1048576: true; the input reads as it did. -/
def fnExactEnumeratorOfUptoRow : OpenClaim := { program := "ytfcolgpfagbidaa", sum := "04d1289344e745b729c637e76f047c31d3a1ca0286514e606127ac2a4951d6d9", func := "loop.example/g01285/laws.FnExactEnumeratorOf", spec := "fnExactEnumeratorOf", unfollowed := true, recurses := true, plainKeys := false, apart := false, narrowed := true }
def FnExactEnumeratorOfUptoSaid : Prop := fnExactEnumeratorOfUptoRow.holds Try.pinned (OpenSpec.upto fnExactEnumeratorOfSpec)

/-- 'laws.FnExactPowerSumPoly', WHERE WHAT IT READS IS OF BULK AT MOST 1048576: true; the input reads as it did. -/
def fnExactPowerSumPolyUptoRow : OpenClaim := { program := "ytfcolgpfagbidaa", sum := "04d1289344e745b729c637e76f047c31d3a1ca0286514e606127ac2a4951d6d9", func := "loop.example/g01285/laws.FnExactPowerSumPoly", spec := "fnExactPowerSumPoly", unfollowed := true, recurses := true, plainKeys := false, apart := false, narrowed := true }
def FnExactPowerSumPolyUptoSaid : Prop := fnExactPowerSumPolyUptoRow.holds Try.pinned (OpenSpec.upto fnExactPowerSumPolySpec)

end Rows
end Go.Proofs.Ytfcolgpfagbidaa
