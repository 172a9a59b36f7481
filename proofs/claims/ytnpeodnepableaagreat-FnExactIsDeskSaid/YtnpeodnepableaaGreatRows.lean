/-
  No cell of these rows narrows 'for every input' (looked for: loops, veiled, ifaces, maps, wideKeys, modest, calm, conditions, laid).
  DERIVED. THE GIVEN ROWS OF THIS SEAT. 4 by the template 'for every input the law returns true; each argument reads behind the call as it read before'; 0 by the template 'total and deterministic' (their statements: YtnpeodnepableaaGreatTotals.lean).
  GIVEN WITH THE SEED: the statements are not yours to turn. If you find one false, say at which input.
  Laid BY PROGRAM, IN A SANDBOX (cutbox-rows.mjs): the forced cells as the released guide's own fill.sh prints them over the translation 320b608f3faf1847… (all of the seat's roots in one cut). By AI agents, Wed Nov 11 2026. No macro, syntax, notation, axiom, sorry.
-/
import Derived.Test.YtnpeodnepableaaGreatChecked
import GoSem.Claim
import GoSem.ClaimJoined
import GoSem.ClaimMapViews
import Derived.JoinedTies
import Derived.KernelRfl
namespace Go.Proofs.YtnpeodnepableaaGreat
/- THE CELL 'sum', in the pinned program and in every row, IS THE sha256 OF THE DUMP (.gsa) THAT YtnpeodnepableaaGreatProg.lean LOADS. Nothing in Lean hashes anything: it is a label: what it is worth is what the hold of that sum in a sandbox is worth. -/
noncomputable def Tryz.pinned : Pinned := { name := "ytnpeodnepableaagreat", sum := "320b608f3faf18471e78a8f1153b2420a24aa4d51ab9433caa2a6692fcfd2401", checked := Tryz.checked }
namespace Rows
def none {H : Type} : Left H := { results := [], args := [] }

/-- 'laws.FnExactIsDesk': WHATEVER THE INPUT: true; the input reads as it did. -/
def fnExactIsDeskSpec : ChangeSpec := { name := "fnExactIsDesk", fn := fun _ => fun
  | [d] => { results := [.lit (.bool true)], args := [d] }
  | _ => none }
def fnExactIsDeskRow : OpenClaim := { program := "ytnpeodnepableaagreat", sum := "320b608f3faf18471e78a8f1153b2420a24aa4d51ab9433caa2a6692fcfd2401", func := "loop.example/g01285/laws.FnExactIsDesk", spec := "fnExactIsDesk", inPlace := ["internal/bytealg.Compare"], unfollowed := true, recurses := true, plainKeys := false, apart := false }
def FnExactIsDeskSaid : Prop := fnExactIsDeskRow.holds Tryz.pinned (OpenSpec.ofChange fnExactIsDeskSpec)

/-- ITS FALSE NEIGHBOUR: 'it returns false'. Refute it at one input. -/
def fnExactIsDeskWrong : ChangeSpec := { name := "fnExactIsDesk", fn := fun _ => fun
  | [d] => { results := [.lit (.bool false)], args := [d] }
  | _ => none }
def FnExactIsDeskWrongFalsely : Prop := fnExactIsDeskRow.holds Tryz.pinned (OpenSpec.ofChange fnExactIsDeskWrong)

/-- 'laws.FnExactSeparatesOrbits': WHATEVER THE INPUT: true; the input reads as it did. -/
def fnExactSeparatesOrbitsSpec : ChangeSpec := { name := "fnExactSeparatesOrbits", fn := fun _ => fun
  | [d1, d2] => { results := [.lit (.bool true)], args := [d1, d2] }
  | _ => none }
def fnExactSeparatesOrbitsRow : OpenClaim := { program := "ytnpeodnepableaagreat", sum := "320b608f3faf18471e78a8f1153b2420a24aa4d51ab9433caa2a6692fcfd2401", func := "loop.example/g01285/laws.FnExactSeparatesOrbits", spec := "fnExactSeparatesOrbits", inPlace := ["internal/bytealg.Compare"], unfollowed := true, recurses := true, plainKeys := false, apart := false }
def FnExactSeparatesOrbitsSaid : Prop := fnExactSeparatesOrbitsRow.holds Tryz.pinned (OpenSpec.ofChange fnExactSeparatesOrbitsSpec)

/-- ITS FALSE NEIGHBOUR: 'it returns false'. Refute it at one input. -/
def fnExactSeparatesOrbitsWrong : ChangeSpec := { name := "fnExactSeparatesOrbits", fn := fun _ => fun
  | [d1, d2] => { results := [.lit (.bool false)], args := [d1, d2] }
  | _ => none }
def FnExactSeparatesOrbitsWrongFalsely : Prop := fnExactSeparatesOrbitsRow.holds Tryz.pinned (OpenSpec.ofChange fnExactSeparatesOrbitsWrong)

/-- 'laws.FnExactCommonValues': WHATEVER THE INPUT: true; the input reads as it did. -/
def fnExactCommonValuesSpec : ChangeSpec := { name := "fnExactCommonValues", fn := fun _ => fun
  | [d1, d2] => { results := [.lit (.bool true)], args := [d1, d2] }
  | _ => none }
def fnExactCommonValuesRow : OpenClaim := { program := "ytnpeodnepableaagreat", sum := "320b608f3faf18471e78a8f1153b2420a24aa4d51ab9433caa2a6692fcfd2401", func := "loop.example/g01285/laws.FnExactCommonValues", spec := "fnExactCommonValues", inPlace := ["internal/bytealg.Compare"], unfollowed := true, recurses := true, plainKeys := false, apart := false }
def FnExactCommonValuesSaid : Prop := fnExactCommonValuesRow.holds Tryz.pinned (OpenSpec.ofChange fnExactCommonValuesSpec)

/-- ITS FALSE NEIGHBOUR: 'it returns false'. Refute it at one input. -/
def fnExactCommonValuesWrong : ChangeSpec := { name := "fnExactCommonValues", fn := fun _ => fun
  | [d1, d2] => { results := [.lit (.bool false)], args := [d1, d2] }
  | _ => none }
def FnExactCommonValuesWrongFalsely : Prop := fnExactCommonValuesRow.holds Tryz.pinned (OpenSpec.ofChange fnExactCommonValuesWrong)

/-- 'laws.FnExactTransferNumber': WHATEVER THE INPUT: true; the input reads as it did. -/
def fnExactTransferNumberSpec : ChangeSpec := { name := "fnExactTransferNumber", fn := fun _ => fun
  | [d1, d2] => { results := [.lit (.bool true)], args := [d1, d2] }
  | _ => none }
def fnExactTransferNumberRow : OpenClaim := { program := "ytnpeodnepableaagreat", sum := "320b608f3faf18471e78a8f1153b2420a24aa4d51ab9433caa2a6692fcfd2401", func := "loop.example/g01285/laws.FnExactTransferNumber", spec := "fnExactTransferNumber", inPlace := ["internal/bytealg.Compare"], unfollowed := true, recurses := true, plainKeys := false, apart := false }
def FnExactTransferNumberSaid : Prop := fnExactTransferNumberRow.holds Tryz.pinned (OpenSpec.ofChange fnExactTransferNumberSpec)

/-- ITS FALSE NEIGHBOUR: 'it returns false'. Refute it at one input. -/
def fnExactTransferNumberWrong : ChangeSpec := { name := "fnExactTransferNumber", fn := fun _ => fun
  | [d1, d2] => { results := [.lit (.bool false)], args := [d1, d2] }
  | _ => none }
def FnExactTransferNumberWrongFalsely : Prop := fnExactTransferNumberRow.holds Tryz.pinned (OpenSpec.ofChange fnExactTransferNumberWrong)

/- THE SECOND FORM. 'bulk': how many values and letters a reading holds, each counted each time it is reached (what is shared counts as often as it is met; a slice's spare places count too). A statement '..UptoSaid' is the law's where the arguments, and the package variables that the reading takes, are together of bulk at most 1048576: NARROWER than '..Said'. Prove '..Said' where nothing that the law and all that it calls make is longer than what came in: it says more and counts as full. Else prove '..UptoSaid'. A law counts once. -/
mutual
def uptoBulk {H : Type} : DataW H → Nat
  | .lit (.string bytes) => bytes.length + 1
  | .lit _ => 1
  | .nil => 1
  | .ptr d => uptoBulk d + 1
  | .slice elems spare => uptoBulkAll elems + uptoBulkAll spare + 1
  | .agg parts => uptoBulkAll parts + 1
  | .iface _ d => uptoBulk d + 1
  | .map entries => uptoBulkEntries entries + 1
  | .held _ => 1
def uptoBulkAll {H : Type} : List (DataW H) → Nat
  | [] => 0
  | d :: r => uptoBulk d + uptoBulkAll r
def uptoBulkEntries {H : Type} : List (Lit × DataW H) → Nat
  | [] => 0
  | x :: r => uptoBulkEntry x + uptoBulkEntries r
def uptoBulkEntry {H : Type} : Lit × DataW H → Nat
  | (.string bytes, d) => bytes.length + uptoBulk d + 1
  | (_, d) => uptoBulk d + 1
 end
def uptoSmall : (H : Type) → List (DataW H) → Bool := fun _ ds => decide (uptoBulkAll ds ≤ 1048576)
def OpenSpec.upto (s : _root_.Go.ChangeSpec) : _root_.Go.OpenSpec := { _root_.Go.OpenSpec.ofChange s with cond := some uptoSmall }

/-- 'laws.FnExactIsDesk', WHERE WHAT IT READS IS OF BULK AT MOST 1048576: true; the input reads as it did. -/
def fnExactIsDeskUptoRow : OpenClaim := { program := "ytnpeodnepableaagreat", sum := "320b608f3faf18471e78a8f1153b2420a24aa4d51ab9433caa2a6692fcfd2401", func := "loop.example/g01285/laws.FnExactIsDesk", spec := "fnExactIsDesk", inPlace := ["internal/bytealg.Compare"], unfollowed := true, recurses := true, plainKeys := false, apart := false, narrowed := true }
def FnExactIsDeskUptoSaid : Prop := fnExactIsDeskUptoRow.holds Tryz.pinned (OpenSpec.upto fnExactIsDeskSpec)

/-- 'laws.FnExactSeparatesOrbits', WHERE WHAT IT READS IS OF BULK AT MOST 1048576: true; the input reads as it did. -/
def fnExactSeparatesOrbitsUptoRow : OpenClaim := { program := "ytnpeodnepableaagreat", sum := "320b608f3faf18471e78a8f1153b2420a24aa4d51ab9433caa2a6692fcfd2401", func := "loop.example/g01285/laws.FnExactSeparatesOrbits", spec := "fnExactSeparatesOrbits", inPlace := ["internal/bytealg.Compare"], unfollowed := true, recurses := true, plainKeys := false, apart := false, narrowed := true }
def FnExactSeparatesOrbitsUptoSaid : Prop := fnExactSeparatesOrbitsUptoRow.holds Tryz.pinned (OpenSpec.upto fnExactSeparatesOrbitsSpec)

/-- 'laws.FnExactCommonValues', WHERE WHAT IT READS IS OF BULK AT MOST 1048576: true; the input reads as it did. -/
def fnExactCommonValuesUptoRow : OpenClaim := { program := "ytnpeodnepableaagreat", sum := "320b608f3faf18471e78a8f1153b2420a24aa4d51ab9433caa2a6692fcfd2401", func := "loop.example/g01285/laws.FnExactCommonValues", spec := "fnExactCommonValues", inPlace := ["internal/bytealg.Compare"], unfollowed := true, recurses := true, plainKeys := false, apart := false, narrowed := true }
def FnExactCommonValuesUptoSaid : Prop := fnExactCommonValuesUptoRow.holds Tryz.pinned (OpenSpec.upto fnExactCommonValuesSpec)

/-- 'laws.FnExactTransferNumber', WHERE WHAT IT READS IS OF BULK AT MOST 1048576: true; the input reads as it did. -/
def fnExactTransferNumberUptoRow : OpenClaim := { program := "ytnpeodnepableaagreat", sum := "320b608f3faf18471e78a8f1153b2420a24aa4d51ab9433caa2a6692fcfd2401", func := "loop.example/g01285/laws.FnExactTransferNumber", spec := "fnExactTransferNumber", inPlace := ["internal/bytealg.Compare"], unfollowed := true, recurses := true, plainKeys := false, apart := false, narrowed := true }
def FnExactTransferNumberUptoSaid : Prop := fnExactTransferNumberUptoRow.holds Tryz.pinned (OpenSpec.upto fnExactTransferNumberSpec)

end Rows
end Go.Proofs.YtnpeodnepableaaGreat
