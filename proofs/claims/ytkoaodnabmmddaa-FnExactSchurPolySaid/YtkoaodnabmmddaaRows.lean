/-
  No cell of these rows narrows 'for every input' (looked for: loops, veiled, ifaces, maps, wideKeys, modest, calm, conditions, laid).
  DERIVED. THE GIVEN ROWS OF THIS SEAT. 12 by the template 'for every input the law returns true; each argument reads behind the call as it read before'; 0 by the template 'total and deterministic' (their statements: YtkoaodnabmmddaaTotals.lean).
  GIVEN WITH THE SEED: the statements are not yours to turn. If you find one false, say at which input.
  Laid BY PROGRAM, IN A SANDBOX (cutbox-rows.mjs): the forced cells as the released guide's own fill.sh prints them over the translation 686249849079b4a6… (all of the seat's roots in one cut). By AI agents, Wed Nov 11 2026. No macro, syntax, notation, axiom, sorry.
-/
import Derived.Test.YtkoaodnabmmddaaChecked
import GoSem.Claim
import GoSem.ClaimJoined
import GoSem.ClaimMapViews
import Derived.JoinedTies
import Derived.KernelRfl
namespace Go.Proofs.Ytkoaodnabmmddaa
/- THE CELL 'sum', in the pinned program and in every row, IS THE sha256 OF THE DUMP (.gsa) THAT YtkoaodnabmmddaaProg.lean LOADS. Nothing in Lean hashes anything: it is a label: what it is worth is what the hold of that sum in a sandbox is worth. -/
noncomputable def Try.pinned : Pinned := { name := "ytkoaodnabmmddaa", sum := "686249849079b4a6b31f97704951d78a92f12b1cb445d8b7b7af8e8c37726313", checked := Try.checked }
namespace Rows
def none {H : Type} : Left H := { results := [], args := [] }

/-- 'laws.FnExactIsWordOf': WHATEVER THE INPUT: true; the input reads as it did. -/
def fnExactIsWordOfSpec : ChangeSpec := { name := "fnExactIsWordOf", fn := fun _ => fun
  | [d1, d2] => { results := [.lit (.bool true)], args := [d1, d2] }
  | _ => none }
def fnExactIsWordOfRow : OpenClaim := { program := "ytkoaodnabmmddaa", sum := "686249849079b4a6b31f97704951d78a92f12b1cb445d8b7b7af8e8c37726313", func := "loop.example/g01285/laws.FnExactIsWordOf", spec := "fnExactIsWordOf", unfollowed := true, recurses := true, plainKeys := false, apart := false }
def FnExactIsWordOfSaid : Prop := fnExactIsWordOfRow.holds Try.pinned (OpenSpec.ofChange fnExactIsWordOfSpec)

/-- ITS FALSE NEIGHBOUR: 'it returns false'. Refute it at one input. -/
def fnExactIsWordOfWrong : ChangeSpec := { name := "fnExactIsWordOf", fn := fun _ => fun
  | [d1, d2] => { results := [.lit (.bool false)], args := [d1, d2] }
  | _ => none }
def FnExactIsWordOfWrongFalsely : Prop := fnExactIsWordOfRow.holds Try.pinned (OpenSpec.ofChange fnExactIsWordOfWrong)

/-- 'laws.FnExactNamedCode': WHATEVER THE INPUT: true; the input reads as it did. -/
def fnExactNamedCodeSpec : ChangeSpec := { name := "fnExactNamedCode", fn := fun _ => fun
  | [d1, d2, d3] => { results := [.lit (.bool true)], args := [d1, d2, d3] }
  | _ => none }
def fnExactNamedCodeRow : OpenClaim := { program := "ytkoaodnabmmddaa", sum := "686249849079b4a6b31f97704951d78a92f12b1cb445d8b7b7af8e8c37726313", func := "loop.example/g01285/laws.FnExactNamedCode", spec := "fnExactNamedCode", unfollowed := true, recurses := true, plainKeys := false, apart := false }
def FnExactNamedCodeSaid : Prop := fnExactNamedCodeRow.holds Try.pinned (OpenSpec.ofChange fnExactNamedCodeSpec)

/-- ITS FALSE NEIGHBOUR: 'it returns false'. Refute it at one input. -/
def fnExactNamedCodeWrong : ChangeSpec := { name := "fnExactNamedCode", fn := fun _ => fun
  | [d1, d2, d3] => { results := [.lit (.bool false)], args := [d1, d2, d3] }
  | _ => none }
def FnExactNamedCodeWrongFalsely : Prop := fnExactNamedCodeRow.holds Try.pinned (OpenSpec.ofChange fnExactNamedCodeWrong)

/-- 'laws.FnExactExtendCode': WHATEVER THE INPUT: true; the input reads as it did. -/
def fnExactExtendCodeSpec : ChangeSpec := { name := "fnExactExtendCode", fn := fun _ => fun
  | [d] => { results := [.lit (.bool true)], args := [d] }
  | _ => none }
def fnExactExtendCodeRow : OpenClaim := { program := "ytkoaodnabmmddaa", sum := "686249849079b4a6b31f97704951d78a92f12b1cb445d8b7b7af8e8c37726313", func := "loop.example/g01285/laws.FnExactExtendCode", spec := "fnExactExtendCode", unfollowed := true, recurses := true, plainKeys := false, apart := false }
def FnExactExtendCodeSaid : Prop := fnExactExtendCodeRow.holds Try.pinned (OpenSpec.ofChange fnExactExtendCodeSpec)

/-- ITS FALSE NEIGHBOUR: 'it returns false'. Refute it at one input. -/
def fnExactExtendCodeWrong : ChangeSpec := { name := "fnExactExtendCode", fn := fun _ => fun
  | [d] => { results := [.lit (.bool false)], args := [d] }
  | _ => none }
def FnExactExtendCodeWrongFalsely : Prop := fnExactExtendCodeRow.holds Try.pinned (OpenSpec.ofChange fnExactExtendCodeWrong)

/-- 'laws.FnExactAddCodes': WHATEVER THE INPUT: true; the input reads as it did. -/
def fnExactAddCodesSpec : ChangeSpec := { name := "fnExactAddCodes", fn := fun _ => fun
  | [d1, d2] => { results := [.lit (.bool true)], args := [d1, d2] }
  | _ => none }
def fnExactAddCodesRow : OpenClaim := { program := "ytkoaodnabmmddaa", sum := "686249849079b4a6b31f97704951d78a92f12b1cb445d8b7b7af8e8c37726313", func := "loop.example/g01285/laws.FnExactAddCodes", spec := "fnExactAddCodes", unfollowed := true, recurses := true, plainKeys := false, apart := false }
def FnExactAddCodesSaid : Prop := fnExactAddCodesRow.holds Try.pinned (OpenSpec.ofChange fnExactAddCodesSpec)

/-- ITS FALSE NEIGHBOUR: 'it returns false'. Refute it at one input. -/
def fnExactAddCodesWrong : ChangeSpec := { name := "fnExactAddCodes", fn := fun _ => fun
  | [d1, d2] => { results := [.lit (.bool false)], args := [d1, d2] }
  | _ => none }
def FnExactAddCodesWrongFalsely : Prop := fnExactAddCodesRow.holds Try.pinned (OpenSpec.ofChange fnExactAddCodesWrong)

/-- 'laws.FnExactIsSelfDual': WHATEVER THE INPUT: true; the input reads as it did. -/
def fnExactIsSelfDualSpec : ChangeSpec := { name := "fnExactIsSelfDual", fn := fun _ => fun
  | [d] => { results := [.lit (.bool true)], args := [d] }
  | _ => none }
def fnExactIsSelfDualRow : OpenClaim := { program := "ytkoaodnabmmddaa", sum := "686249849079b4a6b31f97704951d78a92f12b1cb445d8b7b7af8e8c37726313", func := "loop.example/g01285/laws.FnExactIsSelfDual", spec := "fnExactIsSelfDual", unfollowed := true, recurses := true, plainKeys := false, apart := false }
def FnExactIsSelfDualSaid : Prop := fnExactIsSelfDualRow.holds Try.pinned (OpenSpec.ofChange fnExactIsSelfDualSpec)

/-- ITS FALSE NEIGHBOUR: 'it returns false'. Refute it at one input. -/
def fnExactIsSelfDualWrong : ChangeSpec := { name := "fnExactIsSelfDual", fn := fun _ => fun
  | [d] => { results := [.lit (.bool false)], args := [d] }
  | _ => none }
def FnExactIsSelfDualWrongFalsely : Prop := fnExactIsSelfDualRow.holds Try.pinned (OpenSpec.ofChange fnExactIsSelfDualWrong)

/-- 'laws.FnExactDistanceOf': WHATEVER THE INPUT: true; the input reads as it did. -/
def fnExactDistanceOfSpec : ChangeSpec := { name := "fnExactDistanceOf", fn := fun _ => fun
  | [d] => { results := [.lit (.bool true)], args := [d] }
  | _ => none }
def fnExactDistanceOfRow : OpenClaim := { program := "ytkoaodnabmmddaa", sum := "686249849079b4a6b31f97704951d78a92f12b1cb445d8b7b7af8e8c37726313", func := "loop.example/g01285/laws.FnExactDistanceOf", spec := "fnExactDistanceOf", unfollowed := true, recurses := true, plainKeys := false, apart := false }
def FnExactDistanceOfSaid : Prop := fnExactDistanceOfRow.holds Try.pinned (OpenSpec.ofChange fnExactDistanceOfSpec)

/-- ITS FALSE NEIGHBOUR: 'it returns false'. Refute it at one input. -/
def fnExactDistanceOfWrong : ChangeSpec := { name := "fnExactDistanceOf", fn := fun _ => fun
  | [d] => { results := [.lit (.bool false)], args := [d] }
  | _ => none }
def FnExactDistanceOfWrongFalsely : Prop := fnExactDistanceOfRow.holds Try.pinned (OpenSpec.ofChange fnExactDistanceOfWrong)

/-- 'laws.FnExactWeightsOf': WHATEVER THE INPUT: true; the input reads as it did. -/
def fnExactWeightsOfSpec : ChangeSpec := { name := "fnExactWeightsOf", fn := fun _ => fun
  | [d] => { results := [.lit (.bool true)], args := [d] }
  | _ => none }
def fnExactWeightsOfRow : OpenClaim := { program := "ytkoaodnabmmddaa", sum := "686249849079b4a6b31f97704951d78a92f12b1cb445d8b7b7af8e8c37726313", func := "loop.example/g01285/laws.FnExactWeightsOf", spec := "fnExactWeightsOf", unfollowed := true, recurses := true, plainKeys := false, apart := false }
def FnExactWeightsOfSaid : Prop := fnExactWeightsOfRow.holds Try.pinned (OpenSpec.ofChange fnExactWeightsOfSpec)

/-- ITS FALSE NEIGHBOUR: 'it returns false'. Refute it at one input. -/
def fnExactWeightsOfWrong : ChangeSpec := { name := "fnExactWeightsOf", fn := fun _ => fun
  | [d] => { results := [.lit (.bool false)], args := [d] }
  | _ => none }
def FnExactWeightsOfWrongFalsely : Prop := fnExactWeightsOfRow.holds Try.pinned (OpenSpec.ofChange fnExactWeightsOfWrong)

/-- 'laws.FnExactDualCode': WHATEVER THE INPUT: true; the input reads as it did. -/
def fnExactDualCodeSpec : ChangeSpec := { name := "fnExactDualCode", fn := fun _ => fun
  | [d] => { results := [.lit (.bool true)], args := [d] }
  | _ => none }
def fnExactDualCodeRow : OpenClaim := { program := "ytkoaodnabmmddaa", sum := "686249849079b4a6b31f97704951d78a92f12b1cb445d8b7b7af8e8c37726313", func := "loop.example/g01285/laws.FnExactDualCode", spec := "fnExactDualCode", unfollowed := true, recurses := true, plainKeys := false, apart := false }
def FnExactDualCodeSaid : Prop := fnExactDualCodeRow.holds Try.pinned (OpenSpec.ofChange fnExactDualCodeSpec)

/-- ITS FALSE NEIGHBOUR: 'it returns false'. Refute it at one input. -/
def fnExactDualCodeWrong : ChangeSpec := { name := "fnExactDualCode", fn := fun _ => fun
  | [d] => { results := [.lit (.bool false)], args := [d] }
  | _ => none }
def FnExactDualCodeWrongFalsely : Prop := fnExactDualCodeRow.holds Try.pinned (OpenSpec.ofChange fnExactDualCodeWrong)

/-- 'laws.FnExactPunctureCode': WHATEVER THE INPUT: true; the input reads as it did. -/
def fnExactPunctureCodeSpec : ChangeSpec := { name := "fnExactPunctureCode", fn := fun _ => fun
  | [d1, d2] => { results := [.lit (.bool true)], args := [d1, d2] }
  | _ => none }
def fnExactPunctureCodeRow : OpenClaim := { program := "ytkoaodnabmmddaa", sum := "686249849079b4a6b31f97704951d78a92f12b1cb445d8b7b7af8e8c37726313", func := "loop.example/g01285/laws.FnExactPunctureCode", spec := "fnExactPunctureCode", unfollowed := true, recurses := true, plainKeys := false, apart := false }
def FnExactPunctureCodeSaid : Prop := fnExactPunctureCodeRow.holds Try.pinned (OpenSpec.ofChange fnExactPunctureCodeSpec)

/-- ITS FALSE NEIGHBOUR: 'it returns false'. Refute it at one input. -/
def fnExactPunctureCodeWrong : ChangeSpec := { name := "fnExactPunctureCode", fn := fun _ => fun
  | [d1, d2] => { results := [.lit (.bool false)], args := [d1, d2] }
  | _ => none }
def FnExactPunctureCodeWrongFalsely : Prop := fnExactPunctureCodeRow.holds Try.pinned (OpenSpec.ofChange fnExactPunctureCodeWrong)

/-- 'laws.FnExactShortenCode': WHATEVER THE INPUT: true; the input reads as it did. -/
def fnExactShortenCodeSpec : ChangeSpec := { name := "fnExactShortenCode", fn := fun _ => fun
  | [d1, d2] => { results := [.lit (.bool true)], args := [d1, d2] }
  | _ => none }
def fnExactShortenCodeRow : OpenClaim := { program := "ytkoaodnabmmddaa", sum := "686249849079b4a6b31f97704951d78a92f12b1cb445d8b7b7af8e8c37726313", func := "loop.example/g01285/laws.FnExactShortenCode", spec := "fnExactShortenCode", unfollowed := true, recurses := true, plainKeys := false, apart := false }
def FnExactShortenCodeSaid : Prop := fnExactShortenCodeRow.holds Try.pinned (OpenSpec.ofChange fnExactShortenCodeSpec)

/-- ITS FALSE NEIGHBOUR: 'it returns false'. Refute it at one input. -/
def fnExactShortenCodeWrong : ChangeSpec := { name := "fnExactShortenCode", fn := fun _ => fun
  | [d1, d2] => { results := [.lit (.bool false)], args := [d1, d2] }
  | _ => none }
def FnExactShortenCodeWrongFalsely : Prop := fnExactShortenCodeRow.holds Try.pinned (OpenSpec.ofChange fnExactShortenCodeWrong)

/-- 'laws.FnExactSymmetricOf': WHATEVER THE INPUT: true; the input reads as it did. -/
def fnExactSymmetricOfSpec : ChangeSpec := { name := "fnExactSymmetricOf", fn := fun _ => fun
  | [d] => { results := [.lit (.bool true)], args := [d] }
  | _ => none }
def fnExactSymmetricOfRow : OpenClaim := { program := "ytkoaodnabmmddaa", sum := "686249849079b4a6b31f97704951d78a92f12b1cb445d8b7b7af8e8c37726313", func := "loop.example/g01285/laws.FnExactSymmetricOf", spec := "fnExactSymmetricOf", unfollowed := true, recurses := true, plainKeys := false, apart := false }
def FnExactSymmetricOfSaid : Prop := fnExactSymmetricOfRow.holds Try.pinned (OpenSpec.ofChange fnExactSymmetricOfSpec)

/-- ITS FALSE NEIGHBOUR: 'it returns false'. Refute it at one input. -/
def fnExactSymmetricOfWrong : ChangeSpec := { name := "fnExactSymmetricOf", fn := fun _ => fun
  | [d] => { results := [.lit (.bool false)], args := [d] }
  | _ => none }
def FnExactSymmetricOfWrongFalsely : Prop := fnExactSymmetricOfRow.holds Try.pinned (OpenSpec.ofChange fnExactSymmetricOfWrong)

/-- 'laws.FnExactSchurPoly': WHATEVER THE INPUT: true; the input reads as it did. -/
def fnExactSchurPolySpec : ChangeSpec := { name := "fnExactSchurPoly", fn := fun _ => fun
  | [d1, d2] => { results := [.lit (.bool true)], args := [d1, d2] }
  | _ => none }
def fnExactSchurPolyRow : OpenClaim := { program := "ytkoaodnabmmddaa", sum := "686249849079b4a6b31f97704951d78a92f12b1cb445d8b7b7af8e8c37726313", func := "loop.example/g01285/laws.FnExactSchurPoly", spec := "fnExactSchurPoly", unfollowed := true, recurses := true, plainKeys := false, apart := false }
def FnExactSchurPolySaid : Prop := fnExactSchurPolyRow.holds Try.pinned (OpenSpec.ofChange fnExactSchurPolySpec)

/-- ITS FALSE NEIGHBOUR: 'it returns false'. Refute it at one input. -/
def fnExactSchurPolyWrong : ChangeSpec := { name := "fnExactSchurPoly", fn := fun _ => fun
  | [d1, d2] => { results := [.lit (.bool false)], args := [d1, d2] }
  | _ => none }
def FnExactSchurPolyWrongFalsely : Prop := fnExactSchurPolyRow.holds Try.pinned (OpenSpec.ofChange fnExactSchurPolyWrong)

/- THE SECOND FORM. 'bulk': how many values and letters a reading holds, each counted each time it is reached (what is shared counts as often as it is met; a slice's spare places count too). A statement '..UptoSaid' is the law's where the arguments, and the package variables that the reading takes, are together of bulk at most 1048576: NARROWER than '..Said'. Prove '..Said' where nothing that the law and all that it calls make is longer than what came in: it says more and counts as full. Else prove '..UptoSaid'. A law counts once. -/
mutual
def uptoBulk {H : Type} : DataW H → Nat
  | .lit (.string bytes) => bytes.length + 1
  | .lit _ => 1
  | .nil => 1
  | .ptr d => uptoBulk d + 1
  | .slice elems spare => uptoBulkAll elems + uptoBulkAll spare + 1
  | .agg parts => uptoBulkAll parts + 1
  | .iface _ d => uptoBulk d + 1
  | .map entries => uptoBulkEntries entries + 1
  | .held _ => 1
def uptoBulkAll {H : Type} : List (DataW H) → Nat
  | [] => 0
  | d :: r => uptoBulk d + uptoBulkAll r
def uptoBulkEntries {H : Type} : List (Lit × DataW H) → Nat
  | [] => 0
  | x :: r => uptoBulkEntry x + uptoBulkEntries r
def uptoBulkEntry {H : Type} : Lit × DataW H → Nat
  | (.string bytes, d) => bytes.length + uptoBulk d + 1
  | (_, d) => uptoBulk d + 1
 end
def uptoSmall : (H : Type) → List (DataW H) → Bool := fun _ ds => decide (uptoBulkAll ds ≤ 1048576)
def OpenSpec.upto (s : _root_.Go.ChangeSpec) : _root_.Go.OpenSpec := { _root_.Go.OpenSpec.ofChange s with cond := some uptoSmall }

/-- 'laws.FnExactIsWordOf', WHERE WHAT IT READS IS OF BULK AT MOST 1048576: true; the input reads as it did. -/
def fnExactIsWordOfUptoRow : OpenClaim := { program := "ytkoaodnabmmddaa", sum := "686249849079b4a6b31f97704951d78a92f12b1cb445d8b7b7af8e8c37726313", func := "loop.example/g01285/laws.FnExactIsWordOf", spec := "fnExactIsWordOf", unfollowed := true, recurses := true, plainKeys := false, apart := false, narrowed := true }
def FnExactIsWordOfUptoSaid : Prop := fnExactIsWordOfUptoRow.holds Try.pinned (OpenSpec.upto fnExactIsWordOfSpec)

/-- 'laws.FnExactNamedCode', WHERE WHAT IT READS IS OF BULK AT MOST 1048576: true; the input reads as it did. -/
def fnExactNamedCodeUptoRow : OpenClaim := { program := "ytkoaodnabmmddaa", sum := "686249849079b4a6b31f97704951d78a92f12b1cb445d8b7b7af8e8c37726313", func := "loop.example/g01285/laws.FnExactNamedCode", spec := "fnExactNamedCode", unfollowed := true, recurses := true, plainKeys := false, apart := false, narrowed := true }
def FnExactNamedCodeUptoSaid : Prop := fnExactNamedCodeUptoRow.holds Try.pinned (OpenSpec.upto fnExactNamedCodeSpec)

/-- 'laws.FnExactExtendCode', WHERE WHAT IT READS IS OF BULK AT MOST 1048576: true; the input reads as it did. -/
def fnExactExtendCodeUptoRow : OpenClaim := { program := "ytkoaodnabmmddaa", sum := "686249849079b4a6b31f97704951d78a92f12b1cb445d8b7b7af8e8c37726313", func := "loop.example/g01285/laws.FnExactExtendCode", spec := "fnExactExtendCode", unfollowed := true, recurses := true, plainKeys := false, apart := false, narrowed := true }
def FnExactExtendCodeUptoSaid : Prop := fnExactExtendCodeUptoRow.holds Try.pinned (OpenSpec.upto fnExactExtendCodeSpec)

/-- 'laws.FnExactAddCodes', WHERE WHAT IT READS IS OF BULK AT MOST 1048576: true; the input reads as it did. -/
def fnExactAddCodesUptoRow : OpenClaim := { program := "ytkoaodnabmmddaa", sum := "686249849079b4a6b31f97704951d78a92f12b1cb445d8b7b7af8e8c37726313", func := "loop.example/g01285/laws.FnExactAddCodes", spec := "fnExactAddCodes", unfollowed := true, recurses := true, plainKeys := false, apart := false, narrowed := true }
def FnExactAddCodesUptoSaid : Prop := fnExactAddCodesUptoRow.holds Try.pinned (OpenSpec.upto fnExactAddCodesSpec)

/-- 'laws.FnExactIsSelfDual', WHERE WHAT IT READS IS OF BULK AT MOST 1048576: true; the input reads as it did. -/
def fnExactIsSelfDualUptoRow : OpenClaim := { program := "ytkoaodnabmmddaa", sum := "686249849079b4a6b31f97704951d78a92f12b1cb445d8b7b7af8e8c37726313", func := "loop.example/g01285/laws.FnExactIsSelfDual", spec := "fnExactIsSelfDual", unfollowed := true, recurses := true, plainKeys := false, apart := false, narrowed := true }
def FnExactIsSelfDualUptoSaid : Prop := fnExactIsSelfDualUptoRow.holds Try.pinned (OpenSpec.upto fnExactIsSelfDualSpec)

/-- 'laws.FnExactDistanceOf', WHERE WHAT IT READS IS OF BULK AT MOST 1048576: true; the input reads as it did. -/
def fnExactDistanceOfUptoRow : OpenClaim := { program := "ytkoaodnabmmddaa", sum := "686249849079b4a6b31f97704951d78a92f12b1cb445d8b7b7af8e8c37726313", func := "loop.example/g01285/laws.FnExactDistanceOf", spec := "fnExactDistanceOf", unfollowed := true, recurses := true, plainKeys := false, apart := false, narrowed := true }
def FnExactDistanceOfUptoSaid : Prop := fnExactDistanceOfUptoRow.holds Try.pinned (OpenSpec.upto fnExactDistanceOfSpec)

/-- 'laws.FnExactWeightsOf', WHERE WHAT IT READS IS OF BULK AT MOST 1048576: true; the input reads as it did. -/
def fnExactWeightsOfUptoRow : OpenClaim := { program := "ytkoaodnabmmddaa", sum := "686249849079b4a6b31f97704951d78a92f12b1cb445d8b7b7af8e8c37726313", func := "loop.example/g01285/laws.FnExactWeightsOf", spec := "fnExactWeightsOf", unfollowed := true, recurses := true, plainKeys := false, apart := false, narrowed := true }
def FnExactWeightsOfUptoSaid : Prop := fnExactWeightsOfUptoRow.holds Try.pinned (OpenSpec.upto fnExactWeightsOfSpec)

/-- 'laws.FnExactDualCode', WHERE WHAT IT READS IS OF BULK AT MOST 1048576: true; the input reads as it did. -/
def fnExactDualCodeUptoRow : OpenClaim := { program := "ytkoaodnabmmddaa", sum := "686249849079b4a6b31f97704951d78a92f12b1cb445d8b7b7af8e8c37726313", func := "loop.example/g01285/laws.FnExactDualCode", spec := "fnExactDualCode", unfollowed := true, recurses := true, plainKeys := false, apart := false, narrowed := true }
def FnExactDualCodeUptoSaid : Prop := fnExactDualCodeUptoRow.holds Try.pinned (OpenSpec.upto fnExactDualCodeSpec)

/-- 'laws.FnExactPunctureCode', WHERE WHAT IT READS IS OF BULK AT MOST 1048576: true; the input reads as it did. -/
def fnExactPunctureCodeUptoRow : OpenClaim := { program := "ytkoaodnabmmddaa", sum := "686249849079b4a6b31f97704951d78a92f12b1cb445d8b7b7af8e8c37726313", func := "loop.example/g01285/laws.FnExactPunctureCode", spec := "fnExactPunctureCode", unfollowed := true, recurses := true, plainKeys := false, apart := false, narrowed := true }
def FnExactPunctureCodeUptoSaid : Prop := fnExactPunctureCodeUptoRow.holds Try.pinned (OpenSpec.upto fnExactPunctureCodeSpec)

/-- 'laws.FnExactShortenCode', WHERE WHAT IT READS IS OF BULK AT MOST 1048576: true; the input reads as it did. -/
def fnExactShortenCodeUptoRow : OpenClaim := { program := "ytkoaodnabmmddaa", sum := "686249849079b4a6b31f97704951d78a92f12b1cb445d8b7b7af8e8c37726313", func := "loop.example/g01285/laws.FnExactShortenCode", spec := "fnExactShortenCode", unfollowed := true, recurses := true, plainKeys := false, apart := false, narrowed := true }
def FnExactShortenCodeUptoSaid : Prop := fnExactShortenCodeUptoRow.holds Try.pinned (OpenSpec.upto fnExactShortenCodeSpec)

/-- 'laws.FnExactSymmetricOf', WHERE WHAT IT READS IS OF BULK AT MOST 1048576: true; the input reads as it did. -/
def fnExactSymmetricOfUptoRow : OpenClaim := { program := "ytkoaodnabmmddaa", sum := "686249849079b4a6b31f97704951d78a92f12b1cb445d8b7b7af8e8c37726313", func := "loop.example/g01285/laws.FnExactSymmetricOf", spec := "fnExactSymmetricOf", unfollowed := true, recurses := true, plainKeys := false, apart := false, narrowed := true }
def FnExactSymmetricOfUptoSaid : Prop := fnExactSymmetricOfUptoRow.holds Try.pinned (OpenSpec.upto fnExactSymmetricOfSpec)

/-- 'laws.FnExactSchurPoly', WHERE WHAT IT READS IS OF BULK AT MOST 1048576: true; the input reads as it did. -/
def fnExactSchurPolyUptoRow : OpenClaim := { program := "ytkoaodnabmmddaa", sum := "686249849079b4a6b31f97704951d78a92f12b1cb445d8b7b7af8e8c37726313", func := "loop.example/g01285/laws.FnExactSchurPoly", spec := "fnExactSchurPoly", unfollowed := true, recurses := true, plainKeys := false, apart := false, narrowed := true }
def FnExactSchurPolyUptoSaid : Prop := fnExactSchurPolyUptoRow.holds Try.pinned (OpenSpec.upto fnExactSchurPolySpec)

end Rows
end Go.Proofs.Ytkoaodnabmmddaa
