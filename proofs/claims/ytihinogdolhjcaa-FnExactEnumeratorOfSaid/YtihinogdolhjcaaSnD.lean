/- More rules for simp, and common encodings. -/
import Derived.Test.YtihinogdolhjcaaSnC
namespace Go.Sm
open Go.RowKit

attribute [simp] argXC argXCs argXF argsX cellsF ownKeys stC stF stFs stOb stTm stObs keysOk keyAt outObs deads nodupB argTmX stA stACs stAEs stO stOCs stOEs

@[simp] theorem argEs_map {α : Type} (f : α → List D) (xs : List α) : argEs (xs.map f) = xs.map fun x => argCs (f x) := by induction xs <;> simp [argEs, *]
@[simp] theorem locEs_map {α : Type} (f : α → List D) (xs : List α) : locEs (xs.map f) = xs.map fun x => locCs (f x) := by induction xs <;> simp [locEs, *]
@[simp] theorem freshEs_map {α : Type} (f : α → List D) (xs : List α) : freshEs (xs.map f) = xs.all fun x => freshCs (f x) := by induction xs <;> simp [freshEs, *]
@[simp] theorem stAEs_map {α : Type} (f : α → List D) (xs : List α) : stAEs (xs.map f) = xs.all fun x => stACs (f x) := by induction xs <;> simp [stAEs, *]
@[simp] theorem stOEs_map {α : Type} (f : α → List D) (xs : List α) : stOEs (xs.map f) = xs.all fun x => stOCs (f x) := by induction xs <;> simp [stOEs, *]
@[simp] theorem okNo_map {α : Type} (f : α → List D) (xs : List α) : okNo (xs.map f) = xs.all fun x => okNoC (f x) := by induction xs <;> simp [okNo, *]

@[simp] theorem all_tt {α : Type} (xs : List α) : (xs.all fun _ => true) = true := by simp

abbrev ints (xs : List Int) : List (List D) := xs.map fun i => [.v (.int .i64 i)]
abbrev vInts (xs : List Int) : D := .vw true 1 (ints xs)
abbrev oInts (xs : List Int) : D := .own 2 1 (ints xs)
abbrev vIntss (xss : List (List Int)) : D := .vw true 1 (xss.map fun xs => [vInts xs])
abbrev oIntss (xss : List (List Int)) : D := .own 22 1 (xss.map fun xs => [oInts xs])
abbrev i64 (n : Int) : D := .v (.int .i64 n)
abbrev bo (b : Bool) : D := .v (.bool b)

theorem mixed : Go.Proofs.Try.prog.follows .mixedOrders = true := by kernel_rfl

theorem wrap64 {x : Int} (h1 : -9223372036854775808 ≤ x) (h2 : x < 9223372036854775808) : IntKind.i64.wrap x = x := by
  have : IntKind.i64.wrap x = if x % 18446744073709551616 ≥ 9223372036854775808 then x % 18446744073709551616 - 18446744073709551616 else x % 18446744073709551616 := by
    simp [IntKind.wrap, IntKind.bits, IntKind.signed]
  rw [this]; split <;> omega
theorem wrapS {i n : Nat} (h : i < n) (hn : n < 4611686018427387904) : IntKind.i64.wrap ((i : Int) + 1) = ((i + 1 : Nat) : Int) := by rw [wrap64] <;> omega
theorem drop_cons {α : Type} {xs : List α} {i : Nat} {x : α} (h : xs[i]? = some x) : xs.drop i = x :: xs.drop (i + 1) := by
  obtain ⟨h1, rfl⟩ := List.getElem?_eq_some_iff.1 h
  exact List.drop_eq_getElem_cons h1

theorem fnOk (N : Nat) (rs : List ResultVar) : FnOk ⟨Go.Proofs.Try.prog, tab, etab, N, rs⟩ := ⟨tab_ok, etab_ok⟩

end Go.Sm
