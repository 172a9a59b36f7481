/- Towards FnExactVandermondePolySaid: the program's function returns what the reference's returns. Part 6 of 6. -/
import Derived.Test.YtihinogdolhjcaaRows
import Derived.WalkKit
import Derived.ProofKit
import Derived.OpenShut
import Derived.ShutString
import Derived.ChangeOld
import Derived.Below
import Derived.SizedLaws
import Derived.Test.YtihinogdolhjcaaPkQrVandermondePolyA
import Derived.Test.YtihinogdolhjcaaPkQrVandermondePolyB
import Derived.Test.YtihinogdolhjcaaPkQrVandermondePolyC
import Derived.Test.YtihinogdolhjcaaPkQrVandermondePolyD
import Derived.Test.YtihinogdolhjcaaPkQrVandermondePolyE
namespace Go.Proofs.Ytihinogdolhjcaa.fnExactVandermondePoly
open Go.ChangeShapes Go.WideShapes Go.ChangeAt Go.RowKit
open Go.ChangeMaps (open_string shut_string)
theorem own : ownKnob Try.prog.godebug = none := by kernel_rfl

set_option maxRecDepth 100000 in
theorem lifted (os : Os) (started : os.Started) (H : Type) (enc : TypeId × Value → H) :
    ReturnsInHanded {} Try.checked os 8 .any (Rows.fnExactVandermondePolySpec.pre6 enc Try.prog Try.f8 Rows.fnExactVandermondePolyRow.domain false) (Rows.fnExactVandermondePolySpec.post enc Try.prog Try.f8 false true false false) := by
  refine returnsInHanded_of_change_sized (C := Try.checked) own started (by kernel_rfl) Try.func8
    (ChangeSpec.witness6 (enc := enc) (C := Try.checked) false ⟨#[], #[.int .i64 0, .int .i64 0], []⟩ 8 (by kernel_rfl) (by kernel_rfl) (by kernel_rfl) (by kernel_rfl)) ?_
  intro W base args ds gs before hval0 hW hcnd hsz0 _
  have hval : ∀ (j : Nat) t v, Try.f8.params[j]? = some t → args[j]? = some v → Value.okWide Try.prog W .any base t v := hval0
  have hW' := hW
  obtain ⟨p, q, hA0, hV, rfl, hfz, hnd⟩ := hW
  have hA : DataW.TrodAll enc Try.prog W 0 (fun _ => true) true Try.f8.params.toList args.toList ds p := hA0
  rw [Try.params8] at hA hval
  obtain ⟨v0, vs0, d0, ds0, p0, q0, hargs, rfl, rfl, h0, r0⟩ := trodAll_cons hA
  obtain ⟨v1, vs1, d1, ds1, p1, q1, rfl, rfl, rfl, h1, r1⟩ := trodAll_cons r0
  obtain ⟨rfl, rfl, rfl⟩ := trodAll_nil r1
  obtain rfl : args = #[v0, v1] := by cases args; simp_all
  obtain ⟨rfl, rfl⟩ := trodVars_none hV
  obtain ⟨a0, rfl, rfl, rfl, w0⟩ := open_int Try.underlying2 (hval 0 2 v0 rfl rfl) h0
  obtain ⟨a1, rfl, rfl, rfl, w1⟩ := open_int Try.underlying2 (hval 1 2 v1 rfl rfl) h1
  clear hA0 hval0 hsz0
  have hc := (Sm.FnExactVandermondePoly_ok a0 a1).2 W [.int .i64 a0, .int .i64 a1]
    ⟨_, _, rfl, ⟨[.int .i64 a0], rfl, rfl, _, _, rfl, by simp [Sm.Rd, Value.oneCell'], rfl⟩, _, _, rfl, ⟨[.int .i64 a1], rfl, rfl, _, _, rfl, by simp [Sm.Rd, Value.oneCell'], rfl⟩, rfl⟩
  refine hc.mono fun e W' ⟨v, he, ⟨vs, hs, _, hd, _, _⟩, bel⟩ => ?_
  subst he
  simp only [Sm.RShape] at hs
  subst hs
  obtain ⟨u, r, hu, hr, _⟩ := hd
  simp only [List.cons.injEq] at hu
  obtain ⟨rfl, _⟩ := hu
  simp only [Sm.Rd] at hr
  obtain ⟨rfl, _⟩ := hr
  exact ⟨_, rfl, _, _, _, [], _, [], hW', trodAll_mk1 (shut_bool Try.underlying4 _), (trodAll_cons_mk (shut_int Try.underlying2 w0) (trodAll_cons_mk (shut_int Try.underlying2 w1) trodAll_mk0)), rfl, bel.toBelow.frame _, fun h => by cases h⟩

theorem over : Rows.fnExactVandermondePolyRow.holds Try.pinned (OpenSpec.ofChange Rows.fnExactVandermondePolySpec) :=
  OpenClaim.holds_of_wide 8 Try.f8 rfl rfl rfl rfl rfl rfl rfl ⟨rfl, rfl, rfl, rfl, rfl⟩ rfl rfl rfl rfl rfl (by kernel_rfl) Try.func8 (by kernel_rfl)
    (of_decide_eq_true (by kernel_rfl)) (by unfold Func.isWrapper; first | (rw [if_pos (by decide +kernel)]; kernel_rfl) | (rw [if_neg (by decide +kernel)]; exact ⟨rfl, rfl⟩))
    (fun os started H enc _ => lifted os started H enc)
end Go.Proofs.Ytihinogdolhjcaa.fnExactVandermondePoly
namespace Go.Proofs.Ytihinogdolhjcaa
/-- The row, for the claim. -/
theorem fnExactVandermondePoly_holds : Rows.FnExactVandermondePolySaid := fnExactVandermondePoly.over
#print axioms fnExactVandermondePoly_holds
end Go.Proofs.Ytihinogdolhjcaa
