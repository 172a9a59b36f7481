/- The row: 'laws.FnExactElementaryPoly' returns true, whatever the input. -/
import Derived.Test.YtihinogdolhjcaaRows
import Derived.Test.YtihinogdolhjcaaQlElementaryPoly
import Derived.WalkKit
import Derived.ProofKit
import Derived.OpenShut
import Derived.ShutString
import Derived.ChangeOld
import Derived.Below
import Derived.SizedLaws
namespace Go.Proofs.Ytihinogdolhjcaa.fnExactElementaryPoly
open Go.ChangeShapes Go.WideShapes Go.ChangeAt Go.RowKit
open Go.ChangeMaps (open_string shut_string)
theorem own : ownKnob Try.prog.godebug = none := by kernel_rfl

set_option maxRecDepth 100000 in
theorem lifted (os : Os) (started : os.Started) (H : Type) (enc : TypeId × Value → H) :
    ReturnsInHanded {} Try.checked os 9 .any (Rows.fnExactElementaryPolySpec.pre6 enc Try.prog Try.f9 Rows.fnExactElementaryPolyRow.domain false) (Rows.fnExactElementaryPolySpec.post enc Try.prog Try.f9 false true false false) := by
  refine returnsInHanded_of_change_sized (C := Try.checked) own started (by kernel_rfl) Try.func9
    (ChangeSpec.witness6 (enc := enc) (C := Try.checked) false ⟨#[], #[.int .i64 0, .int .i64 0, .int .i64 0], []⟩ 8 (by kernel_rfl) (by kernel_rfl) (by kernel_rfl) (by kernel_rfl)) ?_
  intro W base args ds gs before hval0 hW hcnd hsz0 _
  have hval : ∀ (j : Nat) t v, Try.f9.params[j]? = some t → args[j]? = some v → Value.okWide Try.prog W .any base t v := hval0
  have hW' := hW
  obtain ⟨p, q, hA0, hV, rfl, hfz, hnd⟩ := hW
  have hA : DataW.TrodAll enc Try.prog W 0 (fun _ => true) true Try.f9.params.toList args.toList ds p := hA0
  rw [Try.params9] at hA hval
  obtain ⟨v0, vs0, d0, ds0, p0, q0, hargs, rfl, rfl, h0, r0⟩ := trodAll_cons hA
  obtain ⟨v1, vs1, d1, ds1, p1, q1, rfl, rfl, rfl, h1, r1⟩ := trodAll_cons r0
  obtain ⟨v2, vs2, d2, ds2, p2, q2, rfl, rfl, rfl, h2, r2⟩ := trodAll_cons r1
  obtain ⟨rfl, rfl, rfl⟩ := trodAll_nil r2
  obtain rfl : args = #[v0, v1, v2] := by cases args; simp_all
  obtain ⟨rfl, rfl⟩ := trodVars_none hV
  obtain ⟨a0, rfl, rfl, rfl, w0⟩ := open_int Try.underlying2 (hval 0 2 v0 rfl rfl) h0
  obtain ⟨a1, rfl, rfl, rfl, w1⟩ := open_int Try.underlying2 (hval 1 2 v1 rfl rfl) h1
  obtain ⟨a2, rfl, rfl, rfl, w2⟩ := open_int Try.underlying2 (hval 2 2 v2 rfl rfl) h2
  clear hA0 hval0 hsz0
  have hc := (Sm.FnExactElementaryPoly_ok a0 a1 a2).2 W [.int .i64 a0, .int .i64 a1, .int .i64 a2]
    ⟨_, _, rfl, ⟨[.int .i64 a0], rfl, rfl, _, _, rfl, by simp [Sm.Rd, Value.oneCell'], rfl⟩, _, _, rfl, ⟨[.int .i64 a1], rfl, rfl, _, _, rfl, by simp [Sm.Rd, Value.oneCell'], rfl⟩, _, _, rfl, ⟨[.int .i64 a2], rfl, rfl, _, _, rfl, by simp [Sm.Rd, Value.oneCell'], rfl⟩, rfl⟩
  refine hc.mono fun e W' ⟨v, he, ⟨vs, hs, _, hd, _, _⟩, bel⟩ => ?_
  subst he
  simp only [Sm.RShape] at hs
  subst hs
  obtain ⟨u, r, hu, hr, _⟩ := hd
  simp only [List.cons.injEq] at hu
  obtain ⟨rfl, _⟩ := hu
  simp only [Sm.Rd] at hr
  obtain ⟨rfl, _⟩ := hr
  exact ⟨_, rfl, _, _, _, [], _, [], hW', trodAll_mk1 (shut_bool Try.underlying4 _), (trodAll_cons_mk (shut_int Try.underlying2 w0) (trodAll_cons_mk (shut_int Try.underlying2 w1) (trodAll_cons_mk (shut_int Try.underlying2 w2) trodAll_mk0))), rfl, bel.toBelow.frame _, fun h => by cases h⟩

theorem over : Rows.fnExactElementaryPolyRow.holds Try.pinned (OpenSpec.ofChange Rows.fnExactElementaryPolySpec) :=
  OpenClaim.holds_of_wide 9 Try.f9 rfl rfl rfl rfl rfl rfl rfl ⟨rfl, rfl, rfl, rfl, rfl⟩ rfl rfl rfl rfl rfl (by kernel_rfl) Try.func9 (by kernel_rfl)
    (of_decide_eq_true (by kernel_rfl)) (by unfold Func.isWrapper; first | (rw [if_pos (by decide +kernel)]; kernel_rfl) | (rw [if_neg (by decide +kernel)]; exact ⟨rfl, rfl⟩))
    (fun os started H enc _ => lifted os started H enc)
end Go.Proofs.Ytihinogdolhjcaa.fnExactElementaryPoly
namespace Go.Proofs.Ytihinogdolhjcaa
/-- The row, for the claim. -/
theorem fnExactElementaryPoly_holds : Rows.FnExactElementaryPolySaid := fnExactElementaryPoly.over
#print axioms fnExactElementaryPoly_holds
end Go.Proofs.Ytihinogdolhjcaa
