/- The row: 'laws.FnExactEnumeratorOf' returns true, whatever the input. -/
import Derived.Test.YtihinogdolhjcaaRows
import Derived.Test.YtihinogdolhjcaaQlEnumeratorOf
import Derived.Test.YtihinogdolhjcaaSoR
import Derived.WalkKit
import Derived.ProofKit
import Derived.OpenShut
import Derived.ShutString
import Derived.ChangeOld
import Derived.Below
import Derived.SizedLaws
namespace Go.Proofs.Ytihinogdolhjcaa.fnExactEnumeratorOf
open Go.ChangeShapes Go.WideShapes Go.ChangeAt Go.RowKit
open Go.ChangeMaps (open_string shut_string)
theorem own : ownKnob Try.prog.godebug = none := by kernel_rfl
theorem laidOut : laidOutB Try.prog = true := by kernel_rfl

set_option maxRecDepth 100000 in
theorem lifted (os : Os) (started : os.Started) (H : Type) (enc : TypeId × Value → H) :
    ReturnsInHanded {} Try.checked os 6 .any (Rows.fnExactEnumeratorOfSpec.pre6 enc Try.prog Try.f6 Rows.fnExactEnumeratorOfRow.domain false) (Rows.fnExactEnumeratorOfSpec.post enc Try.prog Try.f6 false true false false) := by
  refine returnsInHanded_of_change_sized (C := Try.checked) own started (by kernel_rfl) Try.func6
    (ChangeSpec.witness6 (enc := enc) (C := Try.checked) false ⟨#[], #[.int .i64 0, .slice none 0 0], []⟩ 8 (by kernel_rfl) (by kernel_rfl) (by kernel_rfl) (by kernel_rfl)) ?_
  intro W base args ds gs before hval0 hW hcnd hsz0 _
  have hval : ∀ (j : Nat) t v, Try.f6.params[j]? = some t → args[j]? = some v → Value.okWide Try.prog W .any base t v := hval0
  have hW' := hW
  obtain ⟨p, q, hA0, hV, rfl, hfz, hnd⟩ := hW
  have hA : DataW.TrodAll enc Try.prog W 0 (fun _ => true) true Try.f6.params.toList args.toList ds p := hA0
  rw [Try.params6] at hA hval
  obtain ⟨v0, vs0, d0, ds0, p0, q0, hargs, rfl, rfl, h0, r0⟩ := trodAll_cons hA
  obtain ⟨v1, vs1, d1, ds1, p1, q1, rfl, rfl, rfl, h1, r1⟩ := trodAll_cons r0
  obtain ⟨rfl, rfl, rfl⟩ := trodAll_nil r1
  obtain rfl : args = #[v0, v1] := by cases args; simp_all
  obtain ⟨rfl, rfl⟩ := trodVars_none hV
  obtain ⟨a0, rfl, rfl, rfl, w0⟩ := open_int Try.underlying2 (hval 0 2 v0 rfl rfl) h0
  have hv1 := hval 1 22 v1 rfl rfl
  have k1 := h1
  have lt1 : ∀ x ∈ p1, x.block < W.heap.size := by obtain ⟨m, hm⟩ := k1; exact DataW.trod_lt m _ _ _ hm
  obtain ⟨z1, y1⟩ := Sm.av_ints Try.underlying22 Try.underlying2 (by kernel_rfl) hv1 h1
  clear hA0 hval0 hsz0
  have hc := (Sm.FnExactEnumeratorOf_ok a0 z1).2 W [.int .i64 a0, v1] ⟨_, _, rfl, Sm.av_int a0, _, _, rfl, y1, rfl⟩
  refine hc.mono fun e W' ⟨v, he, ⟨vs, hs, _, hd, _, _⟩, bel0⟩ => ?_
  have bel := bel0.toBelow
  subst he
  simp only [Sm.RShape] at hs
  subst hs
  obtain ⟨u, r, hu, hr, _⟩ := hd
  simp only [List.cons.injEq] at hu
  obtain ⟨rfl, _⟩ := hu
  simp only [Sm.Rd] at hr
  obtain ⟨rfl, _⟩ := hr
  exact ⟨_, rfl, _, _, _, [], _, [], hW', trodAll_mk1 (shut_bool Try.underlying4 _), (trodAll_cons_mk (shut_int Try.underlying2 w0) (trodAll_cons_mk (Below.trod laidOut (by kernel_rfl) (of_decide_eq_true (by kernel_rfl)) k1 bel lt1) trodAll_mk0)), rfl, bel.frame _, fun h => by cases h⟩

theorem over : Rows.fnExactEnumeratorOfRow.holds Try.pinned (OpenSpec.ofChange Rows.fnExactEnumeratorOfSpec) :=
  OpenClaim.holds_of_wide 6 Try.f6 rfl rfl rfl rfl rfl rfl rfl ⟨rfl, rfl, rfl, rfl, rfl⟩ rfl rfl rfl rfl rfl (by kernel_rfl) Try.func6 (by kernel_rfl)
    (of_decide_eq_true (by kernel_rfl)) (by unfold Func.isWrapper; first | (rw [if_pos (by decide +kernel)]; kernel_rfl) | (rw [if_neg (by decide +kernel)]; exact ⟨rfl, rfl⟩))
    (fun os started H enc _ => lifted os started H enc)
end Go.Proofs.Ytihinogdolhjcaa.fnExactEnumeratorOf
namespace Go.Proofs.Ytihinogdolhjcaa
/-- The row, for the claim. -/
theorem fnExactEnumeratorOf_holds : Rows.FnExactEnumeratorOfSaid := fnExactEnumeratorOf.over
#print axioms fnExactEnumeratorOf_holds
end Go.Proofs.Ytihinogdolhjcaa
