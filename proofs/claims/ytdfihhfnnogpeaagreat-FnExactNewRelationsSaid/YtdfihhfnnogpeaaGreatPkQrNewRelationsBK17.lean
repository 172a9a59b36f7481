/- Towards the rows of this seat: what the functions do, as contracts over plain data. -/
import Derived.Test.YtdfihhfnnogpeaaGreatPkQrNewRelationsBK6
namespace Go.Sm
open Go.RowKit

def AllP (xs : List Pl) : Prop := ∀ x ∈ xs, GoodP x.p x.d x.ts
noncomputable instance (xs : List Pl) : Decidable (AllP xs) := Classical.propDecidable _
theorem arePolys_ok (xs : List Pl) (hl : xs.length ≤ 1048576) (hr : ∀ x ∈ xs, x.ts.length ≤ 1048576) : CallOK Go.Proofs.Tryz.prog 89 [.one (vPolys xs)] (.one (bo (decide (AllP xs)))) := by
  have hF := fnOk 15 [.tmp 2]
  refine callOK hF 60 Go.Proofs.Tryz.func89 rfl rfl rfl (by decide) (by simp) rfl ?_
  intro w0 hw
  have S := @vc_sound w0 _ hF ⟨(.one (bo (decide (AllP xs)))), []⟩ Go.Proofs.Tryz.f89 rfl (by simp)
  generalize hb : decide (AllP xs) = b at S ⊢
  have hbad : ∀ x ∈ xs, ¬ GoodP x.p x.d x.ts → b = false := fun x hx hn => by rw [← hb]; simp only [decide_eq_false_iff_not]; exact fun h => hn (h x hx)
  simp
  refine J.loop hw (fun i : Nat => ⟨[(5, .c (.d (vPolys xs))), (6, .c (.d (i64 xs.length))), (7, .c (.d (i64 i)))], []⟩)
    (fun i => i ≤ xs.length ∧ ∀ x ∈ xs.take i, GoodP x.p x.d x.ts) (fun i => xs.length - i) 0 (by simp) (by simp) ?_
  rintro i ⟨hi, hall⟩
  refine S 8 _ _ ?_
  simp
  refine ⟨fun hlt => ?_, fun hge => ?_⟩
  · obtain ⟨x, hx⟩ : ∃ x, xs[i]? = some x := ⟨xs[i], List.getElem?_eq_getElem hlt⟩
    have hm := List.mem_of_getElem? hx
    have c1 := IsPoly_ok x.p x.d x.ts (hr x hm)
    have hbx := hbad x hm
    refine S 6 _ _ ?_
    simp
    refine ⟨hlt, fun x' hx' => ?_⟩
    obtain rfl : x = x' := Option.some.inj (hx.symm.trans hx')
    by_cases hg : GoodP x.p x.d x.ts
    · rw [decide_eq_true hg] at c1
      refine S 60 _ _ ?_
      simp
      refine CallW.ok (by decide) (by simp) c1 (by simp) (S 60 _ _ ?_)
      simp
      refine Nxt.mk (i + 1) ⟨hlt, fun q hq => ?_⟩ (by simp [wrapS (i := i) (n := xs.length) hlt (by omega)]) (by omega)
      rw [List.take_add_one, hx] at hq
      simp only [Option.toList, List.mem_append, List.mem_singleton] at hq
      rcases hq with h | rfl
      · exact hall q h
      · exact hg
    · rw [decide_eq_false hg] at c1
      refine S 60 _ _ ?_
      simp
      refine CallW.ok (by decide) (by simp) c1 (by simp) (S 60 _ _ ?_)
      simp
      exact hbx hg
  · rw [List.take_of_length_le (by omega)] at hall
    refine S 60 _ _ ?_
    simp
    rw [← hb]
    exact decide_eq_true hall

def PointP (p d : Int) (v : List Int) : Prop := (v.length : Int) = d ∧ ∀ x ∈ v, 0 ≤ x ∧ x < p
instance (p d : Int) (v : List Int) : Decidable (PointP p d v) := by unfold PointP; infer_instance

end Go.Sm
