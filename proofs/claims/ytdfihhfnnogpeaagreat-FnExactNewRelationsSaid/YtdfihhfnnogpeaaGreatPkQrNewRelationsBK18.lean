/- Towards the rows of this seat: what the functions do, as contracts over plain data. -/
import Derived.Test.YtdfihhfnnogpeaaGreatPkQrNewRelationsBK12
import Derived.Test.YtdfihhfnnogpeaaGreatPkQrNewRelationsBK16
import Derived.Test.YtdfihhfnnogpeaaGreatPkQrNewRelationsBK17
namespace Go.Sm
open Go.RowKit

/-- All monomials are of one degree (the first and the last are). -/
def HomP (ts : List Tm) : Prop := ∀ t, ts.head? = some t → t.e.deg = degT ts
noncomputable instance (ts : List Tm) : Decidable (HomP ts) := Classical.propDecidable _
theorem homP_nil : HomP [] := fun t h => by simp at h
theorem homP_cons {t : Tm} {ts : List Tm} : HomP (t :: ts) ↔ t.e.deg = degT (t :: ts) := ⟨fun h => h t rfl, fun h u hu => by simp at hu; rw [← hu]; exact h⟩

set_option maxHeartbeats 1000000 in
theorem homogeneous_ok (p d : Int) (ts : List Tm) (hl : ts.length ≤ 1000000) : CallOK Go.Proofs.Tryz.prog 103 [pv p d ts] (.one (bo (decide (HomP ts)))) := by
  have hF := fnOk 16 [.tmp 2]
  refine callOK hF 60 Go.Proofs.Tryz.func103 rfl rfl rfl (by decide) (by simp) rfl ?_
  intro w0 hw
  have S := @vc_sound w0 _ hF ⟨(.one (bo (decide (HomP ts)))), []⟩ Go.Proofs.Tryz.f103 rfl (by simp)
  have c1 := isZero_ok p d ts hl
  have c2 := polyDegree_ok p d ts (by omega)
  cases ts with
  | nil =>
    rw [decide_eq_true rfl] at c1
    rw [decide_eq_true homP_nil] at S ⊢
    simp
    refine J.dr hF mixed 10 [[], [0], [0, 1], [0, 1, 2], [0, 1, 2, 3], [0, 1, 2, 3, 4], [0, 1, 2, 3, 4, 5], [0, 1, 2, 3, 4, 5, 6], [0, 1, 2, 3, 4, 5, 6, 7], [0, 1, 2], [0, 1, 2, 3, 4, 5, 6, 7, 8, 9], [0, 1, 2, 3, 4, 5, 6, 7, 8, 9, 10], [0, 1, 2, 3, 4, 5, 6, 7, 8, 9, 10, 11], [0, 1, 2, 3, 4, 5, 6, 7, 8, 9, 10, 11, 12]] [[3, 4, 5, 6, 7, 8, 9, 10, 11, 12], [4, 5, 6, 7, 8, 9, 10, 11, 12], [5, 6, 7, 8, 9, 10, 11, 12], [6, 7, 8, 9, 10, 11, 12], [7, 8, 9, 10, 11, 12], [8, 9, 10, 11, 12], [9, 10, 11, 12], [10, 11, 12], [11, 12], [6, 7, 8, 9, 10, 11, 12]] (by decide) ?_
    simp
    refine DrC.ok hF (by rfl) (by simp) c1 (by simp) (by simp) ?_
    simp
    refine S 60 _ _ ?_
    simp
  | cons t ts =>
    rw [decide_eq_false (by simp)] at c1
    have c3 := degree_ok t.e
    have e : decide (HomP (t :: ts)) = decide (t.e.deg = degT (t :: ts)) := decide_eq_decide.2 homP_cons
    rw [e] at S ⊢
    generalize degT (t :: ts) = D at c2 S ⊢
    simp
    refine J.dr hF mixed 10 [[], [0], [0, 1], [0, 1, 2], [0, 1, 2, 3], [0, 1, 2, 3, 4], [0, 1, 2, 3, 4, 5], [0, 1, 2, 3, 4, 5, 6], [0, 1, 2, 3, 4, 5, 6, 7], [0, 1, 2], [0, 1, 2, 3, 4, 5, 6, 7, 8, 9], [0, 1, 2, 3, 4, 5, 6, 7, 8, 9, 10], [0, 1, 2, 3, 4, 5, 6, 7, 8, 9, 10, 11], [0, 1, 2, 3, 4, 5, 6, 7, 8, 9, 10, 11, 12]] [[3, 4, 5, 6, 7, 8, 9, 10, 11, 12], [4, 5, 6, 7, 8, 9, 10, 11, 12], [5, 6, 7, 8, 9, 10, 11, 12], [6, 7, 8, 9, 10, 11, 12], [7, 8, 9, 10, 11, 12], [8, 9, 10, 11, 12], [9, 10, 11, 12], [10, 11, 12], [11, 12], [6, 7, 8, 9, 10, 11, 12]] (by decide) ?_
    simp
    refine DrC.ok hF (by rfl) (by simp) c1 (by simp) (by simp) ?_
    simp
    refine DrC.ok hF (by rfl) (by simp) c3 (by simp) (by simp) ?_
    simp
    refine S 60 _ _ ?_
    simp
    refine CallW.ok (by decide) (by simp) c2 (by simp) (S 60 _ _ ?_)
    simp
    rfl

set_option maxHeartbeats 1000000 in
theorem l01Even_ok (p d : Int) (ts : List Tm) (hl : ts.length ≤ 1000000) : CallOK Go.Proofs.Tryz.prog 83 [pv p d ts] (.one (bo (decide (HomP ts)))) := by
  have hF := fnOk 18 [.tmp 2]
  refine callOK hF 60 Go.Proofs.Tryz.func83 rfl rfl rfl (by decide) (by simp) rfl ?_
  intro w0 hw
  have S := @vc_sound w0 _ hF ⟨(.one (bo (decide (HomP ts)))), []⟩ Go.Proofs.Tryz.f83 rfl (by simp)
  have c2 := l01Degree_ok p d ts (by omega)
  cases ts with
  | nil =>
    rw [decide_eq_true homP_nil] at S ⊢
    simp
    refine J.dr hF mixed 12 [[], [0], [0, 1], [0, 1, 2], [0, 1, 2, 3], [0, 1, 2, 3, 4], [0, 1, 2, 3, 4, 5], [0, 1, 2, 3, 4, 5, 6], [0, 1, 2, 3, 4, 5, 6, 7], [0, 1, 2, 3, 4, 5, 6, 7, 8], [0, 1, 2, 3, 4, 5, 6, 7, 8, 9], [0, 1, 2, 3, 4], [0, 1, 2, 3, 4, 5, 6, 7, 8, 9, 10, 11], [0, 1, 2, 3, 4, 5, 6, 7, 8, 9, 10, 11, 12], [0, 1, 2, 3, 4, 5, 6, 7, 8, 9, 10, 11, 12, 13], [0, 1, 2, 3, 4, 5, 6, 7, 8, 9, 10, 11, 12, 13, 14]] [[3, 4, 5, 6, 7, 8, 9, 10, 11, 12, 13, 14], [4, 5, 6, 7, 8, 9, 10, 11, 12, 13, 14], [5, 6, 7, 8, 9, 10, 11, 12, 13, 14], [6, 7, 8, 9, 10, 11, 12, 13, 14], [7, 8, 9, 10, 11, 12, 13, 14], [8, 9, 10, 11, 12, 13, 14], [9, 10, 11, 12, 13, 14], [10, 11, 12, 13, 14], [11, 12, 13, 14], [12, 13, 14], [13, 14], [8, 9, 10, 11, 12, 13, 14]] (by decide) ?_
    simp
    refine S 60 _ _ ?_
    simp
  | cons t ts =>
    have c3 := l01Sum_ok t.e
    have e : decide (HomP (t :: ts)) = decide (t.e.deg = degT (t :: ts)) := decide_eq_decide.2 homP_cons
    rw [e] at S ⊢
    generalize degT (t :: ts) = D at c2 S ⊢
    have hne : ((((t :: ts).length : Int)) == 0) = false := by simp; omega
    simp at hne
    simp
    refine J.dr hF mixed 12 [[], [0], [0, 1], [0, 1, 2], [0, 1, 2, 3], [0, 1, 2, 3, 4], [0, 1, 2, 3, 4, 5], [0, 1, 2, 3, 4, 5, 6], [0, 1, 2, 3, 4, 5, 6, 7], [0, 1, 2, 3, 4, 5, 6, 7, 8], [0, 1, 2, 3, 4, 5, 6, 7, 8, 9], [0, 1, 2, 3, 4], [0, 1, 2, 3, 4, 5, 6, 7, 8, 9, 10, 11], [0, 1, 2, 3, 4, 5, 6, 7, 8, 9, 10, 11, 12], [0, 1, 2, 3, 4, 5, 6, 7, 8, 9, 10, 11, 12, 13], [0, 1, 2, 3, 4, 5, 6, 7, 8, 9, 10, 11, 12, 13, 14]] [[3, 4, 5, 6, 7, 8, 9, 10, 11, 12, 13, 14], [4, 5, 6, 7, 8, 9, 10, 11, 12, 13, 14], [5, 6, 7, 8, 9, 10, 11, 12, 13, 14], [6, 7, 8, 9, 10, 11, 12, 13, 14], [7, 8, 9, 10, 11, 12, 13, 14], [8, 9, 10, 11, 12, 13, 14], [9, 10, 11, 12, 13, 14], [10, 11, 12, 13, 14], [11, 12, 13, 14], [12, 13, 14], [13, 14], [8, 9, 10, 11, 12, 13, 14]] (by decide) ?_
    simp [hne]
    refine DrC.ok hF (by rfl) (by simp) c3 (by simp) (by simp) ?_
    simp
    refine S 60 _ _ ?_
    simp
    refine CallW.ok (by decide) (by simp) c2 (by simp) (S 60 _ _ ?_)
    simp
    rfl

/-- What is asked of one polynomial of a list. -/
def OneL (y0 y : Pl) : Prop := (y.p = y0.p ∧ y.d = y0.d) ∧ HomP y.ts ∧ 1 ≤ degT y.ts
noncomputable instance (y0 y : Pl) : Decidable (OneL y0 y) := Classical.propDecidable _
def IsL (ys : List Pl) : Prop := ys.length ≤ 8 ∧ ∀ y ∈ ys, ∀ z, ys[0]? = some z → OneL z y
noncomputable instance (ys : List Pl) : Decidable (IsL ys) := Classical.propDecidable _

set_option maxHeartbeats 1000000 in
theorem isList_ok (ys : List Pl) (hl : ys.length ≤ 1048576) (hr : ∀ y ∈ ys, y.ts.length ≤ 1000000) : CallOK Go.Proofs.Tryz.prog 90 [.one (vPolys ys)] (.one (bo (decide (IsL ys)))) := by
  have hF := fnOk 31 [.tmp 2]
  refine callOK hF 60 Go.Proofs.Tryz.func90 rfl rfl rfl (by decide) (by simp) rfl ?_
  intro w0 hw
  have S := @vc_sound w0 _ hF ⟨(.one (bo (decide (IsL ys)))), []⟩ Go.Proofs.Tryz.f90 rfl (by simp)
  generalize hb : decide (IsL ys) = b at S ⊢
  simp
  refine J.loop hw (fun i : Nat => ⟨[(0, .c (.d (vPolys ys))), (2, .c (.d (bo false))), (5, .c (.d (vPolys ys))), (6, .c (.d (i64 ys.length))), (7, .c (.d (i64 i)))], []⟩)
    (fun i => i ≤ ys.length ∧ ∀ y ∈ ys.take i, ∀ z, ys[0]? = some z → OneL z y) (fun i => ys.length - i) 0 (by simp) (by simp) ?_
  rintro i ⟨hi, hall⟩
  refine S 8 _ _ ?_
  simp
  refine ⟨fun hlt => ?_, fun hge => ?_⟩
  · obtain ⟨y, hy⟩ : ∃ y, ys[i]? = some y := ⟨ys[i], List.getElem?_eq_getElem hlt⟩
    obtain ⟨z, hz⟩ : ∃ z, ys[0]? = some z := ⟨ys[0]'(by omega), List.getElem?_eq_getElem (by omega)⟩
    have hm := List.mem_of_getElem? hy
    have c1 := alike_ok y.p y.d z.p z.d y.ts z.ts
    have c2 := homogeneous_ok y.p y.d y.ts (hr y hm)
    have c3 := polyDegree_ok y.p y.d y.ts (by have := hr y hm; omega)
    have hbad : ¬ OneL z y → b = false := fun h => by rw [← hb]; exact decide_eq_false fun hh => h (hh.2 y hm z hz)
    refine S 6 _ _ ?_
    simp
    refine ⟨hlt, fun x hx => ?_⟩
    obtain rfl : y = x := Option.some.inj (hy.symm.trans hx)
    refine S 3 _ _ ?_
    simp
    by_cases h1 : y.p = z.p ∧ y.d = z.d
    · rw [decide_eq_true h1] at c1
      by_cases h2 : HomP y.ts
      · rw [decide_eq_true h2] at c2
        by_cases h3 : degT y.ts < 1
        · have hbf := hbad fun h => by have := h.2.2; omega
          subst hbf
          refine J.dr hF mixed 4 [[], [], [1], [1, 2], [0, 1, 2, 3], [0, 1, 2, 3, 4], [0, 1, 2, 3, 4, 5], [0, 1, 2, 3, 4, 5, 6], [0, 1, 2, 3, 4, 5, 6, 7], [0, 1, 2, 3, 4, 5, 6, 7, 8], [0, 1, 2, 3, 4, 5, 6, 7, 8, 9], [0, 1, 2, 3, 4, 5, 6, 7, 8, 9, 10], [0, 1, 2, 3, 4, 5, 6, 7, 8, 9, 10, 11], [0, 1, 2, 3, 4, 5, 6, 7, 8, 9, 10, 11, 12], [0, 1, 2, 3, 4, 5, 6, 7, 8, 9, 10, 11, 12, 13], [0, 1, 2, 3, 4, 5, 6, 7, 8, 9, 10, 11, 12, 13, 14]] [[11, 12, 13, 14], [11, 12, 13, 14], [11, 13, 14], [11, 14]] (by decide) ?_
          simp
          refine ⟨by omega, fun z' hz' => ?_⟩
          obtain rfl : z = z' := Option.some.inj (hz.symm.trans hz')
          refine S 60 _ _ ?_
          simp
          refine CallW.ok (by decide) (by simp) c1 (by simp) (S 60 _ _ ?_)
          simp
          refine CallW.ok (by decide) (by simp) c2 (by simp) (S 60 _ _ ?_)
          simp
          refine CallW.ok (by decide) (by simp) c3 (by simp) (S 60 _ _ ?_)
          simp [h3]
        · generalize hD : degT y.ts = D at c3 h3
          refine J.dr hF mixed 4 [[], [], [1], [1, 2], [0, 1, 2, 3], [0, 1, 2, 3, 4], [0, 1, 2, 3, 4, 5], [0, 1, 2, 3, 4, 5, 6], [0, 1, 2, 3, 4, 5, 6, 7], [0, 1, 2, 3, 4, 5, 6, 7, 8], [0, 1, 2, 3, 4, 5, 6, 7, 8, 9], [0, 1, 2, 3, 4, 5, 6, 7, 8, 9, 10], [0, 1, 2, 3, 4, 5, 6, 7, 8, 9, 10, 11], [0, 1, 2, 3, 4, 5, 6, 7, 8, 9, 10, 11, 12], [0, 1, 2, 3, 4, 5, 6, 7, 8, 9, 10, 11, 12, 13], [0, 1, 2, 3, 4, 5, 6, 7, 8, 9, 10, 11, 12, 13, 14]] [[11, 12, 13, 14], [11, 12, 13, 14], [11, 13, 14], [11, 14]] (by decide) ?_
          simp
          refine ⟨by omega, fun z' hz' => ?_⟩
          obtain rfl : z = z' := Option.some.inj (hz.symm.trans hz')
          refine S 60 _ _ ?_
          simp
          refine CallW.ok (by decide) (by simp) c1 (by simp) (S 60 _ _ ?_)
          simp
          refine CallW.ok (by decide) (by simp) c2 (by simp) (S 60 _ _ ?_)
          simp
          refine CallW.ok (by decide) (by simp) c3 (by simp) (S 60 _ _ ?_)
          simp [h3]
          refine Nxt.mk (i + 1) ⟨hlt, fun u hu w hw => ?_⟩ (by simp [wrapS (i := i) (n := ys.length) hlt (by omega)]) (by omega)
          rw [List.take_add_one, hy] at hu
          simp only [Option.toList, List.mem_append, List.mem_singleton] at hu
          rcases hu with hu | rfl
          · exact hall u hu w hw
          · obtain rfl : z = w := Option.some.inj (hz.symm.trans hw)
            exact ⟨h1, h2, by rw [hD]; omega⟩
      · have hbf := hbad fun h => h2 h.2.1
        rw [decide_eq_false h2] at c2
        subst hbf
        refine J.dr hF mixed 4 [[], [], [1], [1, 2], [0, 1, 2, 3], [0, 1, 2, 3, 4], [0, 1, 2, 3, 4, 5], [0, 1, 2, 3, 4, 5, 6], [0, 1, 2, 3, 4, 5, 6, 7], [0, 1, 2, 3, 4, 5, 6, 7, 8], [0, 1, 2, 3, 4, 5, 6, 7, 8, 9], [0, 1, 2, 3, 4, 5, 6, 7, 8, 9, 10], [0, 1, 2, 3, 4, 5, 6, 7, 8, 9, 10, 11], [0, 1, 2, 3, 4, 5, 6, 7, 8, 9, 10, 11, 12], [0, 1, 2, 3, 4, 5, 6, 7, 8, 9, 10, 11, 12, 13], [0, 1, 2, 3, 4, 5, 6, 7, 8, 9, 10, 11, 12, 13, 14]] [[11, 12, 13, 14], [11, 12, 13, 14], [11, 13, 14], [11, 14]] (by decide) ?_
        simp
        refine ⟨by omega, fun z' hz' => ?_⟩
        obtain rfl : z = z' := Option.some.inj (hz.symm.trans hz')
        refine S 60 _ _ ?_
        simp
        refine CallW.ok (by decide) (by simp) c1 (by simp) (S 60 _ _ ?_)
        simp
        refine CallW.ok (by decide) (by simp) c2 (by simp) (S 60 _ _ ?_)
        simp
    · have hbf := hbad fun h => h1 h.1
      rw [decide_eq_false h1] at c1
      subst hbf
      refine J.dr hF mixed 4 [[], [], [1], [1, 2], [0, 1, 2, 3], [0, 1, 2, 3, 4], [0, 1, 2, 3, 4, 5], [0, 1, 2, 3, 4, 5, 6], [0, 1, 2, 3, 4, 5, 6, 7], [0, 1, 2, 3, 4, 5, 6, 7, 8], [0, 1, 2, 3, 4, 5, 6, 7, 8, 9], [0, 1, 2, 3, 4, 5, 6, 7, 8, 9, 10], [0, 1, 2, 3, 4, 5, 6, 7, 8, 9, 10, 11], [0, 1, 2, 3, 4, 5, 6, 7, 8, 9, 10, 11, 12], [0, 1, 2, 3, 4, 5, 6, 7, 8, 9, 10, 11, 12, 13], [0, 1, 2, 3, 4, 5, 6, 7, 8, 9, 10, 11, 12, 13, 14]] [[11, 12, 13, 14], [11, 12, 13, 14], [11, 13, 14], [11, 14]] (by decide) ?_
      simp
      refine ⟨by omega, fun z' hz' => ?_⟩
      obtain rfl : z = z' := Option.some.inj (hz.symm.trans hz')
      refine S 60 _ _ ?_
      simp
      refine CallW.ok (by decide) (by simp) c1 (by simp) (S 60 _ _ ?_)
      simp
  · rw [List.take_of_length_le (by omega)] at hall
    have e : decide (((ys.length : Int)) ≤ 8) = b := by
      rw [← hb]
      exact decide_eq_decide.2 ⟨fun h => ⟨by omega, hall⟩, fun h => by have := h.1; omega⟩
    refine S 60 _ _ ?_
    simp [e]
end Go.Sm

namespace Go.Sm
open Go.RowKit

noncomputable def listN (ys : List Pl) : Int := open Classical in if AllP ys then (if ys ≠ [] ∧ IsL ys then 0 else 2) else 1
noncomputable def relN (ys : List Pl) (n : Int) : Int := open Classical in if AllP ys then (if (ys ≠ [] ∧ IsL ys) ∧ 0 ≤ n ∧ n ≤ 12 then 0 else 2) else 1
theorem listN_bad {ys : List Pl} (h : ¬ AllP ys) : listN ys = 1 := by unfold listN; rw [if_neg h]
theorem listN_yes {ys : List Pl} (h : AllP ys) (h2 : ys ≠ [] ∧ IsL ys) : listN ys = 0 := by unfold listN; rw [if_pos h, if_pos h2]
theorem listN_no {ys : List Pl} (h : AllP ys) (h2 : ¬ (ys ≠ [] ∧ IsL ys)) : listN ys = 2 := by unfold listN; rw [if_pos h, if_neg h2]
theorem relN_bad {ys : List Pl} {n : Int} (h : ¬ AllP ys) : relN ys n = 1 := by unfold relN; rw [if_neg h]
theorem relN_yes {ys : List Pl} {n : Int} (h : AllP ys) (h2 : ys ≠ [] ∧ IsL ys) (h3 : 0 ≤ n ∧ n ≤ 12) : relN ys n = 0 := by unfold relN; rw [if_pos h, if_pos ⟨h2, h3⟩]
theorem relN_no {ys : List Pl} {n : Int} (h : AllP ys) (h2 : ¬ ((ys ≠ [] ∧ IsL ys) ∧ 0 ≤ n ∧ n ≤ 12)) : relN ys n = 2 := by unfold relN; rw [if_pos h, if_neg h2]

theorem listCode_ok (ys : List Pl) (hl : ys.length ≤ 1048576) (hr : ∀ y ∈ ys, y.ts.length ≤ 1048576) : CallOK Go.Proofs.Tryz.prog 70 [.one (vPolys ys)] (.one (i64 (listN ys))) := by
  have hF := fnOk 16 [.tmp 2]
  refine callOK hF 60 Go.Proofs.Tryz.func70 rfl rfl rfl (by decide) (by simp) rfl ?_
  intro w0 hw
  have S := @vc_sound w0 _ hF ⟨(.one (i64 (listN ys))), []⟩ Go.Proofs.Tryz.f70 rfl (by simp)
  have c1 := arePolys_ok ys hl hr
  by_cases ha : AllP ys
  · rw [decide_eq_true ha] at c1
    by_cases h0 : ys = []
    · subst h0
      rw [listN_no ha (fun h => h.1 rfl)] at S ⊢
      simp
      refine CallW.ok (by decide) (by simp) c1 (by simp) (S 60 _ _ ?_)
      simp
    · have c2 := isList_ok ys hl (fun y hy => by have := goodP_len (ha y hy); omega)
      have hne : ¬ ((ys.length : Int) = 0) := fun h => h0 (List.length_eq_zero_iff.1 (by omega))
      by_cases h1 : IsL ys
      · rw [decide_eq_true h1] at c2
        rw [listN_yes ha ⟨h0, h1⟩] at S ⊢
        simp
        refine CallW.ok (by decide) (by simp) c1 (by simp) (S 60 _ _ ?_)
        simp [h0]
        refine CallW.ok (by decide) (by simp) c2 (by simp) (S 60 _ _ ?_)
        simp
      · rw [decide_eq_false h1] at c2
        rw [listN_no ha (fun h => h1 h.2)] at S ⊢
        simp
        refine CallW.ok (by decide) (by simp) c1 (by simp) (S 60 _ _ ?_)
        simp [h0]
        refine CallW.ok (by decide) (by simp) c2 (by simp) (S 60 _ _ ?_)
        simp
  · rw [decide_eq_false ha] at c1
    rw [listN_bad ha] at S ⊢
    simp
    refine CallW.ok (by decide) (by simp) c1 (by simp) (S 60 _ _ ?_)
    simp
theorem relationsCode_ok (ys : List Pl) (n : Int) (hl : ys.length ≤ 1048576) (hr : ∀ y ∈ ys, y.ts.length ≤ 1048576) : CallOK Go.Proofs.Tryz.prog 45 [.one (vPolys ys), .one (i64 n)] (.one (i64 (relN ys n))) := by
  have hF := fnOk 14 [.tmp 4]
  refine callOK hF 60 Go.Proofs.Tryz.func45 rfl rfl rfl (by decide) (by simp) rfl ?_
  intro w0 hw
  have S := @vc_sound w0 _ hF ⟨(.one (i64 (relN ys n))), []⟩ Go.Proofs.Tryz.f45 rfl (by simp)
  have c1 := listCode_ok ys hl hr
  by_cases ha : AllP ys
  · by_cases h1 : ys ≠ [] ∧ IsL ys
    · rw [listN_yes ha h1] at c1
      have c2 := isDegree_ok n
      by_cases h2 : 0 ≤ n ∧ n ≤ 12
      · rw [decide_eq_true h2] at c2
        rw [relN_yes ha h1 h2] at S ⊢
        simp
        refine CallW.ok (by decide) (by simp) c1 (by simp) (S 60 _ _ ?_)
        simp
        refine CallW.ok (by decide) (by simp) c2 (by simp) (S 60 _ _ ?_)
        simp
      · rw [decide_eq_false h2] at c2
        rw [relN_no ha (fun h => h2 h.2)] at S ⊢
        simp
        refine CallW.ok (by decide) (by simp) c1 (by simp) (S 60 _ _ ?_)
        simp
        refine CallW.ok (by decide) (by simp) c2 (by simp) (S 60 _ _ ?_)
        simp
    · rw [listN_no ha h1] at c1
      rw [relN_no ha (fun h => h1 h.1)] at S ⊢
      simp
      refine CallW.ok (by decide) (by simp) c1 (by simp) (S 60 _ _ ?_)
      simp
  · rw [listN_bad ha] at c1
    rw [relN_bad ha] at S ⊢
    simp
    refine CallW.ok (by decide) (by simp) c1 (by simp) (S 60 _ _ ?_)
    simp

noncomputable def listS (ys : List Pl) : Int := open Classical in if AllP ys then (if IsL ys then 0 else 2) else 1
theorem listS_bad {ys : List Pl} (h : ¬ AllP ys) : listS ys = 1 := by unfold listS; rw [if_neg h]
theorem listS_yes {ys : List Pl} (h : AllP ys) (h2 : IsL ys) : listS ys = 0 := by unfold listS; rw [if_pos h, if_pos h2]
theorem listS_no {ys : List Pl} (h : AllP ys) (h2 : ¬ IsL ys) : listS ys = 2 := by unfold listS; rw [if_pos h, if_neg h2]

set_option maxHeartbeats 1000000 in
set_option maxRecDepth 4000 in
theorem l05List_ok (ys : List Pl) (hl : ys.length ≤ 1048576) (hr : ∀ y ∈ ys, y.ts.length ≤ 1048576) : CallOK Go.Proofs.Tryz.prog 62 [.one (vPolys ys)] (.one (i64 (listS ys))) := by
  have hF := fnOk 64 [.tmp 2]
  refine callOK hF 60 Go.Proofs.Tryz.func62 rfl rfl rfl (by decide) (by simp) rfl ?_
  intro w0 hw
  have S := @vc_sound w0 _ hF ⟨(.one (i64 (listS ys))), []⟩ Go.Proofs.Tryz.f62 rfl (by simp)
  have hbad := @listS_bad ys
  have hyes := @listS_yes ys
  have hno := @listS_no ys
  generalize listS ys = R at S hbad hyes hno ⊢
  simp
  refine J.loop hw (fun i : Nat => ⟨[(0, .c (.d (vPolys ys))), (2, .c (.d (i64 0))), (3, .c (.d (i64 i)))], []⟩)
    (fun i => i ≤ ys.length ∧ ∀ y ∈ ys.take i, GoodP y.p y.d y.ts) (fun i => ys.length - i) 0 (by simp) (by simp) ?_
  rintro i ⟨hi, hall⟩
  refine S 12 _ _ ?_
  simp
  refine ⟨fun hlt => ?_, fun hge => ?_⟩
  · obtain ⟨y, hy⟩ : ∃ y, ys[i]? = some y := ⟨ys[i], List.getElem?_eq_getElem hlt⟩
    have hm := List.mem_of_getElem? hy
    have c1 := l01Is_ok y.p y.d y.ts (by have := hr y hm; omega)
    refine S 60 _ _ ?_
    simp
    refine ⟨hlt, fun x hx => ?_⟩
    obtain rfl : y = x := Option.some.inj (hy.symm.trans hx)
    by_cases hg : GoodP y.p y.d y.ts
    · rw [decide_eq_true hg] at c1
      refine CallW.ok (by decide) (by simp) c1 (by simp) (S 60 _ _ ?_)
      simp
      refine Nxt.mk (i + 1) ⟨hlt, fun q hq => ?_⟩ (by simp [wrapS (i := i) (n := ys.length) hlt (by omega)]) (by omega)
      rw [List.take_add_one, hy] at hq
      simp only [Option.toList, List.mem_append, List.mem_singleton] at hq
      rcases hq with h | rfl
      · exact hall q h
      · exact hg
    · rw [decide_eq_false hg] at c1
      refine CallW.ok (by decide) (by simp) c1 (by simp) (S 60 _ _ ?_)
      simp
      exact (hbad fun h => hg (h y hm)).symm
  · have ha : AllP ys := by rwa [List.take_of_length_le (by omega)] at hall
    by_cases h8 : 8 < ys.length
    · rw [hno ha (fun h => by have := h.1; omega)] at S ⊢
      refine S 60 _ _ ?_
      simp
      exact fun h => absurd h (by omega)
    · have h8n : ¬ (8 < (ys.length : Int)) := by omega
      refine S 60 _ _ ?_
      simp [h8n]
      refine J.loop hw (fun j : Nat => ⟨[(0, .c (.d (vPolys ys))), (2, .c (.d (i64 0))), (4, .c (.d (i64 j)))], []⟩)
        (fun j => j ≤ ys.length ∧ ∀ y ∈ ys.take j, ∀ z, ys[0]? = some z → OneL z y) (fun j => ys.length - j) 0 (by simp) (by simp) ?_
      clear hge hall hi i
      rintro i ⟨hi, hall⟩
      refine S 12 _ _ ?_
      simp
      refine ⟨fun hlt => ?_, fun hge => ?_⟩
      · obtain ⟨y, hy⟩ : ∃ y, ys[i]? = some y := ⟨ys[i], List.getElem?_eq_getElem hlt⟩
        obtain ⟨z, hz⟩ : ∃ z, ys[0]? = some z := ⟨ys[0]'(by omega), List.getElem?_eq_getElem (by omega)⟩
        have hm := List.mem_of_getElem? hy
        have hyl := goodP_len (ha y hm)
        have c1 := l01Degree_ok y.p y.d y.ts (by omega)
        have c2 := l01Even_ok y.p y.d y.ts (by omega)
        have hbd : ¬ OneL z y → R = 2 := fun h => hno ha fun hh => h (hh.2 y hm z hz)
        refine S 3 _ _ ?_
        simp
        by_cases h1 : y.p = z.p
        · by_cases h2 : y.d = z.d
          · by_cases h3 : degT y.ts < 1
            · have hbf := hbd fun h => by have := h.2.2; omega
              subst hbf
              refine J.dr hF mixed 33 [[], [], [0, 1], [0, 1, 2], [0, 1, 2, 3], [], [5], [5, 6], [5, 6, 7], [0, 1, 2, 3, 4, 5, 6, 7, 8], [0, 1, 2, 3, 4, 5, 6, 7, 8, 9], [0, 1, 2, 3, 4, 5, 6, 7, 8, 9, 10], [0, 1, 2, 3, 4, 5, 6, 7, 8, 9, 10], [0, 1, 2, 3, 4, 5, 6, 7, 8, 9, 10, 11, 12], [0, 1, 2, 3, 4, 5, 6, 7, 8, 9, 10, 11, 12, 13], [0, 1, 2, 3, 4, 5, 6, 7, 8, 9, 10, 11, 12, 13, 14], [0, 1, 2, 3, 4, 5, 6, 7, 8, 9, 10], [0, 1, 2, 3, 4, 5, 6, 7, 8, 9, 10, 16], [0, 1, 2, 3, 4, 5, 6, 7, 8, 9, 10, 16, 17], [0, 1, 2, 3, 4, 5, 6, 7, 8, 9, 10, 16, 17, 18], [0, 1, 2, 3, 4, 5, 6, 7, 8, 9, 10, 11, 12, 13, 14, 15, 16, 17, 18, 19], [0, 1, 2, 3, 4, 5, 6, 7, 8, 9, 10, 11, 12, 13, 14, 15, 16, 17, 18, 19, 20], [0, 1, 2, 3, 4, 5, 6, 7, 8, 9, 10, 11, 12, 13, 14, 15, 16, 17, 18, 19, 20, 21], [0, 1, 2, 3, 4, 5, 6, 7, 8, 9, 10, 11, 12, 13, 14, 15, 16, 17, 18, 19, 20, 21, 22], [0, 1, 2, 3, 4, 5, 6, 7, 8, 9, 10, 11, 12, 13, 14, 15, 16, 17, 18, 19, 20, 21, 22], [0, 1, 2, 3, 4, 5, 6, 7, 8, 9, 10, 11, 12, 13, 14, 15, 16, 17, 18, 19, 20, 21, 22, 23, 24], [0, 1, 2, 3, 4, 5, 6, 7, 8, 9, 10, 11, 12, 13, 14, 15, 16, 17, 18, 19, 20, 21, 22, 23, 24, 25], [0, 1, 2, 3, 4, 5, 6, 7, 8, 9, 10, 11, 12, 13, 14, 15, 16, 17, 18, 19, 20, 21, 22, 23, 24, 25, 26], [0, 1, 2, 3, 4, 5, 6, 7, 8, 9, 10, 11, 12, 13, 14, 15, 16, 17, 18, 19, 20, 21, 22, 23, 24, 25, 26, 27], [0, 1, 2, 3, 4, 5, 6, 7, 8, 9, 10, 11, 12, 13, 14, 15, 16, 17, 18, 19, 20, 21, 22, 23, 24, 25, 26, 27, 28], [0, 1, 2, 3, 4, 5, 6, 7, 8, 9, 10, 11, 12, 13, 14, 15, 16, 17, 18, 19, 20, 21, 22, 23, 24, 25, 26, 27, 28, 29], [0, 1, 2, 3, 4, 5, 6, 7, 8, 9, 10, 11, 12, 13, 14, 15, 16, 17, 18, 19, 20, 21, 22, 23, 24, 25, 26, 27, 28, 29, 30], [0, 1, 2, 3, 4, 5, 6, 7, 8, 9, 10, 11, 12, 13, 14, 15, 16, 17, 18, 19, 20, 21, 22, 23, 24, 25, 26, 27, 28, 29, 30], [0, 1, 2, 3, 4, 5, 6, 7, 8, 9, 10, 11, 12, 13, 14, 15, 16, 17, 18, 19, 20, 21, 22, 23, 24, 25, 26, 27, 28, 29, 30, 31, 32], [0, 1, 2, 3, 4, 5, 6, 7, 8, 9, 10, 11, 12, 13, 14, 15, 16, 17, 18, 19, 20, 21, 22, 23, 24, 25, 26, 27, 28, 29, 30, 31, 32, 33], [0, 1, 2, 3, 4, 5, 6, 7, 8, 9, 10, 11, 12, 13, 14, 15, 16, 17, 18, 19, 20, 21, 22, 23, 24, 25, 26, 27, 28, 29, 30, 31, 32, 33, 34], [0, 1, 2, 3, 4, 5, 6, 7, 8, 9, 10, 11, 12, 13, 14, 15, 16, 17, 18, 19, 20, 21, 22, 23, 24, 25, 26, 27, 28, 29, 30, 31, 32, 33, 34, 35], [0, 1, 2, 3, 4, 5, 6, 7, 8, 9, 10, 11, 12, 13, 14, 15, 16, 17, 18, 19, 20, 21, 22, 23, 24, 25, 26, 27, 28, 29, 30, 31, 32, 33, 34, 35, 36]] [[26, 27, 28, 29, 30, 31, 32, 33, 34, 35, 36, 37, 38, 39, 40, 41, 42, 43, 44, 45, 46, 47, 48, 49, 50, 51, 52, 53, 54, 55, 56, 57, 58], [26, 27, 28, 29, 30, 31, 32, 33, 34, 35, 36, 37, 38, 39, 40, 41, 42, 43, 44, 45, 46, 47, 48, 49, 50, 51, 52, 53, 54, 55, 56, 57, 58], [28, 29, 30, 31, 32, 33, 34, 35, 36, 37, 38, 39, 40, 41, 42, 43, 44, 45, 46, 47, 48, 49, 50, 51, 52, 53, 54, 55, 56, 57, 58], [29, 30, 31, 32, 33, 34, 35, 36, 37, 38, 39, 40, 41, 42, 43, 44, 45, 46, 47, 48, 49, 50, 51, 52, 53, 54, 55, 56, 57, 58], [30, 31, 32, 33, 34, 35, 36, 37, 38, 39, 40, 41, 42, 43, 44, 45, 46, 47, 48, 49, 50, 51, 52, 53, 54, 55, 56, 57, 58], [26, 27, 28, 29, 30, 31, 32, 33, 34, 35, 36, 37, 38, 39, 40, 41, 42, 43, 44, 45, 46, 47, 48, 49, 50, 51, 52, 53, 54, 55, 56, 57, 58], [26, 27, 28, 29, 30, 32, 33, 34, 35, 36, 37, 38, 39, 40, 41, 42, 43, 44, 45, 46, 47, 48, 49, 50, 51, 52, 53, 54, 55, 56, 57, 58], [26, 27, 28, 29, 30, 33, 34, 35, 36, 37, 38, 39, 40, 41, 42, 43, 44, 45, 46, 47, 48, 49, 50, 51, 52, 53, 54, 55, 56, 57, 58], [26, 27, 28, 29, 30, 34, 35, 36, 37, 38, 39, 40, 41, 42, 43, 44, 45, 46, 47, 48, 49, 50, 51, 52, 53, 54, 55, 56, 57, 58], [35, 36, 37, 38, 39, 40, 41, 42, 43, 44, 45, 46, 47, 48, 49, 50, 51, 52, 53, 54, 55, 56, 57, 58], [36, 37, 38, 39, 40, 41, 42, 43, 44, 45, 46, 47, 48, 49, 50, 51, 52, 53, 54, 55, 56, 57, 58], [37, 38, 39, 40, 41, 42, 43, 44, 45, 46, 47, 48, 49, 50, 51, 52, 53, 54, 55, 56, 57, 58], [37, 38, 39, 40, 41, 42, 43, 44, 45, 46, 47, 48, 49, 50, 51, 52, 53, 54, 55, 56, 57, 58], [39, 40, 41, 42, 43, 44, 45, 46, 47, 48, 49, 50, 51, 52, 53, 54, 55, 56, 57, 58], [40, 41, 42, 43, 44, 45, 46, 47, 48, 49, 50, 51, 52, 53, 54, 55, 56, 57, 58], [41, 42, 43, 44, 45, 46, 47, 48, 49, 50, 51, 52, 53, 54, 55, 56, 57, 58], [37, 38, 39, 40, 41, 42, 43, 44, 45, 46, 47, 48, 49, 50, 51, 52, 53, 54, 55, 56, 57, 58], [37, 38, 39, 40, 41, 43, 44, 45, 46, 47, 48, 49, 50, 51, 52, 53, 54, 55, 56, 57, 58], [37, 38, 39, 40, 41, 44, 45, 46, 47, 48, 49, 50, 51, 52, 53, 54, 55, 56, 57, 58], [37, 38, 39, 40, 41, 45, 46, 47, 48, 49, 50, 51, 52, 53, 54, 55, 56, 57, 58], [46, 47, 48, 49, 50, 51, 52, 53, 54, 55, 56, 57, 58], [47, 48, 49, 50, 51, 52, 53, 54, 55, 56, 57, 58], [48, 49, 50, 51, 52, 53, 54, 55, 56, 57, 58], [49, 50, 51, 52, 53, 54, 55, 56, 57, 58], [49, 50, 51, 52, 53, 54, 55, 56, 57, 58], [51, 52, 53, 54, 55, 56, 57, 58], [52, 53, 54, 55, 56, 57, 58], [53, 54, 55, 56, 57, 58], [54, 55, 56, 57, 58], [55, 56, 57, 58], [56, 57, 58], [57, 58], [57, 58]] (by decide) ?_
              rw [← List.take_append_drop 3 (List.take 33 _)]
              generalize htl : List.drop 3 (List.take 33 _) = tl
              simp
              refine ⟨hlt, fun x hx => ?_⟩
              obtain rfl : y = x := Option.some.inj (hy.symm.trans hx)
              clear hx
              subst htl
              rw [← List.take_append_drop 4 (List.drop 3 (List.take 33 _))]
              generalize htl : List.drop 4 (List.drop 3 (List.take 33 _)) = tl
              simp [h1, h2]
              refine ⟨by omega, fun x hx => ?_⟩
              obtain rfl : z = x := Option.some.inj (hz.symm.trans hx)
              clear hx
              subst htl
              rw [← List.take_append_drop 7 (List.drop 4 (List.drop 3 (List.take 33 _)))]
              generalize htl : List.drop 7 (List.drop 4 (List.drop 3 (List.take 33 _))) = tl
              simp
              refine ⟨hlt, fun x hx => ?_⟩
              obtain rfl : y = x := Option.some.inj (hy.symm.trans hx)
              clear hx
              subst htl
              rw [← List.take_append_drop 4 (List.drop 7 (List.drop 4 (List.drop 3 (List.take 33 _))))]
              generalize htl : List.drop 4 (List.drop 7 (List.drop 4 (List.drop 3 (List.take 33 _)))) = tl
              simp [h1, h2]
              refine ⟨by omega, fun x hx => ?_⟩
              obtain rfl : z = x := Option.some.inj (hz.symm.trans hx)
              clear hx
              subst htl
              rw [← List.take_append_drop 8 (List.drop 4 (List.drop 7 (List.drop 4 (List.drop 3 (List.take 33 _)))))]
              generalize htl : List.drop 8 (List.drop 4 (List.drop 7 (List.drop 4 (List.drop 3 (List.take 33 _))))) = tl
              simp
              refine ⟨hlt, fun x hx => ?_⟩
              obtain rfl : y = x := Option.some.inj (hy.symm.trans hx)
              clear hx
              subst htl
              simp [h1, h2]
              refine DrC.ok hF (by rfl) (by simp [h1, h2]) c1 (by simp) (by simp) ?_
              simp [h3]
              refine S 60 _ _ ?_
              simp
            · by_cases h4 : HomP y.ts
              · rw [decide_eq_true h4] at c2
                refine J.dr hF mixed 33 [[], [], [0, 1], [0, 1, 2], [0, 1, 2, 3], [], [5], [5, 6], [5, 6, 7], [0, 1, 2, 3, 4, 5, 6, 7, 8], [0, 1, 2, 3, 4, 5, 6, 7, 8, 9], [0, 1, 2, 3, 4, 5, 6, 7, 8, 9, 10], [0, 1, 2, 3, 4, 5, 6, 7, 8, 9, 10], [0, 1, 2, 3, 4, 5, 6, 7, 8, 9, 10, 11, 12], [0, 1, 2, 3, 4, 5, 6, 7, 8, 9, 10, 11, 12, 13], [0, 1, 2, 3, 4, 5, 6, 7, 8, 9, 10, 11, 12, 13, 14], [0, 1, 2, 3, 4, 5, 6, 7, 8, 9, 10], [0, 1, 2, 3, 4, 5, 6, 7, 8, 9, 10, 16], [0, 1, 2, 3, 4, 5, 6, 7, 8, 9, 10, 16, 17], [0, 1, 2, 3, 4, 5, 6, 7, 8, 9, 10, 16, 17, 18], [0, 1, 2, 3, 4, 5, 6, 7, 8, 9, 10, 11, 12, 13, 14, 15, 16, 17, 18, 19], [0, 1, 2, 3, 4, 5, 6, 7, 8, 9, 10, 11, 12, 13, 14, 15, 16, 17, 18, 19, 20], [0, 1, 2, 3, 4, 5, 6, 7, 8, 9, 10, 11, 12, 13, 14, 15, 16, 17, 18, 19, 20, 21], [0, 1, 2, 3, 4, 5, 6, 7, 8, 9, 10, 11, 12, 13, 14, 15, 16, 17, 18, 19, 20, 21, 22], [0, 1, 2, 3, 4, 5, 6, 7, 8, 9, 10, 11, 12, 13, 14, 15, 16, 17, 18, 19, 20, 21, 22], [0, 1, 2, 3, 4, 5, 6, 7, 8, 9, 10, 11, 12, 13, 14, 15, 16, 17, 18, 19, 20, 21, 22, 23, 24], [0, 1, 2, 3, 4, 5, 6, 7, 8, 9, 10, 11, 12, 13, 14, 15, 16, 17, 18, 19, 20, 21, 22, 23, 24, 25], [0, 1, 2, 3, 4, 5, 6, 7, 8, 9, 10, 11, 12, 13, 14, 15, 16, 17, 18, 19, 20, 21, 22, 23, 24, 25, 26], [0, 1, 2, 3, 4, 5, 6, 7, 8, 9, 10, 11, 12, 13, 14, 15, 16, 17, 18, 19, 20, 21, 22, 23, 24, 25, 26, 27], [0, 1, 2, 3, 4, 5, 6, 7, 8, 9, 10, 11, 12, 13, 14, 15, 16, 17, 18, 19, 20, 21, 22, 23, 24, 25, 26, 27, 28], [0, 1, 2, 3, 4, 5, 6, 7, 8, 9, 10, 11, 12, 13, 14, 15, 16, 17, 18, 19, 20, 21, 22, 23, 24, 25, 26, 27, 28, 29], [0, 1, 2, 3, 4, 5, 6, 7, 8, 9, 10, 11, 12, 13, 14, 15, 16, 17, 18, 19, 20, 21, 22, 23, 24, 25, 26, 27, 28, 29, 30], [0, 1, 2, 3, 4, 5, 6, 7, 8, 9, 10, 11, 12, 13, 14, 15, 16, 17, 18, 19, 20, 21, 22, 23, 24, 25, 26, 27, 28, 29, 30], [0, 1, 2, 3, 4, 5, 6, 7, 8, 9, 10, 11, 12, 13, 14, 15, 16, 17, 18, 19, 20, 21, 22, 23, 24, 25, 26, 27, 28, 29, 30, 31, 32], [0, 1, 2, 3, 4, 5, 6, 7, 8, 9, 10, 11, 12, 13, 14, 15, 16, 17, 18, 19, 20, 21, 22, 23, 24, 25, 26, 27, 28, 29, 30, 31, 32, 33], [0, 1, 2, 3, 4, 5, 6, 7, 8, 9, 10, 11, 12, 13, 14, 15, 16, 17, 18, 19, 20, 21, 22, 23, 24, 25, 26, 27, 28, 29, 30, 31, 32, 33, 34], [0, 1, 2, 3, 4, 5, 6, 7, 8, 9, 10, 11, 12, 13, 14, 15, 16, 17, 18, 19, 20, 21, 22, 23, 24, 25, 26, 27, 28, 29, 30, 31, 32, 33, 34, 35], [0, 1, 2, 3, 4, 5, 6, 7, 8, 9, 10, 11, 12, 13, 14, 15, 16, 17, 18, 19, 20, 21, 22, 23, 24, 25, 26, 27, 28, 29, 30, 31, 32, 33, 34, 35, 36]] [[26, 27, 28, 29, 30, 31, 32, 33, 34, 35, 36, 37, 38, 39, 40, 41, 42, 43, 44, 45, 46, 47, 48, 49, 50, 51, 52, 53, 54, 55, 56, 57, 58], [26, 27, 28, 29, 30, 31, 32, 33, 34, 35, 36, 37, 38, 39, 40, 41, 42, 43, 44, 45, 46, 47, 48, 49, 50, 51, 52, 53, 54, 55, 56, 57, 58], [28, 29, 30, 31, 32, 33, 34, 35, 36, 37, 38, 39, 40, 41, 42, 43, 44, 45, 46, 47, 48, 49, 50, 51, 52, 53, 54, 55, 56, 57, 58], [29, 30, 31, 32, 33, 34, 35, 36, 37, 38, 39, 40, 41, 42, 43, 44, 45, 46, 47, 48, 49, 50, 51, 52, 53, 54, 55, 56, 57, 58], [30, 31, 32, 33, 34, 35, 36, 37, 38, 39, 40, 41, 42, 43, 44, 45, 46, 47, 48, 49, 50, 51, 52, 53, 54, 55, 56, 57, 58], [26, 27, 28, 29, 30, 31, 32, 33, 34, 35, 36, 37, 38, 39, 40, 41, 42, 43, 44, 45, 46, 47, 48, 49, 50, 51, 52, 53, 54, 55, 56, 57, 58], [26, 27, 28, 29, 30, 32, 33, 34, 35, 36, 37, 38, 39, 40, 41, 42, 43, 44, 45, 46, 47, 48, 49, 50, 51, 52, 53, 54, 55, 56, 57, 58], [26, 27, 28, 29, 30, 33, 34, 35, 36, 37, 38, 39, 40, 41, 42, 43, 44, 45, 46, 47, 48, 49, 50, 51, 52, 53, 54, 55, 56, 57, 58], [26, 27, 28, 29, 30, 34, 35, 36, 37, 38, 39, 40, 41, 42, 43, 44, 45, 46, 47, 48, 49, 50, 51, 52, 53, 54, 55, 56, 57, 58], [35, 36, 37, 38, 39, 40, 41, 42, 43, 44, 45, 46, 47, 48, 49, 50, 51, 52, 53, 54, 55, 56, 57, 58], [36, 37, 38, 39, 40, 41, 42, 43, 44, 45, 46, 47, 48, 49, 50, 51, 52, 53, 54, 55, 56, 57, 58], [37, 38, 39, 40, 41, 42, 43, 44, 45, 46, 47, 48, 49, 50, 51, 52, 53, 54, 55, 56, 57, 58], [37, 38, 39, 40, 41, 42, 43, 44, 45, 46, 47, 48, 49, 50, 51, 52, 53, 54, 55, 56, 57, 58], [39, 40, 41, 42, 43, 44, 45, 46, 47, 48, 49, 50, 51, 52, 53, 54, 55, 56, 57, 58], [40, 41, 42, 43, 44, 45, 46, 47, 48, 49, 50, 51, 52, 53, 54, 55, 56, 57, 58], [41, 42, 43, 44, 45, 46, 47, 48, 49, 50, 51, 52, 53, 54, 55, 56, 57, 58], [37, 38, 39, 40, 41, 42, 43, 44, 45, 46, 47, 48, 49, 50, 51, 52, 53, 54, 55, 56, 57, 58], [37, 38, 39, 40, 41, 43, 44, 45, 46, 47, 48, 49, 50, 51, 52, 53, 54, 55, 56, 57, 58], [37, 38, 39, 40, 41, 44, 45, 46, 47, 48, 49, 50, 51, 52, 53, 54, 55, 56, 57, 58], [37, 38, 39, 40, 41, 45, 46, 47, 48, 49, 50, 51, 52, 53, 54, 55, 56, 57, 58], [46, 47, 48, 49, 50, 51, 52, 53, 54, 55, 56, 57, 58], [47, 48, 49, 50, 51, 52, 53, 54, 55, 56, 57, 58], [48, 49, 50, 51, 52, 53, 54, 55, 56, 57, 58], [49, 50, 51, 52, 53, 54, 55, 56, 57, 58], [49, 50, 51, 52, 53, 54, 55, 56, 57, 58], [51, 52, 53, 54, 55, 56, 57, 58], [52, 53, 54, 55, 56, 57, 58], [53, 54, 55, 56, 57, 58], [54, 55, 56, 57, 58], [55, 56, 57, 58], [56, 57, 58], [57, 58], [57, 58]] (by decide) ?_
                rw [← List.take_append_drop 3 (List.take 33 _)]
                generalize htl : List.drop 3 (List.take 33 _) = tl
                simp
                refine ⟨hlt, fun x hx => ?_⟩
                obtain rfl : y = x := Option.some.inj (hy.symm.trans hx)
                clear hx
                subst htl
                rw [← List.take_append_drop 4 (List.drop 3 (List.take 33 _))]
                generalize htl : List.drop 4 (List.drop 3 (List.take 33 _)) = tl
                simp [h1, h2]
                refine ⟨by omega, fun x hx => ?_⟩
                obtain rfl : z = x := Option.some.inj (hz.symm.trans hx)
                clear hx
                subst htl
                rw [← List.take_append_drop 7 (List.drop 4 (List.drop 3 (List.take 33 _)))]
                generalize htl : List.drop 7 (List.drop 4 (List.drop 3 (List.take 33 _))) = tl
                simp
                refine ⟨hlt, fun x hx => ?_⟩
                obtain rfl : y = x := Option.some.inj (hy.symm.trans hx)
                clear hx
                subst htl
                rw [← List.take_append_drop 4 (List.drop 7 (List.drop 4 (List.drop 3 (List.take 33 _))))]
                generalize htl : List.drop 4 (List.drop 7 (List.drop 4 (List.drop 3 (List.take 33 _)))) = tl
                simp [h1, h2]
                refine ⟨by omega, fun x hx => ?_⟩
                obtain rfl : z = x := Option.some.inj (hz.symm.trans hx)
                clear hx
                subst htl
                rw [← List.take_append_drop 8 (List.drop 4 (List.drop 7 (List.drop 4 (List.drop 3 (List.take 33 _)))))]
                generalize htl : List.drop 8 (List.drop 4 (List.drop 7 (List.drop 4 (List.drop 3 (List.take 33 _))))) = tl
                simp
                refine ⟨hlt, fun x hx => ?_⟩
                obtain rfl : y = x := Option.some.inj (hy.symm.trans hx)
                clear hx
                subst htl
                simp [h1, h2]
                refine DrC.ok hF (by rfl) (by simp [h1, h2]) c1 (by simp) (by simp) ?_
                simp [h3]
                refine S 60 _ _ ?_
                simp
                refine ⟨hlt, fun x hx => ?_⟩
                obtain rfl : y = x := Option.some.inj (hy.symm.trans hx)
                refine CallW.ok (by decide) (by simp [h1, h2]) c2 (by simp) (S 60 _ _ ?_)
                simp
                refine Nxt.mk (i + 1) ⟨hlt, fun u hu w hw => ?_⟩ (by simp [wrapS (i := i) (n := ys.length) hlt (by omega)]) (by omega)
                rw [List.take_add_one, hy] at hu
                simp only [Option.toList, List.mem_append, List.mem_singleton] at hu
                rcases hu with hu | rfl
                · exact hall u hu w hw
                · obtain rfl : z = w := Option.some.inj (hz.symm.trans hw)
                  exact ⟨⟨h1, h2⟩, h4, by omega⟩
              · have hbf := hbd fun h => h4 h.2.1
                subst hbf
                rw [decide_eq_false h4] at c2
                refine J.dr hF mixed 33 [[], [], [0, 1], [0, 1, 2], [0, 1, 2, 3], [], [5], [5, 6], [5, 6, 7], [0, 1, 2, 3, 4, 5, 6, 7, 8], [0, 1, 2, 3, 4, 5, 6, 7, 8, 9], [0, 1, 2, 3, 4, 5, 6, 7, 8, 9, 10], [0, 1, 2, 3, 4, 5, 6, 7, 8, 9, 10], [0, 1, 2, 3, 4, 5, 6, 7, 8, 9, 10, 11, 12], [0, 1, 2, 3, 4, 5, 6, 7, 8, 9, 10, 11, 12, 13], [0, 1, 2, 3, 4, 5, 6, 7, 8, 9, 10, 11, 12, 13, 14], [0, 1, 2, 3, 4, 5, 6, 7, 8, 9, 10], [0, 1, 2, 3, 4, 5, 6, 7, 8, 9, 10, 16], [0, 1, 2, 3, 4, 5, 6, 7, 8, 9, 10, 16, 17], [0, 1, 2, 3, 4, 5, 6, 7, 8, 9, 10, 16, 17, 18], [0, 1, 2, 3, 4, 5, 6, 7, 8, 9, 10, 11, 12, 13, 14, 15, 16, 17, 18, 19], [0, 1, 2, 3, 4, 5, 6, 7, 8, 9, 10, 11, 12, 13, 14, 15, 16, 17, 18, 19, 20], [0, 1, 2, 3, 4, 5, 6, 7, 8, 9, 10, 11, 12, 13, 14, 15, 16, 17, 18, 19, 20, 21], [0, 1, 2, 3, 4, 5, 6, 7, 8, 9, 10, 11, 12, 13, 14, 15, 16, 17, 18, 19, 20, 21, 22], [0, 1, 2, 3, 4, 5, 6, 7, 8, 9, 10, 11, 12, 13, 14, 15, 16, 17, 18, 19, 20, 21, 22], [0, 1, 2, 3, 4, 5, 6, 7, 8, 9, 10, 11, 12, 13, 14, 15, 16, 17, 18, 19, 20, 21, 22, 23, 24], [0, 1, 2, 3, 4, 5, 6, 7, 8, 9, 10, 11, 12, 13, 14, 15, 16, 17, 18, 19, 20, 21, 22, 23, 24, 25], [0, 1, 2, 3, 4, 5, 6, 7, 8, 9, 10, 11, 12, 13, 14, 15, 16, 17, 18, 19, 20, 21, 22, 23, 24, 25, 26], [0, 1, 2, 3, 4, 5, 6, 7, 8, 9, 10, 11, 12, 13, 14, 15, 16, 17, 18, 19, 20, 21, 22, 23, 24, 25, 26, 27], [0, 1, 2, 3, 4, 5, 6, 7, 8, 9, 10, 11, 12, 13, 14, 15, 16, 17, 18, 19, 20, 21, 22, 23, 24, 25, 26, 27, 28], [0, 1, 2, 3, 4, 5, 6, 7, 8, 9, 10, 11, 12, 13, 14, 15, 16, 17, 18, 19, 20, 21, 22, 23, 24, 25, 26, 27, 28, 29], [0, 1, 2, 3, 4, 5, 6, 7, 8, 9, 10, 11, 12, 13, 14, 15, 16, 17, 18, 19, 20, 21, 22, 23, 24, 25, 26, 27, 28, 29, 30], [0, 1, 2, 3, 4, 5, 6, 7, 8, 9, 10, 11, 12, 13, 14, 15, 16, 17, 18, 19, 20, 21, 22, 23, 24, 25, 26, 27, 28, 29, 30], [0, 1, 2, 3, 4, 5, 6, 7, 8, 9, 10, 11, 12, 13, 14, 15, 16, 17, 18, 19, 20, 21, 22, 23, 24, 25, 26, 27, 28, 29, 30, 31, 32], [0, 1, 2, 3, 4, 5, 6, 7, 8, 9, 10, 11, 12, 13, 14, 15, 16, 17, 18, 19, 20, 21, 22, 23, 24, 25, 26, 27, 28, 29, 30, 31, 32, 33], [0, 1, 2, 3, 4, 5, 6, 7, 8, 9, 10, 11, 12, 13, 14, 15, 16, 17, 18, 19, 20, 21, 22, 23, 24, 25, 26, 27, 28, 29, 30, 31, 32, 33, 34], [0, 1, 2, 3, 4, 5, 6, 7, 8, 9, 10, 11, 12, 13, 14, 15, 16, 17, 18, 19, 20, 21, 22, 23, 24, 25, 26, 27, 28, 29, 30, 31, 32, 33, 34, 35], [0, 1, 2, 3, 4, 5, 6, 7, 8, 9, 10, 11, 12, 13, 14, 15, 16, 17, 18, 19, 20, 21, 22, 23, 24, 25, 26, 27, 28, 29, 30, 31, 32, 33, 34, 35, 36]] [[26, 27, 28, 29, 30, 31, 32, 33, 34, 35, 36, 37, 38, 39, 40, 41, 42, 43, 44, 45, 46, 47, 48, 49, 50, 51, 52, 53, 54, 55, 56, 57, 58], [26, 27, 28, 29, 30, 31, 32, 33, 34, 35, 36, 37, 38, 39, 40, 41, 42, 43, 44, 45, 46, 47, 48, 49, 50, 51, 52, 53, 54, 55, 56, 57, 58], [28, 29, 30, 31, 32, 33, 34, 35, 36, 37, 38, 39, 40, 41, 42, 43, 44, 45, 46, 47, 48, 49, 50, 51, 52, 53, 54, 55, 56, 57, 58], [29, 30, 31, 32, 33, 34, 35, 36, 37, 38, 39, 40, 41, 42, 43, 44, 45, 46, 47, 48, 49, 50, 51, 52, 53, 54, 55, 56, 57, 58], [30, 31, 32, 33, 34, 35, 36, 37, 38, 39, 40, 41, 42, 43, 44, 45, 46, 47, 48, 49, 50, 51, 52, 53, 54, 55, 56, 57, 58], [26, 27, 28, 29, 30, 31, 32, 33, 34, 35, 36, 37, 38, 39, 40, 41, 42, 43, 44, 45, 46, 47, 48, 49, 50, 51, 52, 53, 54, 55, 56, 57, 58], [26, 27, 28, 29, 30, 32, 33, 34, 35, 36, 37, 38, 39, 40, 41, 42, 43, 44, 45, 46, 47, 48, 49, 50, 51, 52, 53, 54, 55, 56, 57, 58], [26, 27, 28, 29, 30, 33, 34, 35, 36, 37, 38, 39, 40, 41, 42, 43, 44, 45, 46, 47, 48, 49, 50, 51, 52, 53, 54, 55, 56, 57, 58], [26, 27, 28, 29, 30, 34, 35, 36, 37, 38, 39, 40, 41, 42, 43, 44, 45, 46, 47, 48, 49, 50, 51, 52, 53, 54, 55, 56, 57, 58], [35, 36, 37, 38, 39, 40, 41, 42, 43, 44, 45, 46, 47, 48, 49, 50, 51, 52, 53, 54, 55, 56, 57, 58], [36, 37, 38, 39, 40, 41, 42, 43, 44, 45, 46, 47, 48, 49, 50, 51, 52, 53, 54, 55, 56, 57, 58], [37, 38, 39, 40, 41, 42, 43, 44, 45, 46, 47, 48, 49, 50, 51, 52, 53, 54, 55, 56, 57, 58], [37, 38, 39, 40, 41, 42, 43, 44, 45, 46, 47, 48, 49, 50, 51, 52, 53, 54, 55, 56, 57, 58], [39, 40, 41, 42, 43, 44, 45, 46, 47, 48, 49, 50, 51, 52, 53, 54, 55, 56, 57, 58], [40, 41, 42, 43, 44, 45, 46, 47, 48, 49, 50, 51, 52, 53, 54, 55, 56, 57, 58], [41, 42, 43, 44, 45, 46, 47, 48, 49, 50, 51, 52, 53, 54, 55, 56, 57, 58], [37, 38, 39, 40, 41, 42, 43, 44, 45, 46, 47, 48, 49, 50, 51, 52, 53, 54, 55, 56, 57, 58], [37, 38, 39, 40, 41, 43, 44, 45, 46, 47, 48, 49, 50, 51, 52, 53, 54, 55, 56, 57, 58], [37, 38, 39, 40, 41, 44, 45, 46, 47, 48, 49, 50, 51, 52, 53, 54, 55, 56, 57, 58], [37, 38, 39, 40, 41, 45, 46, 47, 48, 49, 50, 51, 52, 53, 54, 55, 56, 57, 58], [46, 47, 48, 49, 50, 51, 52, 53, 54, 55, 56, 57, 58], [47, 48, 49, 50, 51, 52, 53, 54, 55, 56, 57, 58], [48, 49, 50, 51, 52, 53, 54, 55, 56, 57, 58], [49, 50, 51, 52, 53, 54, 55, 56, 57, 58], [49, 50, 51, 52, 53, 54, 55, 56, 57, 58], [51, 52, 53, 54, 55, 56, 57, 58], [52, 53, 54, 55, 56, 57, 58], [53, 54, 55, 56, 57, 58], [54, 55, 56, 57, 58], [55, 56, 57, 58], [56, 57, 58], [57, 58], [57, 58]] (by decide) ?_
                rw [← List.take_append_drop 3 (List.take 33 _)]
                generalize htl : List.drop 3 (List.take 33 _) = tl
                simp
                refine ⟨hlt, fun x hx => ?_⟩
                obtain rfl : y = x := Option.some.inj (hy.symm.trans hx)
                clear hx
                subst htl
                rw [← List.take_append_drop 4 (List.drop 3 (List.take 33 _))]
                generalize htl : List.drop 4 (List.drop 3 (List.take 33 _)) = tl
                simp [h1, h2]
                refine ⟨by omega, fun x hx => ?_⟩
                obtain rfl : z = x := Option.some.inj (hz.symm.trans hx)
                clear hx
                subst htl
                rw [← List.take_append_drop 7 (List.drop 4 (List.drop 3 (List.take 33 _)))]
                generalize htl : List.drop 7 (List.drop 4 (List.drop 3 (List.take 33 _))) = tl
                simp
                refine ⟨hlt, fun x hx => ?_⟩
                obtain rfl : y = x := Option.some.inj (hy.symm.trans hx)
                clear hx
                subst htl
                rw [← List.take_append_drop 4 (List.drop 7 (List.drop 4 (List.drop 3 (List.take 33 _))))]
                generalize htl : List.drop 4 (List.drop 7 (List.drop 4 (List.drop 3 (List.take 33 _)))) = tl
                simp [h1, h2]
                refine ⟨by omega, fun x hx => ?_⟩
                obtain rfl : z = x := Option.some.inj (hz.symm.trans hx)
                clear hx
                subst htl
                rw [← List.take_append_drop 8 (List.drop 4 (List.drop 7 (List.drop 4 (List.drop 3 (List.take 33 _)))))]
                generalize htl : List.drop 8 (List.drop 4 (List.drop 7 (List.drop 4 (List.drop 3 (List.take 33 _))))) = tl
                simp
                refine ⟨hlt, fun x hx => ?_⟩
                obtain rfl : y = x := Option.some.inj (hy.symm.trans hx)
                clear hx
                subst htl
                simp [h1, h2]
                refine DrC.ok hF (by rfl) (by simp [h1, h2]) c1 (by simp) (by simp) ?_
                simp [h3]
                refine S 60 _ _ ?_
                simp
                refine ⟨hlt, fun x hx => ?_⟩
                obtain rfl : y = x := Option.some.inj (hy.symm.trans hx)
                refine CallW.ok (by decide) (by simp [h1, h2]) c2 (by simp) (S 60 _ _ ?_)
                simp
          · have hbf := hbd fun h => h2 h.1.2
            subst hbf
            refine J.dr hF mixed 33 [[], [], [0, 1], [0, 1, 2], [0, 1, 2, 3], [], [5], [5, 6], [5, 6, 7], [0, 1, 2, 3, 4, 5, 6, 7, 8], [0, 1, 2, 3, 4, 5, 6, 7, 8, 9], [0, 1, 2, 3, 4, 5, 6, 7, 8, 9, 10], [0, 1, 2, 3, 4, 5, 6, 7, 8, 9, 10], [0, 1, 2, 3, 4, 5, 6, 7, 8, 9, 10, 11, 12], [0, 1, 2, 3, 4, 5, 6, 7, 8, 9, 10, 11, 12, 13], [0, 1, 2, 3, 4, 5, 6, 7, 8, 9, 10, 11, 12, 13, 14], [0, 1, 2, 3, 4, 5, 6, 7, 8, 9, 10], [0, 1, 2, 3, 4, 5, 6, 7, 8, 9, 10, 16], [0, 1, 2, 3, 4, 5, 6, 7, 8, 9, 10, 16, 17], [0, 1, 2, 3, 4, 5, 6, 7, 8, 9, 10, 16, 17, 18], [0, 1, 2, 3, 4, 5, 6, 7, 8, 9, 10, 11, 12, 13, 14, 15, 16, 17, 18, 19], [0, 1, 2, 3, 4, 5, 6, 7, 8, 9, 10, 11, 12, 13, 14, 15, 16, 17, 18, 19, 20], [0, 1, 2, 3, 4, 5, 6, 7, 8, 9, 10, 11, 12, 13, 14, 15, 16, 17, 18, 19, 20, 21], [0, 1, 2, 3, 4, 5, 6, 7, 8, 9, 10, 11, 12, 13, 14, 15, 16, 17, 18, 19, 20, 21, 22], [0, 1, 2, 3, 4, 5, 6, 7, 8, 9, 10, 11, 12, 13, 14, 15, 16, 17, 18, 19, 20, 21, 22], [0, 1, 2, 3, 4, 5, 6, 7, 8, 9, 10, 11, 12, 13, 14, 15, 16, 17, 18, 19, 20, 21, 22, 23, 24], [0, 1, 2, 3, 4, 5, 6, 7, 8, 9, 10, 11, 12, 13, 14, 15, 16, 17, 18, 19, 20, 21, 22, 23, 24, 25], [0, 1, 2, 3, 4, 5, 6, 7, 8, 9, 10, 11, 12, 13, 14, 15, 16, 17, 18, 19, 20, 21, 22, 23, 24, 25, 26], [0, 1, 2, 3, 4, 5, 6, 7, 8, 9, 10, 11, 12, 13, 14, 15, 16, 17, 18, 19, 20, 21, 22, 23, 24, 25, 26, 27], [0, 1, 2, 3, 4, 5, 6, 7, 8, 9, 10, 11, 12, 13, 14, 15, 16, 17, 18, 19, 20, 21, 22, 23, 24, 25, 26, 27, 28], [0, 1, 2, 3, 4, 5, 6, 7, 8, 9, 10, 11, 12, 13, 14, 15, 16, 17, 18, 19, 20, 21, 22, 23, 24, 25, 26, 27, 28, 29], [0, 1, 2, 3, 4, 5, 6, 7, 8, 9, 10, 11, 12, 13, 14, 15, 16, 17, 18, 19, 20, 21, 22, 23, 24, 25, 26, 27, 28, 29, 30], [0, 1, 2, 3, 4, 5, 6, 7, 8, 9, 10, 11, 12, 13, 14, 15, 16, 17, 18, 19, 20, 21, 22, 23, 24, 25, 26, 27, 28, 29, 30], [0, 1, 2, 3, 4, 5, 6, 7, 8, 9, 10, 11, 12, 13, 14, 15, 16, 17, 18, 19, 20, 21, 22, 23, 24, 25, 26, 27, 28, 29, 30, 31, 32], [0, 1, 2, 3, 4, 5, 6, 7, 8, 9, 10, 11, 12, 13, 14, 15, 16, 17, 18, 19, 20, 21, 22, 23, 24, 25, 26, 27, 28, 29, 30, 31, 32, 33], [0, 1, 2, 3, 4, 5, 6, 7, 8, 9, 10, 11, 12, 13, 14, 15, 16, 17, 18, 19, 20, 21, 22, 23, 24, 25, 26, 27, 28, 29, 30, 31, 32, 33, 34], [0, 1, 2, 3, 4, 5, 6, 7, 8, 9, 10, 11, 12, 13, 14, 15, 16, 17, 18, 19, 20, 21, 22, 23, 24, 25, 26, 27, 28, 29, 30, 31, 32, 33, 34, 35], [0, 1, 2, 3, 4, 5, 6, 7, 8, 9, 10, 11, 12, 13, 14, 15, 16, 17, 18, 19, 20, 21, 22, 23, 24, 25, 26, 27, 28, 29, 30, 31, 32, 33, 34, 35, 36]] [[26, 27, 28, 29, 30, 31, 32, 33, 34, 35, 36, 37, 38, 39, 40, 41, 42, 43, 44, 45, 46, 47, 48, 49, 50, 51, 52, 53, 54, 55, 56, 57, 58], [26, 27, 28, 29, 30, 31, 32, 33, 34, 35, 36, 37, 38, 39, 40, 41, 42, 43, 44, 45, 46, 47, 48, 49, 50, 51, 52, 53, 54, 55, 56, 57, 58], [28, 29, 30, 31, 32, 33, 34, 35, 36, 37, 38, 39, 40, 41, 42, 43, 44, 45, 46, 47, 48, 49, 50, 51, 52, 53, 54, 55, 56, 57, 58], [29, 30, 31, 32, 33, 34, 35, 36, 37, 38, 39, 40, 41, 42, 43, 44, 45, 46, 47, 48, 49, 50, 51, 52, 53, 54, 55, 56, 57, 58], [30, 31, 32, 33, 34, 35, 36, 37, 38, 39, 40, 41, 42, 43, 44, 45, 46, 47, 48, 49, 50, 51, 52, 53, 54, 55, 56, 57, 58], [26, 27, 28, 29, 30, 31, 32, 33, 34, 35, 36, 37, 38, 39, 40, 41, 42, 43, 44, 45, 46, 47, 48, 49, 50, 51, 52, 53, 54, 55, 56, 57, 58], [26, 27, 28, 29, 30, 32, 33, 34, 35, 36, 37, 38, 39, 40, 41, 42, 43, 44, 45, 46, 47, 48, 49, 50, 51, 52, 53, 54, 55, 56, 57, 58], [26, 27, 28, 29, 30, 33, 34, 35, 36, 37, 38, 39, 40, 41, 42, 43, 44, 45, 46, 47, 48, 49, 50, 51, 52, 53, 54, 55, 56, 57, 58], [26, 27, 28, 29, 30, 34, 35, 36, 37, 38, 39, 40, 41, 42, 43, 44, 45, 46, 47, 48, 49, 50, 51, 52, 53, 54, 55, 56, 57, 58], [35, 36, 37, 38, 39, 40, 41, 42, 43, 44, 45, 46, 47, 48, 49, 50, 51, 52, 53, 54, 55, 56, 57, 58], [36, 37, 38, 39, 40, 41, 42, 43, 44, 45, 46, 47, 48, 49, 50, 51, 52, 53, 54, 55, 56, 57, 58], [37, 38, 39, 40, 41, 42, 43, 44, 45, 46, 47, 48, 49, 50, 51, 52, 53, 54, 55, 56, 57, 58], [37, 38, 39, 40, 41, 42, 43, 44, 45, 46, 47, 48, 49, 50, 51, 52, 53, 54, 55, 56, 57, 58], [39, 40, 41, 42, 43, 44, 45, 46, 47, 48, 49, 50, 51, 52, 53, 54, 55, 56, 57, 58], [40, 41, 42, 43, 44, 45, 46, 47, 48, 49, 50, 51, 52, 53, 54, 55, 56, 57, 58], [41, 42, 43, 44, 45, 46, 47, 48, 49, 50, 51, 52, 53, 54, 55, 56, 57, 58], [37, 38, 39, 40, 41, 42, 43, 44, 45, 46, 47, 48, 49, 50, 51, 52, 53, 54, 55, 56, 57, 58], [37, 38, 39, 40, 41, 43, 44, 45, 46, 47, 48, 49, 50, 51, 52, 53, 54, 55, 56, 57, 58], [37, 38, 39, 40, 41, 44, 45, 46, 47, 48, 49, 50, 51, 52, 53, 54, 55, 56, 57, 58], [37, 38, 39, 40, 41, 45, 46, 47, 48, 49, 50, 51, 52, 53, 54, 55, 56, 57, 58], [46, 47, 48, 49, 50, 51, 52, 53, 54, 55, 56, 57, 58], [47, 48, 49, 50, 51, 52, 53, 54, 55, 56, 57, 58], [48, 49, 50, 51, 52, 53, 54, 55, 56, 57, 58], [49, 50, 51, 52, 53, 54, 55, 56, 57, 58], [49, 50, 51, 52, 53, 54, 55, 56, 57, 58], [51, 52, 53, 54, 55, 56, 57, 58], [52, 53, 54, 55, 56, 57, 58], [53, 54, 55, 56, 57, 58], [54, 55, 56, 57, 58], [55, 56, 57, 58], [56, 57, 58], [57, 58], [57, 58]] (by decide) ?_
            rw [← List.take_append_drop 3 (List.take 33 _)]
            generalize htl : List.drop 3 (List.take 33 _) = tl
            simp
            refine ⟨hlt, fun x hx => ?_⟩
            obtain rfl : y = x := Option.some.inj (hy.symm.trans hx)
            clear hx
            subst htl
            rw [← List.take_append_drop 4 (List.drop 3 (List.take 33 _))]
            generalize htl : List.drop 4 (List.drop 3 (List.take 33 _)) = tl
            simp [h1]
            refine ⟨by omega, fun x hx => ?_⟩
            obtain rfl : z = x := Option.some.inj (hz.symm.trans hx)
            clear hx
            subst htl
            rw [← List.take_append_drop 7 (List.drop 4 (List.drop 3 (List.take 33 _)))]
            generalize htl : List.drop 7 (List.drop 4 (List.drop 3 (List.take 33 _))) = tl
            simp
            refine ⟨hlt, fun x hx => ?_⟩
            obtain rfl : y = x := Option.some.inj (hy.symm.trans hx)
            clear hx
            subst htl
            rw [← List.take_append_drop 4 (List.drop 7 (List.drop 4 (List.drop 3 (List.take 33 _))))]
            generalize htl : List.drop 4 (List.drop 7 (List.drop 4 (List.drop 3 (List.take 33 _)))) = tl
            simp [h1]
            refine ⟨by omega, fun x hx => ?_⟩
            obtain rfl : z = x := Option.some.inj (hz.symm.trans hx)
            clear hx
            subst htl
            simp [h2]
            refine S 60 _ _ ?_
            simp
        · have hbf := hbd fun h => h1 h.1.1
          subst hbf
          refine J.dr hF mixed 33 [[], [], [0, 1], [0, 1, 2], [0, 1, 2, 3], [], [5], [5, 6], [5, 6, 7], [0, 1, 2, 3, 4, 5, 6, 7, 8], [0, 1, 2, 3, 4, 5, 6, 7, 8, 9], [0, 1, 2, 3, 4, 5, 6, 7, 8, 9, 10], [0, 1, 2, 3, 4, 5, 6, 7, 8, 9, 10], [0, 1, 2, 3, 4, 5, 6, 7, 8, 9, 10, 11, 12], [0, 1, 2, 3, 4, 5, 6, 7, 8, 9, 10, 11, 12, 13], [0, 1, 2, 3, 4, 5, 6, 7, 8, 9, 10, 11, 12, 13, 14], [0, 1, 2, 3, 4, 5, 6, 7, 8, 9, 10], [0, 1, 2, 3, 4, 5, 6, 7, 8, 9, 10, 16], [0, 1, 2, 3, 4, 5, 6, 7, 8, 9, 10, 16, 17], [0, 1, 2, 3, 4, 5, 6, 7, 8, 9, 10, 16, 17, 18], [0, 1, 2, 3, 4, 5, 6, 7, 8, 9, 10, 11, 12, 13, 14, 15, 16, 17, 18, 19], [0, 1, 2, 3, 4, 5, 6, 7, 8, 9, 10, 11, 12, 13, 14, 15, 16, 17, 18, 19, 20], [0, 1, 2, 3, 4, 5, 6, 7, 8, 9, 10, 11, 12, 13, 14, 15, 16, 17, 18, 19, 20, 21], [0, 1, 2, 3, 4, 5, 6, 7, 8, 9, 10, 11, 12, 13, 14, 15, 16, 17, 18, 19, 20, 21, 22], [0, 1, 2, 3, 4, 5, 6, 7, 8, 9, 10, 11, 12, 13, 14, 15, 16, 17, 18, 19, 20, 21, 22], [0, 1, 2, 3, 4, 5, 6, 7, 8, 9, 10, 11, 12, 13, 14, 15, 16, 17, 18, 19, 20, 21, 22, 23, 24], [0, 1, 2, 3, 4, 5, 6, 7, 8, 9, 10, 11, 12, 13, 14, 15, 16, 17, 18, 19, 20, 21, 22, 23, 24, 25], [0, 1, 2, 3, 4, 5, 6, 7, 8, 9, 10, 11, 12, 13, 14, 15, 16, 17, 18, 19, 20, 21, 22, 23, 24, 25, 26], [0, 1, 2, 3, 4, 5, 6, 7, 8, 9, 10, 11, 12, 13, 14, 15, 16, 17, 18, 19, 20, 21, 22, 23, 24, 25, 26, 27], [0, 1, 2, 3, 4, 5, 6, 7, 8, 9, 10, 11, 12, 13, 14, 15, 16, 17, 18, 19, 20, 21, 22, 23, 24, 25, 26, 27, 28], [0, 1, 2, 3, 4, 5, 6, 7, 8, 9, 10, 11, 12, 13, 14, 15, 16, 17, 18, 19, 20, 21, 22, 23, 24, 25, 26, 27, 28, 29], [0, 1, 2, 3, 4, 5, 6, 7, 8, 9, 10, 11, 12, 13, 14, 15, 16, 17, 18, 19, 20, 21, 22, 23, 24, 25, 26, 27, 28, 29, 30], [0, 1, 2, 3, 4, 5, 6, 7, 8, 9, 10, 11, 12, 13, 14, 15, 16, 17, 18, 19, 20, 21, 22, 23, 24, 25, 26, 27, 28, 29, 30], [0, 1, 2, 3, 4, 5, 6, 7, 8, 9, 10, 11, 12, 13, 14, 15, 16, 17, 18, 19, 20, 21, 22, 23, 24, 25, 26, 27, 28, 29, 30, 31, 32], [0, 1, 2, 3, 4, 5, 6, 7, 8, 9, 10, 11, 12, 13, 14, 15, 16, 17, 18, 19, 20, 21, 22, 23, 24, 25, 26, 27, 28, 29, 30, 31, 32, 33], [0, 1, 2, 3, 4, 5, 6, 7, 8, 9, 10, 11, 12, 13, 14, 15, 16, 17, 18, 19, 20, 21, 22, 23, 24, 25, 26, 27, 28, 29, 30, 31, 32, 33, 34], [0, 1, 2, 3, 4, 5, 6, 7, 8, 9, 10, 11, 12, 13, 14, 15, 16, 17, 18, 19, 20, 21, 22, 23, 24, 25, 26, 27, 28, 29, 30, 31, 32, 33, 34, 35], [0, 1, 2, 3, 4, 5, 6, 7, 8, 9, 10, 11, 12, 13, 14, 15, 16, 17, 18, 19, 20, 21, 22, 23, 24, 25, 26, 27, 28, 29, 30, 31, 32, 33, 34, 35, 36]] [[26, 27, 28, 29, 30, 31, 32, 33, 34, 35, 36, 37, 38, 39, 40, 41, 42, 43, 44, 45, 46, 47, 48, 49, 50, 51, 52, 53, 54, 55, 56, 57, 58], [26, 27, 28, 29, 30, 31, 32, 33, 34, 35, 36, 37, 38, 39, 40, 41, 42, 43, 44, 45, 46, 47, 48, 49, 50, 51, 52, 53, 54, 55, 56, 57, 58], [28, 29, 30, 31, 32, 33, 34, 35, 36, 37, 38, 39, 40, 41, 42, 43, 44, 45, 46, 47, 48, 49, 50, 51, 52, 53, 54, 55, 56, 57, 58], [29, 30, 31, 32, 33, 34, 35, 36, 37, 38, 39, 40, 41, 42, 43, 44, 45, 46, 47, 48, 49, 50, 51, 52, 53, 54, 55, 56, 57, 58], [30, 31, 32, 33, 34, 35, 36, 37, 38, 39, 40, 41, 42, 43, 44, 45, 46, 47, 48, 49, 50, 51, 52, 53, 54, 55, 56, 57, 58], [26, 27, 28, 29, 30, 31, 32, 33, 34, 35, 36, 37, 38, 39, 40, 41, 42, 43, 44, 45, 46, 47, 48, 49, 50, 51, 52, 53, 54, 55, 56, 57, 58], [26, 27, 28, 29, 30, 32, 33, 34, 35, 36, 37, 38, 39, 40, 41, 42, 43, 44, 45, 46, 47, 48, 49, 50, 51, 52, 53, 54, 55, 56, 57, 58], [26, 27, 28, 29, 30, 33, 34, 35, 36, 37, 38, 39, 40, 41, 42, 43, 44, 45, 46, 47, 48, 49, 50, 51, 52, 53, 54, 55, 56, 57, 58], [26, 27, 28, 29, 30, 34, 35, 36, 37, 38, 39, 40, 41, 42, 43, 44, 45, 46, 47, 48, 49, 50, 51, 52, 53, 54, 55, 56, 57, 58], [35, 36, 37, 38, 39, 40, 41, 42, 43, 44, 45, 46, 47, 48, 49, 50, 51, 52, 53, 54, 55, 56, 57, 58], [36, 37, 38, 39, 40, 41, 42, 43, 44, 45, 46, 47, 48, 49, 50, 51, 52, 53, 54, 55, 56, 57, 58], [37, 38, 39, 40, 41, 42, 43, 44, 45, 46, 47, 48, 49, 50, 51, 52, 53, 54, 55, 56, 57, 58], [37, 38, 39, 40, 41, 42, 43, 44, 45, 46, 47, 48, 49, 50, 51, 52, 53, 54, 55, 56, 57, 58], [39, 40, 41, 42, 43, 44, 45, 46, 47, 48, 49, 50, 51, 52, 53, 54, 55, 56, 57, 58], [40, 41, 42, 43, 44, 45, 46, 47, 48, 49, 50, 51, 52, 53, 54, 55, 56, 57, 58], [41, 42, 43, 44, 45, 46, 47, 48, 49, 50, 51, 52, 53, 54, 55, 56, 57, 58], [37, 38, 39, 40, 41, 42, 43, 44, 45, 46, 47, 48, 49, 50, 51, 52, 53, 54, 55, 56, 57, 58], [37, 38, 39, 40, 41, 43, 44, 45, 46, 47, 48, 49, 50, 51, 52, 53, 54, 55, 56, 57, 58], [37, 38, 39, 40, 41, 44, 45, 46, 47, 48, 49, 50, 51, 52, 53, 54, 55, 56, 57, 58], [37, 38, 39, 40, 41, 45, 46, 47, 48, 49, 50, 51, 52, 53, 54, 55, 56, 57, 58], [46, 47, 48, 49, 50, 51, 52, 53, 54, 55, 56, 57, 58], [47, 48, 49, 50, 51, 52, 53, 54, 55, 56, 57, 58], [48, 49, 50, 51, 52, 53, 54, 55, 56, 57, 58], [49, 50, 51, 52, 53, 54, 55, 56, 57, 58], [49, 50, 51, 52, 53, 54, 55, 56, 57, 58], [51, 52, 53, 54, 55, 56, 57, 58], [52, 53, 54, 55, 56, 57, 58], [53, 54, 55, 56, 57, 58], [54, 55, 56, 57, 58], [55, 56, 57, 58], [56, 57, 58], [57, 58], [57, 58]] (by decide) ?_
          rw [← List.take_append_drop 3 (List.take 33 _)]
          generalize htl : List.drop 3 (List.take 33 _) = tl
          simp
          refine ⟨hlt, fun x hx => ?_⟩
          obtain rfl : y = x := Option.some.inj (hy.symm.trans hx)
          clear hx
          subst htl
          rw [← List.take_append_drop 4 (List.drop 3 (List.take 33 _))]
          generalize htl : List.drop 4 (List.drop 3 (List.take 33 _)) = tl
          simp
          refine ⟨by omega, fun x hx => ?_⟩
          obtain rfl : z = x := Option.some.inj (hz.symm.trans hx)
          clear hx
          subst htl
          simp [h1]
          refine S 60 _ _ ?_
          simp
      · rw [List.take_of_length_le (by omega)] at hall
        rw [hyes ha ⟨by omega, hall⟩] at S ⊢
        refine S 60 _ _ ?_
        simp
theorem l05Some_ok (ys : List Pl) (n : Int) (hl : ys.length ≤ 1048576) (hr : ∀ y ∈ ys, y.ts.length ≤ 1048576) : CallOK Go.Proofs.Tryz.prog 39 [.one (vPolys ys), .one (i64 n)] (.one (i64 (relN ys n))) := by
  have hF := fnOk 21 [.tmp 4]
  refine callOK hF 60 Go.Proofs.Tryz.func39 rfl rfl rfl (by decide) (by simp) rfl ?_
  intro w0 hw
  have S := @vc_sound w0 _ hF ⟨(.one (i64 (relN ys n))), []⟩ Go.Proofs.Tryz.f39 rfl (by simp)
  have c1 := l05List_ok ys hl hr
  have c2 := l01In_ok n 0 12
  by_cases ha : AllP ys
  · by_cases h1 : IsL ys
    · rw [listS_yes ha h1] at c1
      by_cases h0 : ys = []
      · subst h0
        rw [relN_no ha (fun h => h.1.1 rfl)] at S ⊢
        simp
        refine CallW.ok (by decide) (by simp) c1 (by simp) (S 60 _ _ ?_)
        simp
      · have hne : ¬ ((ys.length : Int) = 0) := fun h => h0 (List.length_eq_zero_iff.1 (by omega))
        by_cases h2 : 0 ≤ n ∧ n ≤ 12
        · rw [decide_eq_true h2] at c2
          rw [relN_yes ha ⟨h0, h1⟩ h2] at S ⊢
          simp
          refine CallW.ok (by decide) (by simp) c1 (by simp) (S 60 _ _ ?_)
          simp [h0]
          refine CallW.ok (by decide) (by simp) c2 (by simp) (S 60 _ _ ?_)
          simp
        · rw [decide_eq_false h2] at c2
          rw [relN_no ha (fun h => h2 h.2)] at S ⊢
          simp
          refine CallW.ok (by decide) (by simp) c1 (by simp) (S 60 _ _ ?_)
          simp [h0]
          refine CallW.ok (by decide) (by simp) c2 (by simp) (S 60 _ _ ?_)
          simp
    · rw [listS_no ha h1] at c1
      rw [relN_no ha (fun h => h1 h.1.2)] at S ⊢
      simp
      refine CallW.ok (by decide) (by simp) c1 (by simp) (S 60 _ _ ?_)
      simp
  · rw [listS_bad ha] at c1
    rw [relN_bad ha] at S ⊢
    simp
    refine CallW.ok (by decide) (by simp) c1 (by simp) (S 60 _ _ ?_)
    simp
end Go.Sm
