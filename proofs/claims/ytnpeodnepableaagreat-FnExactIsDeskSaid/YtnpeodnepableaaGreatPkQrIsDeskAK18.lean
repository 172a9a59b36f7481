/- Towards the rows of this seat: what the functions do, as contracts over plain data. -/
import Derived.Test.YtnpeodnepableaaGreatPkQrIsDeskAK16
import Derived.Test.YtnpeodnepableaaGreatPkQrIsDeskAK17
import Derived.Test.YtnpeodnepableaaGreatPkQrIsDeskAK10
import Derived.Test.YtnpeodnepableaaGreatPkQrIsDeskAK11
namespace Go.Sm
open Go.RowKit

abbrev vDesk (p d : Int) (G : List Mx) (q e : Int) (ts : List Tm) (r l : Int) (rows : List (List Int)) : RV := .agg [i64 p, i64 d, vMats G, i64 q, i64 e, vTerms ts, i64 r, i64 l, vIntss rows]
abbrev oDesk (p d : Int) (G : List Mx) (q e : Int) (ts : List Tm) (r l : Int) (rows : List (List Int)) : RV := .agg [i64 p, i64 d, oMats G, i64 q, i64 e, oTerms ts, i64 r, i64 l, oIntss rows]
def GoodD (p d : Int) (G : List Mx) (q e : Int) (ts : List Tm) (r l : Int) (rows : List (List Int)) : Prop := IsG p d G ∧ GoodP q e ts ∧ q = p ∧ e = d ∧ GoodC r l rows
noncomputable instance (p d : Int) (G : List Mx) (q e : Int) (ts : List Tm) (r l : Int) (rows : List (List Int)) : Decidable (GoodD p d G q e ts r l rows) := Classical.propDecidable _

theorem forGroup_ok (p d q e : Int) (G : List Mx) (ts : List Tm) : CallOK Go.Proofs.Tryz.prog 33 [vGroup p d G, pv q e ts] (.one (bo (decide (q = p ∧ e = d)))) := by
  have hF := fnOk 17 [.tmp 4]
  refine callOK hF 60 Go.Proofs.Tryz.func33 rfl rfl rfl (by decide) (by simp) rfl ?_
  intro w0 hw
  have S := @vc_sound w0 _ hF ⟨(.one (bo (decide (q = p ∧ e = d)))), []⟩ Go.Proofs.Tryz.f33 rfl (by simp)
  by_cases h : q = p
  · by_cases h2 : e = d
    · simp [h, h2]
    · simp [h, h2]
  · simp [h]

set_option maxHeartbeats 1000000 in
theorem IsDesk_ok (p d : Int) (G : List Mx) (q e : Int) (ts : List Tm) (r l : Int) (rows : List (List Int)) (hG : G.length ≤ 1048576) (ht : ts.length ≤ 1048576) (hl : rows.length ≤ 1048576) (hr : ∀ r ∈ rows, r.length ≤ 1048576) : CallOK Go.Proofs.Tryz.prog 10 [vDesk p d G q e ts r l rows] (.one (bo (decide (GoodD p d G q e ts r l rows)))) := by
  have hF := fnOk 23 [.tmp 2]
  refine callOK hF 60 Go.Proofs.Tryz.func10 rfl rfl rfl (by decide) (by simp) rfl ?_
  intro w0 hw
  have S := @vc_sound w0 _ hF ⟨(.one (bo (decide (GoodD p d G q e ts r l rows)))), []⟩ Go.Proofs.Tryz.f10 rfl (by simp)
  have c1 := IsGroup_ok p d G hG
  have c2 := IsPoly_ok q e ts ht
  have c3 := forGroup_ok p d q e G ts
  have c4 := IsCode_ok r l rows hl hr
  by_cases h1 : IsG p d G
  case neg =>
    have e0 : decide (GoodD p d G q e ts r l rows) = false := decide_eq_false fun h => h1 h.1
    rw [e0] at S ⊢
    rw [decide_eq_false h1] at c1
    simp
    refine CallW.ok (by decide) (by simp) c1 (by simp) (S 60 _ _ ?_)
    simp
  rw [decide_eq_true h1] at c1
  by_cases h2 : GoodP q e ts
  case neg =>
    have e0 : decide (GoodD p d G q e ts r l rows) = false := decide_eq_false fun h => h2 h.2.1
    rw [e0] at S ⊢
    rw [decide_eq_false h2] at c2
    simp
    refine CallW.ok (by decide) (by simp) c1 (by simp) (S 60 _ _ ?_)
    simp
    refine CallW.ok (by decide) (by simp) c2 (by simp) (S 60 _ _ ?_)
    simp
  rw [decide_eq_true h2] at c2
  by_cases h3 : q = p ∧ e = d
  case neg =>
    have e0 : decide (GoodD p d G q e ts r l rows) = false := decide_eq_false fun h => h3 ⟨h.2.2.1, h.2.2.2.1⟩
    rw [e0] at S ⊢
    rw [decide_eq_false h3] at c3
    simp
    refine CallW.ok (by decide) (by simp) c1 (by simp) (S 60 _ _ ?_)
    simp
    refine CallW.ok (by decide) (by simp) c2 (by simp) (S 60 _ _ ?_)
    simp
    refine CallW.ok (by decide) (by simp) c3 (by simp) (S 60 _ _ ?_)
    simp
  rw [decide_eq_true h3] at c3
  have e0 : decide (GoodD p d G q e ts r l rows) = decide (GoodC r l rows) := decide_eq_decide.2 ⟨fun h => h.2.2.2.2, fun h => ⟨h1, h2, h3.1, h3.2, h⟩⟩
  rw [e0] at S ⊢
  generalize decide (GoodC r l rows) = b at c4 S ⊢
  simp
  refine CallW.ok (by decide) (by simp) c1 (by simp) (S 60 _ _ ?_)
  simp
  refine CallW.ok (by decide) (by simp) c2 (by simp) (S 60 _ _ ?_)
  simp
  refine CallW.ok (by decide) (by simp) c3 (by simp) (S 60 _ _ ?_)
  simp
  refine CallW.ok (by decide) (by simp) c4 (by simp) (S 60 _ _ ?_)
  simp

set_option maxRecDepth 20000 in
set_option maxHeartbeats 1000000 in
theorem specIsDesk_ok (p d : Int) (G : List Mx) (q e : Int) (ts : List Tm) (r l : Int) (rows : List (List Int)) (hG : G.length ≤ 1048576) (ht : ts.length ≤ 1048576) (hl : rows.length ≤ 1048576) (hr : ∀ r ∈ rows, r.length ≤ 1048576) : CallOK Go.Proofs.Tryz.prog 8 [vDesk p d G q e ts r l rows] (.one (bo (decide (GoodD p d G q e ts r l rows)))) := by
  have hF := fnOk 34 [.tmp 2]
  refine callOK hF 60 Go.Proofs.Tryz.func8 rfl rfl rfl (by decide) (by simp) rfl ?_
  intro w0 hw
  have S := @vc_sound w0 _ hF ⟨(.one (bo (decide (GoodD p d G q e ts r l rows)))), []⟩ Go.Proofs.Tryz.f8 rfl (by simp)
  have c1 := l02Is_ok p d G hG
  have c2 := l01Is_ok q e ts ht
  have c4 := l10Is_ok r l rows hl hr
  by_cases h1 : IsG p d G
  case neg =>
    have e0 : decide (GoodD p d G q e ts r l rows) = false := decide_eq_false fun h => h1 h.1
    rw [e0] at S ⊢
    rw [decide_eq_false h1] at c1
    simp
    refine CallW.ok (by decide) (by simp) c1 (by simp) (S 60 _ _ ?_)
    simp
  rw [decide_eq_true h1] at c1
  by_cases h2 : GoodP q e ts
  case neg =>
    have e0 : decide (GoodD p d G q e ts r l rows) = false := decide_eq_false fun h => h2 h.2.1
    rw [e0] at S ⊢
    rw [decide_eq_false h2] at c2
    simp
    refine CallW.ok (by decide) (by simp) c1 (by simp) (S 60 _ _ ?_)
    simp
    refine CallW.ok (by decide) (by simp) c2 (by simp) (S 60 _ _ ?_)
    simp
  rw [decide_eq_true h2] at c2
  by_cases h3 : q = p
  case neg =>
    have e0 : decide (GoodD p d G q e ts r l rows) = false := decide_eq_false fun h => h3 h.2.2.1
    rw [e0] at S ⊢
    simp
    refine CallW.ok (by decide) (by simp) c1 (by simp) (S 60 _ _ ?_)
    simp
    refine CallW.ok (by decide) (by simp) c2 (by simp) (S 60 _ _ ?_)
    simp [h3]
  by_cases h4 : e = d
  case neg =>
    have e0 : decide (GoodD p d G q e ts r l rows) = false := decide_eq_false fun h => h4 h.2.2.2.1
    rw [e0] at S ⊢
    simp
    refine CallW.ok (by decide) (by simp) c1 (by simp) (S 60 _ _ ?_)
    simp
    refine CallW.ok (by decide) (by simp) c2 (by simp) (S 60 _ _ ?_)
    simp [h3, h4]
  have e0 : decide (GoodD p d G q e ts r l rows) = decide (GoodC r l rows) := decide_eq_decide.2 ⟨fun h => h.2.2.2.2, fun h => ⟨h1, h2, h3, h4, h⟩⟩
  rw [e0] at S ⊢
  generalize decide (GoodC r l rows) = b at c4 S ⊢
  simp
  refine CallW.ok (by decide) (by simp) c1 (by simp) (S 60 _ _ ?_)
  simp
  refine CallW.ok (by decide) (by simp) c2 (by simp) (S 60 _ _ ?_)
  simp [h3, h4]
  refine CallW.ok (by decide) (by simp) c4 (by simp) (S 60 _ _ ?_)
  simp

theorem toDesk_ok (p d : Int) (G : List Mx) (q e : Int) (ts : List Tm) (r l : Int) (rows : List (List Int)) (hG : G.length ≤ 1048576) (ht : ts.length ≤ 1048576) (hl : rows.length ≤ 1048576) (hr : ∀ r ∈ rows, r.length ≤ 1048576) : CallOK Go.Proofs.Tryz.prog 9 [vDesk p d G q e ts r l rows] (oDesk p d G q e ts r l rows) := by
  have hF := fnOk 17 [.cell 2 43]
  refine callOK hF 60 Go.Proofs.Tryz.func9 rfl rfl rfl (by decide) (by simp) rfl ?_
  intro w0 hw
  have S := @vc_sound w0 _ hF ⟨(oDesk p d G q e ts r l rows), []⟩ Go.Proofs.Tryz.f9 rfl (by simp)
  have c1 := toGroup_ok p d G hG
  have c2 := toPoly_ok q e ts ht
  have c3 := toCode_ok r l rows hl hr
  simp
  refine CallW.ok (by decide) (by simp) c1 (by simp) (S 60 _ _ ?_)
  simp
  refine CallW.ok (by decide) (by simp) c2 (by simp) (S 60 _ _ ?_)
  simp
  refine CallW.ok (by decide) (by simp) c3 (by simp) (S 60 _ _ ?_)
  simp

/-- What is left. -/
def szD (n : Int) (G : List Mx) (ts : List Tm) (rows : List (List Int)) : Int :=
  if n - G.length < 0 then -1 else if n - G.length - ts.length < 0 then -1 else szL (n - G.length - ts.length) rows
theorem szDesk_ok (p d : Int) (G : List Mx) (q e : Int) (ts : List Tm) (r l : Int) (rows : List (List Int)) (n : Int) (hn : 0 ≤ n) (hn2 : n ≤ 1000000000) (hG : G.length ≤ maxLen) (ht : ts.length ≤ maxLen) (hl : rows.length ≤ maxLen) (hr : ∀ r ∈ rows, r.length ≤ maxLen) : CallOK Go.Proofs.Tryz.prog 7 [vDesk p d G q e ts r l rows, .one (i64 n)] (.one (i64 (szD n G ts rows))) := by
  have hF := fnOk 24 [.tmp 4]
  refine callOK hF 60 Go.Proofs.Tryz.func7 rfl rfl rfl (by decide) (by simp) rfl ?_
  intro w0 hw
  have S := @vc_sound w0 _ hF ⟨(.one (i64 (szD n G ts rows))), []⟩ Go.Proofs.Tryz.f7 rfl (by simp)
  have c1 := szGroup_ok p d G n hn (by omega) hG
  unfold szD at S ⊢
  by_cases h1 : n - G.length < 0
  case pos =>
    rw [if_pos h1] at c1 S ⊢
    simp
    refine CallW.ok (by decide) (by simp) c1 (by simp) (S 60 _ _ ?_)
    simp
  rw [if_neg h1] at c1 S ⊢
  have c2 := szPoly_ok q e ts (n - G.length) (by omega) (by omega) ht
  by_cases h2 : n - G.length - ts.length < 0
  case pos =>
    rw [if_pos h2] at c2 S ⊢
    simp
    refine CallW.ok (by decide) (by simp) c1 (by simp) (S 60 _ _ ?_)
    simp [h1]
    refine CallW.ok (by decide) (by simp) c2 (by simp) (S 60 _ _ ?_)
    simp
  rw [if_neg h2] at c2 S ⊢
  have c3 := szCode_ok r l rows (n - G.length - ts.length) (by omega) (by omega) hl hr
  simp
  refine CallW.ok (by decide) (by simp) c1 (by simp) (S 60 _ _ ?_)
  simp [h1]
  refine CallW.ok (by decide) (by simp) c2 (by simp) (S 60 _ _ ?_)
  simp [h2]
  by_cases h3 : szL (n - G.length - ts.length) rows < 0
  · have e3 : szL (n - G.length - ts.length) rows = -1 := by
      unfold szL at h3 ⊢
      split
      · rfl
      · rename_i h; rw [if_neg h] at h3; exact absurd h3 h
    rw [e3] at c3 S ⊢
    refine CallW.ok (by decide) (by simp) c3 (by simp) (S 60 _ _ ?_)
    simp
  · refine CallW.ok (by decide) (by simp) c3 (by simp) (S 60 _ _ ?_)
    simp [h3]

theorem eqDesk_ok (p d : Int) (G : List Mx) (q e : Int) (ts : List Tm) (r l : Int) (rows : List (List Int)) (hG : G.length ≤ 1048576) (ht : ts.length ≤ 1048576) (hl : rows.length ≤ 1048576) (hr : ∀ r ∈ rows, r.length ≤ 1048576) : CallOK Go.Proofs.Tryz.prog 11 [vDesk p d G q e ts r l rows, vDesk p d G q e ts r l rows] (.one (bo true)) := by
  have hF := fnOk 23 [.tmp 4]
  refine callOK hF 60 Go.Proofs.Tryz.func11 rfl rfl rfl (by decide) (by simp) rfl ?_
  intro w0 hw
  have S := @vc_sound w0 _ hF ⟨(.one (bo true)), []⟩ Go.Proofs.Tryz.f11 rfl (by simp)
  have c1 := eqGroup_ok p d p d G G (by omega)
  have c2 := eqPoly_ok q e q e ts ts (by omega)
  have c3 := eqCode_ok r l r l rows rows (by omega) (fun x hx => by have := hr x hx; omega)
  rw [decide_eq_true ⟨rfl, rfl, rfl⟩] at c1 c2 c3
  simp
  refine CallW.ok (by decide) (by simp) c1 (by simp) (S 60 _ _ ?_)
  simp
  refine CallW.ok (by decide) (by simp) c2 (by simp) (S 60 _ _ ?_)
  simp
  refine CallW.ok (by decide) (by simp) c3 (by simp) (S 60 _ _ ?_)
  simp

set_option maxHeartbeats 1000000 in
set_option maxRecDepth 8000 in
theorem FnExactIsDesk_ok (p d : Int) (G : List Mx) (q e : Int) (ts : List Tm) (r l : Int) (rows : List (List Int)) (hG : G.length ≤ maxLen) (ht : ts.length ≤ maxLen) (hb : rows.length ≤ maxLen ∧ ∀ r ∈ rows, r.length ≤ maxLen) : CallOK Go.Proofs.Tryz.prog 3 [vDesk p d G q e ts r l rows] (.one (bo true)) := by
  have hF := fnOk 27 [.tmp 2]
  refine callOK hF 60 Go.Proofs.Tryz.func3 rfl rfl rfl (by decide) (by simp) rfl ?_
  intro w0 hw
  have S := @vc_sound w0 _ hF ⟨(.one (bo true)), []⟩ Go.Proofs.Tryz.f3 rfl (by simp)
  have hm : maxLen = 9223372036854775807 := rfl
  have c0 := szDesk_ok p d G q e ts r l rows 1048576 (by omega) (by omega) hG ht hb.1 hb.2
  by_cases hs : szD 1048576 G ts rows < 0
  case pos =>
    generalize szD 1048576 G ts rows = z at c0 hs
    simp
    refine CallW.ok (by decide) (by simp) c0 (by simp) (S 60 _ _ ?_)
    simp [hs]
  have hz : G.length ≤ 1048576 ∧ ts.length ≤ 1048576 ∧ rows.length ≤ 1048576 ∧ ∀ r ∈ rows, r.length ≤ 1048576 := by
    unfold szD at hs
    split at hs
    · omega
    · split at hs
      · omega
      · unfold szL at hs
        split at hs
        · omega
        · refine ⟨by omega, by omega, by omega, fun r hr => by have := len_total hr; omega⟩
  obtain ⟨h1, h2, h3, h4⟩ := hz
  have c1 := toDesk_ok p d G q e ts r l rows h1 h2 h3 h4
  have c2 := specIsDesk_ok p d G q e ts r l rows h1 h2 h3 h4
  have c3 := IsDesk_ok p d G q e ts r l rows h1 h2 h3 h4
  have c4 := eqDesk_ok p d G q e ts r l rows h1 h2 h3 h4
  generalize decide (GoodD p d G q e ts r l rows) = b at c2 c3
  generalize szD 1048576 G ts rows = z at c0 hs
  simp
  refine CallW.ok (by decide) (by simp) c0 (by simp) (S 60 _ _ ?_)
  simp [hs]
  refine CallW.ok (by decide) (by simp) c1 (by simp) (S 60 _ _ ?_)
  simp
  refine CallW.ok (by decide) (by simp) c2 (by simp) (S 60 _ _ ?_)
  simp
  refine CallW.ok (by decide) (by simp) c1 (by simp) (S 60 _ _ ?_)
  simp
  refine CallW.ok (by decide) (by simp) c3 (by simp) (S 60 _ _ ?_)
  simp
  refine J.dr hF mixed 3 [[], [], [1], [0, 1, 2], [0, 1, 2, 3]] [[22, 23, 24], [22, 23, 24], [22, 24]] (by decide) ?_
  simp
  refine DrC.ok hF (by rfl) (by simp) c1 (by simp) (by simp) ?_
  simp
  refine S 60 _ _ ?_
  simp
  refine CallW.ok (by decide) (by simp) c4 (by simp) (S 60 _ _ ?_)
  simp

end Go.Sm
