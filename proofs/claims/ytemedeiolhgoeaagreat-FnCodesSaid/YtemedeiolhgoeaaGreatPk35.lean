/- Towards the rows of this seat: what the functions do, as contracts over plain data. -/
import Derived.Test.YtemedeiolhgoeaaGreatPk3
namespace Go.Sm

theorem leadN_drop {p : Int} {n w : Nat} {r : List Int} (h : RowOk p n r) (h1 : gt r (leadN r) = 1) (hw : w ≤ leadN r) : leadN (r.drop w) = leadN r - w := by
  refine leadN_of (fun i hi => ?_) ?_
  · rw [gt_drop]; exact gt_before (by omega)
  · rw [gt_drop, show w + (leadN r - w) = leadN r by omega, h1]; decide
theorem kerS_red {p : Int} (hp : Pr p) {w : Nat} {rows : List (List Int)} (hr : ∀ r ∈ rows, RowOk p w r) : Red p rows.length (kerS p w rows) ∧ Srt (kerS p w rows) := by
  have hpp := prPos hp
  generalize hm : rows.length = m
  have hL := longs_row (m := m) hpp.1 (i := 0) hr
  unfold kerS
  rw [hm]
  generalize longs m 0 rows = D at hL
  have bE := both_ok hp D (both_nil p (w + m)) hL
  have rE : Red p (w + m) (echL p D) := bE.1.perm bE.2.1.symm
  have sE : Srt (echL p D) := bE.2.2
  generalize echL p D = E at rE sE
  have hsub : (E.filter fun r => decide (w ≤ leadN r)).Sublist E := List.filter_sublist
  have hF : ∀ r ∈ E.filter fun r => decide (w ≤ leadN r), (RowOk p (w + m) r ∧ gt r (leadN r) = 1) ∧ w ≤ leadN r := fun r h => by
    obtain ⟨h1, h2⟩ := List.mem_filter.1 h
    exact ⟨rE.1 r h1, by simpa using h2⟩
  have hp2 := rE.2.sublist hsub
  have hs2 := sE.sublist hsub
  generalize (E.filter fun r => decide (w ≤ leadN r)) = F at hF hp2 hs2
  refine ⟨⟨fun r h => ?_, ?_⟩, ?_⟩
  · obtain ⟨o, ho, rfl⟩ := List.mem_map.1 h
    obtain ⟨⟨h1, h2⟩, h3⟩ := hF o ho
    refine ⟨drop_row h1, ?_⟩
    rw [leadN_drop h1 h2 h3, gt_drop, show w + (leadN o - w) = leadN o by omega, h2]
  · rw [List.pairwise_map]
    refine hp2.imp_of_mem fun {a b} ha hb hab => ?_
    obtain ⟨⟨a1, a2⟩, a3⟩ := hF a ha
    obtain ⟨⟨b1, b2⟩, b3⟩ := hF b hb
    rw [leadN_drop a1 a2 a3, leadN_drop b1 b2 b3, gt_drop, gt_drop, show w + (leadN a - w) = leadN a by omega, show w + (leadN b - w) = leadN b by omega]
    exact hab
  · rw [Srt, List.pairwise_map]
    refine hs2.imp_of_mem fun {a b} ha hb hab => ?_
    obtain ⟨⟨a1, a2⟩, a3⟩ := hF a ha
    obtain ⟨⟨b1, b2⟩, b3⟩ := hF b hb
    rw [leadN_drop a1 a2 a3, leadN_drop b1 b2 b3]
    omega
/-- The program's relations of rows are the reference's. -/
theorem ker_eq {p : Int} (hp : Pr p) {w : Nat} {rows : List (List Int)} (hr : ∀ r ∈ rows, RowOk p w r) : echL p (kerI p w rows) = kerS p w rows := by
  obtain ⟨h1, _, _⟩ := ker_same hp hr
  obtain ⟨h2, h3⟩ := kerS_red hp hr
  rw [h1, ech_id hp h2 h3]
end Go.Sm
