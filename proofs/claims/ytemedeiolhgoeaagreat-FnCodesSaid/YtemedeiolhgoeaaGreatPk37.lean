/- Towards the rows of this seat: what the functions do, as contracts over plain data. -/
import Derived.Test.YtemedeiolhgoeaaGreatPk35
namespace Go.Sm

/-- A space's first w places. -/
theorem sp_take {p : Int} {w m : Nat} {S T : List Int → Prop} (hST : ∀ r, S r → Sp p w T (gt r)) {f : Nat → Int} (h : Sp p (w + m) S f) : Sp p w T f := by
  induction h with
  | zero h => exact .zero fun k hk => h k (by omega)
  | @add r f g c hr _ he ih => exact (ih.sum ((hST r hr).mul c)).al fun k hk => he k (by omega)
theorem gt_take {w k : Nat} {r : List Int} (hk : k < w) : gt (r.take w) k = gt r k := by
  unfold gt
  rw [List.getD_eq_getElem?_getD, List.getD_eq_getElem?_getD, List.getElem?_take, if_pos hk]
theorem take_row {p : Int} {w m : Nat} {r : List Int} (h : RowOk p (w + m) r) : RowOk p w (r.take w) := ⟨by rw [List.length_take, h.1]; omega, fun x hx => h.2 x (List.take_subset _ _ hx)⟩
theorem leadN_take {w : Nat} {r : List Int} (h1 : gt r (leadN r) = 1) (hw : leadN r < w) : leadN (r.take w) = leadN r :=
  leadN_of (fun i hi => by rw [gt_take (by omega)]; exact gt_before hi) (by rw [gt_take hw, h1]; decide)
theorem gt_long_low {w m i k : Nat} {r : List Int} (hr : r.length = w) (hk : k < w) : gt (longR m i r) k = gt r k := by
  unfold longR
  rw [gt_append, if_pos (by omega)]
theorem longs_mem {m : Nat} : ∀ {rows : List (List Int)} {i : Nat}, (∀ x ∈ longs m i rows, ∃ r ∈ rows, ∃ j, x = longR m j r) ∧ ∀ r ∈ rows, ∃ j, longR m j r ∈ longs m i rows
  | [], _ => ⟨fun _ h => (nomatch h), fun _ h => (nomatch h)⟩
  | r :: rows, i => by
    obtain ⟨h1, h2⟩ := longs_mem (m := m) (rows := rows) (i := i + 1)
    refine ⟨fun x hx => ?_, fun q hq => ?_⟩
    · rcases List.mem_cons.1 hx with rfl | hx
      · exact ⟨r, List.mem_cons_self .., i, rfl⟩
      · obtain ⟨q, hq, j, rfl⟩ := h1 x hx
        exact ⟨q, List.mem_cons_of_mem _ hq, j, rfl⟩
    · rcases List.mem_cons.1 hq with rfl | hq
      · exact ⟨i, List.mem_cons_self ..⟩
      · obtain ⟨j, hj⟩ := h2 q hq
        exact ⟨j, List.mem_cons_of_mem _ hj⟩

/-- The rows' reduced list stands in that of the rows with units beside. -/
theorem lead_low {p : Int} (hp : Pr p) {w : Nat} {rows : List (List Int)} (hr : ∀ r ∈ rows, RowOk p w r) :
    ((echL p (longs rows.length 0 rows)).filter fun r => decide (leadN r < w)).map (List.take w) = echL p rows := by
  have hpp := prPos hp
  generalize hm : rows.length = m
  have hL := longs_row (m := m) hpp.1 (i := 0) hr
  obtain ⟨l1, l2⟩ := longs_mem (m := m) (rows := rows) (i := 0)
  generalize longs m 0 rows = D at hL l1 l2
  obtain ⟨e1, e2⟩ := ech_sp hp hL
  have bE := both_ok hp D (both_nil p (w + m)) hL
  have rE : Red p (w + m) (echL p D) := bE.1.perm bE.2.1.symm
  have sE : Srt (echL p D) := bE.2.2
  generalize echL p D = E at rE sE e1 e2
  have hsub : (E.filter fun r => decide (leadN r < w)).Sublist E := List.filter_sublist
  have hF : ∀ r, r ∈ (E.filter fun r => decide (leadN r < w)) ↔ r ∈ E ∧ leadN r < w := fun r => by rw [List.mem_filter]; simp
  have hp2 := rE.2.sublist hsub
  have hs2 := sE.sublist hsub
  generalize (E.filter fun r => decide (leadN r < w)) = F at hF hp2 hs2
  have hRed : Red p w (F.map (List.take w)) := by
    refine ⟨fun r h => ?_, ?_⟩
    · obtain ⟨o, ho, rfl⟩ := List.mem_map.1 h
      obtain ⟨h1, h3⟩ := (hF o).1 ho
      obtain ⟨h1, h2⟩ := rE.1 o h1
      refine ⟨take_row h1, ?_⟩
      rw [leadN_take h2 h3, gt_take h3, h2]
    · rw [List.pairwise_map]
      refine hp2.imp_of_mem fun {a b} ha hb hab => ?_
      obtain ⟨a1, a3⟩ := (hF a).1 ha
      obtain ⟨b1, b3⟩ := (hF b).1 hb
      rw [leadN_take (rE.1 a a1).2 a3, leadN_take (rE.1 b b1).2 b3, gt_take a3, gt_take b3]
      exact hab
  have hSrt : Srt (F.map (List.take w)) := by
    rw [Srt, List.pairwise_map]
    refine hs2.imp_of_mem fun {a b} ha hb hab => ?_
    obtain ⟨a1, a3⟩ := (hF a).1 ha
    obtain ⟨b1, b3⟩ := (hF b).1 hb
    rw [leadN_take (rE.1 a a1).2 a3, leadN_take (rE.1 b b1).2 b3]
    exact hab
  rw [← ech_id hp hRed hSrt]
  refine ech_unique hp (fun r h => (hRed.1 r h).1) hr (fun r h => ?_) (fun r h => ?_)
  · obtain ⟨o, ho, rfl⟩ := List.mem_map.1 h
    have h1 := e2 o ((hF o).1 ho).1
    have h2 : Sp p w (· ∈ rows) (gt o) := sp_take (fun x hx => by
      obtain ⟨q, hq, j, rfl⟩ := l1 x hx
      exact (Sp.one (S := (· ∈ rows)) hq).al fun k hk => by rw [gt_long_low (hr q hq).1 hk, Int.sub_self]; exact Int.dvd_zero p) h1
    exact h2.al fun k hk => by rw [gt_take hk, Int.sub_self]; exact Int.dvd_zero p
  · obtain ⟨j, hj⟩ := l2 r h
    have h1 := e1 _ hj
    have h2 : Sp p w (· ∈ F.map (List.take w)) (gt (longR m j r)) := sp_take (fun x hx => by
      by_cases hw : leadN x < w
      · exact (Sp.one (S := (· ∈ F.map (List.take w))) (List.mem_map.2 ⟨x, (hF x).2 ⟨hx, hw⟩, rfl⟩)).al fun k hk => by rw [gt_take hk, Int.sub_self]; exact Int.dvd_zero p
      · exact .zero fun k hk => by rw [gt_before (by omega)]; simp) h1
    exact h2.al fun k hk => by rw [gt_long_low (hr r h).1 hk, Int.sub_self]; exact Int.dvd_zero p

/-- Rows with units beside are free. -/
theorem free_len {p : Int} (hp : Pr p) {w m : Nat} : ∀ (rows : List (List Int)) {i : Nat} {L : List (List Int)}, Red p (w + m) L → (∀ r ∈ L, ∀ k, w + i ≤ k → gt r k = 0) → (∀ r ∈ rows, RowOk p w r) → i + rows.length ≤ m →
    ((longs m i rows).foldl (takeL p) L).length = L.length + rows.length
  | [], _, _, _, _, _, _ => by simp [longs]
  | r :: rows, i, L, hR, hf, hr, hi => by
    have hpp := prPos hp
    have hp0 : 0 < p := by omega
    simp only [List.length_cons] at hi
    have hr0 := hr r (List.mem_cons_self ..)
    have hx := longR_row (p := p) (m := m) (i := i) hpp.1 hr0
    obtain ⟨g1, g2⟩ := gt_long (m := m) hr0.1 (i := i) (by omega)
    obtain ⟨l1, l2⟩ := less_ok hp0 hR hx
    have hs : ∀ k, w + i ≤ k → sumL L (longR m i r) k = 0 := fun k hk => sum_zero fun q hq => by rw [hf q hq k hk]; simp
    have e1 : gt (lessL p L (longR m i r)) (w + i) = 1 := by
      rw [l2 _ (by omega), g1, hs _ (Nat.le_refl _)]; exact Int.emod_eq_of_lt (by omega) (by omega)
    have e3 : ∀ k, w + i < k → gt (lessL p L (longR m i r)) k = 0 := fun k hk => by
      by_cases hkm : k < w + m
      · rw [l2 k hkm, g2 k hk, hs k (by omega)]; simp
      · exact gt_ge (by rw [l1.1]; omega)
    have w4 : Led (lessL p L (longR m i r)) := led_iff.2 ⟨_, by rw [e1]; omega⟩
    obtain ⟨u1, u2⟩ := take_red hp hR hx w4
    obtain ⟨v1, v2, v3, v4⟩ := nrm_ok hp l1 w4
    have hT : takeL p L (longR m i r) = L.map (fun q => subR p q (nrm p (lessL p L (longR m i r))) (gt q (leadN (lessL p L (longR m i r))))) ++ [nrm p (lessL p L (longR m i r))] := if_pos w4
    have h1 := free_len hp rows (i := i + 1) (L := takeL p L (longR m i r)) (by rw [hT]; exact u2) (fun q hq k hk => by
      have hwz : gt (nrm p (lessL p L (longR m i r))) k = 0 := by rw [v4, e3 k (by omega)]; simp
      rw [hT] at hq
      rcases List.mem_append.1 hq with hq | hq
      · obtain ⟨y, hy, rfl⟩ := List.mem_map.1 hq
        obtain ⟨s1, s2⟩ := subR_ok hp0 (hR.1 y hy).1.1 v1.1 (gt y (leadN (lessL p L (longR m i r))))
        by_cases hkm : k < w + m
        · rw [s2 k hkm, hf y hy k (by omega), hwz]; simp
        · exact gt_ge (by rw [s1.1]; omega)
      · simp only [List.mem_singleton] at hq; subst hq
        exact hwz) (fun q hq => hr q (List.mem_cons_of_mem _ hq)) (by omega)
    show ((longs m (i + 1) rows).foldl (takeL p) (takeL p L (longR m i r))).length = _
    rw [h1, hT]
    simp only [List.length_append, List.length_map, List.length_cons, List.length_nil]
    omega

theorem filter_two {α : Type} (f g : α → Bool) (h : ∀ x, g x = !f x) : ∀ l : List α, (l.filter f).length + (l.filter g).length = l.length
  | [] => rfl
  | x :: l => by
    have := filter_two f g h l
    rw [List.filter_cons, List.filter_cons, h x]
    cases f x <;> simp <;> omega
theorem ech_red_len {p : Int} {n : Nat} (hp : Pr p) {rows : List (List Int)} (h : ∀ r ∈ rows, RowOk p n r) : (echL p rows).length = (redL p rows).length := (both_ok hp rows (both_nil p n) h).2.1.length_eq
/-- Relations and rank. -/
theorem rank_null {p : Int} (hp : Pr p) {w : Nat} {rows : List (List Int)} (hr : ∀ r ∈ rows, RowOk p w r) : (kerS p w rows).length + (echL p rows).length = rows.length := by
  have hpp := prPos hp
  have h1 := lead_low hp hr
  have hL := longs_row (m := rows.length) hpp.1 (i := 0) hr
  have h2 := ech_red_len hp hL
  have h3 := free_len hp (w := w) (m := rows.length) rows (i := 0) (L := []) ⟨fun _ h => (nomatch h), List.Pairwise.nil⟩ (fun _ h => (nomatch h)) hr (by omega)
  have h4 := filter_two (fun r : List Int => decide (w ≤ leadN r)) (fun r => decide (leadN r < w)) (fun x => by by_cases h : w ≤ leadN x <;> simp [h] <;> omega) (echL p (longs rows.length 0 rows))
  unfold kerS
  rw [← h1, List.length_map, List.length_map, h4, h2]
  simpa [redL] using h3
end Go.Sm
