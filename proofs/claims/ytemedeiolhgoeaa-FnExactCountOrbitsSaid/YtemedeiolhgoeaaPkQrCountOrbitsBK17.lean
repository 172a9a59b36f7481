/- Towards the rows of this seat: what the functions do, as contracts over plain data. -/
import Derived.Test.YtemedeiolhgoeaaPkQrCountOrbitsBK11
namespace Go.Sm
open Go.RowKit

variable {P : Program} {N : Nat} {w0 : Base} {s : St} {a : Act} {w : World} {β : Nat → Value}

theorem Rel.appendRK (R : Rel N w0 s a w β) {m : Sem Value} {e : Nat} {te : TI} {k1 k2 k3 e3 : Nat} {xs ys ys3 zs : List (List D)} {news : List Value} {F3 : List Nat}
    (h1 : lk s.ob k1 = some (.arr e te.size xs)) (h2 : lk s.ob k2 = none)
    (hv : EsV (Rd w w0.arg (s.en w w0.arg β).M) te.size ys news)
    (h3 : lk s.ob k3 = some (.arr e3 1 ys3)) (hne3 : k3 ≠ k1)
    (hz : ∀ (w' : World) (M' : Nat → Prop), Keeps w w' (s.en w w0.arg β).M M' → (∀ g, blk (β k3) = some g → w'.heap[g]? = w.heap[g]?) → OwnRel w' w0.arg M' e3 1 zs (β k3) ∧ fp w' (.own e3 1 zs) (β k3) = F3)
    (hF : (F3 ++ fpVs w te.size ys news).Nodup) (hsub : ∀ b ∈ F3 ++ fpVs w te.size ys news, b ∈ obFp (s.en w w0.arg β) k3)
    (hrunC : ∀ vals : List Value, vals.length = xs.length * te.size →
      ((β k1 = nilV ∧ xs.length = 0) ∨ ∃ g cap cur, β k1 = .slice (some ⟨g, 0, none⟩) xs.length cap ∧ xs.length ≤ cap ∧ w.heap[g]? = some (.cells cur e (0, 0)) ∧ cap ≤ maxLen ∧ cur.size = cap * te.size ∧
        cur.toList.take (xs.length * te.size) = vals) →
      ∃ v' w', m.run P w = .ok v' w' ∧
      ((v' = nilV ∧ β k1 = nilV ∧ xs.length + ys.length = 0 ∧ w' = w) ∨
       (∃ g cap cur, β k1 = .slice (some ⟨g, 0, none⟩) xs.length cap ∧ v' = .slice (some ⟨g, 0, none⟩) (xs.length + ys.length) cap ∧ w.heap[g]? = some (.cells cur e (0, 0)) ∧ xs.length + ys.length ≤ cap ∧ cap ≤ maxLen ∧
          ∃ cur', cur'.size = cap * te.size ∧ cur'.toList.take ((xs.length + ys.length) * te.size) = vals ++ news ∧ w' = w.setRow g cur') ∨
       (∃ cap cur', v' = .slice (some ⟨w.heap.size, 0, none⟩) (xs.length + ys.length) cap ∧ xs.length + ys.length ≤ cap ∧ cap ≤ maxLen ∧ cur'.size = cap * te.size ∧ cur'.toList.take ((xs.length + ys.length) * te.size) = vals ++ news ∧
          w' = w.drew.alloc (.cells cur' e)))) :
    ∃ v' w', m.run P w = .ok v' w' ∧ v'.oneCell' = true ∧
      Rel N w0 ⟨s.tm, (k2, .arr e te.size (xs ++ ys)) :: (k1, .dead) :: (k3, .arr e3 1 zs) :: s.ob⟩ a w' (upd β k2 v') := by
  have hr1 : OwnRel w w0.arg (s.en w w0.arg β).M e te.size xs (β k1) := R.ob k1 _ h1
  have hlt1 : ∀ b ∈ obFp (s.en w w0.arg β) k1, b < w.heap.size := obFp_lt (en := s.en w w0.arg β) fun o ho => R.ob k1 o ho
  -- the old array, by values
  obtain ⟨vals, hEv, hown, hfp1⟩ : ∃ vals, EsV (Rd w w0.arg (s.en w w0.arg β).M) te.size xs vals ∧
      ((β k1 = nilV ∧ xs.length = 0) ∨ ∃ g cap cur, β k1 = .slice (some ⟨g, 0, none⟩) xs.length cap ∧ xs.length ≤ cap ∧ w.heap[g]? = some (.cells cur e (0, 0)) ∧ cap ≤ maxLen ∧ cur.size = cap * te.size ∧
        cur.toList.take (xs.length * te.size) = vals) ∧
      List.Sublist (fpVs w te.size xs vals) (obFp (s.en w w0.arg β) k1) := by
    rcases OwnRel.vals hr1 with ⟨rfl, h⟩ | ⟨g, cap, cur, vs, q1, q2, q3, q4, q5, q6, q7⟩
    · exact ⟨[], rfl, .inl ⟨h, rfl⟩, by simp [fpVs]⟩
    · refine ⟨vs, q6, .inr ⟨g, cap, cur, q1, q2, q3, q4, q5, q7⟩, ?_⟩
      have := OwnRel.fp_vals (B := w0.arg) (M := (s.en w w0.arg β).M) q2 q3 q4 q5 q6 q7
      rw [obFp_arr (en := s.en w w0.arg β) h1]
      show List.Sublist _ (fp w (.own e te.size xs) (β k1))
      have q1' : β k1 = .slice (some ⟨g, 0, none⟩) xs.length cap := q1
      rw [q1', this]
      exact List.sublist_cons_self _ _
  obtain ⟨v', w', hrun, hcase⟩ := hrunC vals hEv.length hown
  have hk12 : k1 ≠ k2 := fun h => by subst h; simp [h1] at h2
  refine ⟨v', w', hrun, by rcases hcase with ⟨rfl, _⟩ | ⟨g, cap, cur, _, rfl, _⟩ | ⟨cap, cur', rfl, _⟩ <;> rfl, ?_⟩
  have hlk : ∀ k, lk ((k2, Ob.arr e te.size (xs ++ ys)) :: (k1, .dead) :: (k3, .arr e3 1 zs) :: s.ob) k = if k2 = k then some (.arr e te.size (xs ++ ys)) else if k1 = k then some .dead else if k3 = k then some (.arr e3 1 zs) else lk s.ob k := by
    intro k
    rw [lk_cons, lk_cons, lk_cons]
  have hk32 : k3 ≠ k2 := fun h => by subst h; simp [h3] at h2
  -- what the step keeps
  have hblk : ∀ b, blk v' = some b → (s.en w w0.arg β).M b ∨ w.heap.size ≤ b := by
    intro b hb
    rcases hcase with ⟨rfl, _⟩ | ⟨g, cap, cur, hg, rfl, _⟩ | ⟨cap, cur', rfl, _⟩
    · simp [blk] at hb
    · simp [blk] at hb; subst hb; exact .inl ⟨k1, _, h1, rfl, by simp [St.en, hg, blk]⟩
    · simp [blk] at hb; exact .inr (by omega)
  have S : Step (s.en w w0.arg β) (St.en ⟨s.tm, (k2, .arr e te.size (xs ++ ys)) :: (k1, .dead) :: (k3, .arr e3 1 zs) :: s.ob⟩ w' w0.arg (upd β k2 v')) := by
    refine ⟨rfl, ⟨?_, fun b hb hm => ?_, ?_⟩, ?_⟩
    · show w.heap.size ≤ w'.heap.size
      rcases hcase with ⟨_, _, _, rfl⟩ | ⟨g, cap, cur, _, _, _, _, _, cur', _, _, rfl⟩ | ⟨cap, cur', _, _, _, _, _, rfl⟩
      · exact Nat.le_refl _
      · simp
      · simp
    · show w'.heap[b]? = w.heap[b]?
      rcases hcase with ⟨_, _, _, rfl⟩ | ⟨g, cap, cur, hg, _, _, _, _, cur', _, _, rfl⟩ | ⟨cap, cur', _, _, _, _, _, rfl⟩
      · rfl
      · refine setRow_other w g b cur' fun h => hm ?_
        subst h; exact ⟨k1, _, h1, rfl, by simp [St.en, hg, blk]⟩
      · exact heap_alloc_old w.drew _ b hb
    · rintro b ⟨j, o, ho, hl, hb⟩
      simp only [St.en, hlk] at ho hb
      split at ho
      · rename_i h; subst h; rw [upd_self] at hb; exact hblk b hb
      · rename_i hne
        rw [upd_ne _ _ (Ne.symm hne)] at hb
        split at ho
        · simp only [Option.some.injEq] at ho; subst ho; simp [Ob.live] at hl
        · split at ho
          · rename_i h; subst h; exact .inl ⟨_, _, h3, rfl, hb⟩
          · exact .inl ⟨j, o, ho, hl, hb⟩
    · intro k hk
      have hne : k ≠ k2 := fun h => by subst h; simp [St.en, h2] at hk
      simp only [St.en] at hk ⊢
      rw [hlk, if_neg (Ne.symm hne), upd_ne _ _ hne]
      refine ⟨?_, rfl⟩
      split
      · rfl
      · split
        · rfl
        · exact hk
  have hEall : EsV (Rd w' w0.arg (St.en ⟨s.tm, (k2, .arr e te.size (xs ++ ys)) :: (k1, .dead) :: (k3, .arr e3 1 zs) :: s.ob⟩ w' w0.arg (upd β k2 v')).M) te.size (xs ++ ys) (vals ++ news) :=
    (hEv.append hv).mono fun x v h => Rd.keep S.K x v h
  have hfpall : fpVs w' te.size (xs ++ ys) (vals ++ news) = fpVs w te.size xs vals ++ fpVs w te.size ys news := by
    have h : fpVs w' te.size (xs ++ ys) (vals ++ news) = fpVs w te.size (xs ++ ys) (vals ++ news) := fpVs_keep S.K (hEv.append hv)
    rw [h, fpVs_append hEv]
  have hkk : lk ((k2, Ob.arr e te.size (xs ++ ys)) :: (k1, .dead) :: (k3, .arr e3 1 zs) :: s.ob) k2 = some (.arr e te.size (xs ++ ys)) := by rw [hlk, if_pos rfl]
  -- the new object
  have hnew : ObRel (St.en ⟨s.tm, (k2, .arr e te.size (xs ++ ys)) :: (k1, .dead) :: (k3, .arr e3 1 zs) :: s.ob⟩ w' w0.arg (upd β k2 v')) k2 (.arr e te.size (xs ++ ys)) ∧
      ((v' = nilV ∧ obFp (St.en ⟨s.tm, (k2, .arr e te.size (xs ++ ys)) :: (k1, .dead) :: (k3, .arr e3 1 zs) :: s.ob⟩ w' w0.arg (upd β k2 v')) k2 = []) ∨
       ∃ g, blk v' = some g ∧ obFp (St.en ⟨s.tm, (k2, .arr e te.size (xs ++ ys)) :: (k1, .dead) :: (k3, .arr e3 1 zs) :: s.ob⟩ w' w0.arg (upd β k2 v')) k2 = g :: (fpVs w te.size xs vals ++ fpVs w te.size ys news)) := by
    rw [obFp_arr (en := St.en ⟨s.tm, (k2, .arr e te.size (xs ++ ys)) :: (k1, .dead) :: (k3, .arr e3 1 zs) :: s.ob⟩ w' w0.arg (upd β k2 v')) hkk]
    simp only [ObRel]
    show OwnRel w' w0.arg _ _ _ _ (upd β k2 v' k2) ∧ ((v' = nilV ∧ fp w' _ (upd β k2 v' k2) = []) ∨ ∃ g, blk v' = some g ∧ fp w' _ (upd β k2 v' k2) = _)
    rw [upd_self]
    generalize (St.en ⟨s.tm, (k2, .arr e te.size (xs ++ ys)) :: (k1, .dead) :: (k3, .arr e3 1 zs) :: s.ob⟩ w' w0.arg (upd β k2 v')).M = M' at hEall ⊢
    rcases hcase with ⟨rfl, _, h0, rfl⟩ | ⟨g, cap, cur, _, rfl, hg, hle, hcm, cur', hcs, htk, rfl⟩ | ⟨cap, cur', rfl, hle, hcm, hcs, htk, rfl⟩
    · have : xs ++ ys = [] := List.eq_nil_of_length_eq_zero (by rw [List.length_append]; exact h0)
      exact ⟨.inl ⟨this, rfl⟩, .inl ⟨rfl, fp_own_nil _ _ _ _⟩⟩
    · rw [← List.length_append] at hle htk ⊢
      obtain ⟨q1, q2⟩ := OwnRel.ofV (e := e) hle (setRow_heap w g cur cur' e (0, 0) hg) hcm hcs hEall htk
      exact ⟨q1, .inr ⟨g, rfl, by rw [q2, hfpall]⟩⟩
    · rw [← List.length_append] at hle htk ⊢
      obtain ⟨q1, q2⟩ := OwnRel.ofV (e := e) hle (heap_alloc_new w.drew _) hcm hcs hEall htk
      exact ⟨q1, .inr ⟨_, rfl, by rw [← hfpall]; exact q2⟩⟩
  have hltall : ∀ k, ∀ b ∈ obFp (s.en w w0.arg β) k, b < w.heap.size := fun k => obFp_lt (en := s.en w w0.arg β) fun o ho => R.ob k o ho
  have hunch : ∀ g, blk (β k3) = some g → w'.heap[g]? = w.heap[g]? := by
    intro g hg
    have hg3 := R.live_block h3 rfl hg
    rcases hcase with ⟨_, _, _, rfl⟩ | ⟨g', cap, cur, hg', _, _, _, _, cur', _, _, rfl⟩ | ⟨cap, cur', _, _, _, _, _, rfl⟩
    · rfl
    · refine setRow_other w g' g cur' fun h => ?_
      subst h
      exact R.dj k3 k1 hne3 _ hg3 (R.live_block h1 rfl (by simp [hg', blk]))
    · exact heap_alloc_old w.drew _ g (hltall k3 g hg3)
  have h3new := hz w' _ S.K hunch
  have hkk1 : lk ((k2, Ob.arr e te.size (xs ++ ys)) :: (k1, .dead) :: (k3, .arr e3 1 zs) :: s.ob) k1 = some .dead := by rw [hlk, if_neg (Ne.symm hk12), if_pos rfl]
  have hkk3 : lk ((k2, Ob.arr e te.size (xs ++ ys)) :: (k1, .dead) :: (k3, .arr e3 1 zs) :: s.ob) k3 = some (.arr e3 1 zs) := by rw [hlk, if_neg (Ne.symm hk32), if_neg (Ne.symm hne3), if_pos rfl]
  have hdead : obFp (St.en ⟨s.tm, (k2, .arr e te.size (xs ++ ys)) :: (k1, .dead) :: (k3, .arr e3 1 zs) :: s.ob⟩ w' w0.arg (upd β k2 v')) k1 = [] :=
    obFp_dead (en := St.en ⟨s.tm, (k2, .arr e te.size (xs ++ ys)) :: (k1, .dead) :: (k3, .arr e3 1 zs) :: s.ob⟩ w' w0.arg (upd β k2 v')) hkk1
  have hob3 : obFp (St.en ⟨s.tm, (k2, .arr e te.size (xs ++ ys)) :: (k1, .dead) :: (k3, .arr e3 1 zs) :: s.ob⟩ w' w0.arg (upd β k2 v')) k3 = F3 := by
    rw [obFp_arr (en := St.en ⟨s.tm, (k2, .arr e te.size (xs ++ ys)) :: (k1, .dead) :: (k3, .arr e3 1 zs) :: s.ob⟩ w' w0.arg (upd β k2 v')) hkk3]
    show fp w' (.own e3 1 zs) (upd β k2 v' k3) = F3
    rw [upd_ne _ _ hk32]; exact h3new.2
  obtain ⟨hF1, hF2, hF3⟩ := List.nodup_append.1 hF
  have hnewsub : ∀ b ∈ fpVs w te.size ys news, b ∈ obFp (s.en w w0.arg β) k3 := fun b hb => hsub b (List.mem_append_right _ hb)
  have hF3sub : ∀ b ∈ F3, b ∈ obFp (s.en w w0.arg β) k3 := fun b hb => hsub b (List.mem_append_left _ hb)
  have hgorig : ∀ g, blk v' = some g → (g = w.heap.size) ∨ g ∈ obFp (s.en w w0.arg β) k1 := by
    intro g hg
    rcases hcase with ⟨rfl, _⟩ | ⟨g', cap, cur, hg', rfl, _⟩ | ⟨cap, cur', rfl, _⟩
    · simp [blk] at hg
    · simp [blk] at hg; subst hg
      exact .inr (R.live_block h1 rfl (by simp [hg', blk]))
    · simp [blk] at hg; exact .inl hg.symm
  have hk2b : ∀ b ∈ obFp (St.en ⟨s.tm, (k2, .arr e te.size (xs ++ ys)) :: (k1, .dead) :: (k3, .arr e3 1 zs) :: s.ob⟩ w' w0.arg (upd β k2 v')) k2, b = w.heap.size ∨ b ∈ obFp (s.en w w0.arg β) k1 ∨ b ∈ fpVs w te.size ys news := by
    intro b hb
    rcases hnew.2 with ⟨_, h0⟩ | ⟨g, hg, hfp⟩
    · rw [h0] at hb; cases hb
    · rw [hfp] at hb
      rcases List.mem_cons.1 hb with rfl | hb
      · rcases hgorig b hg with h | h
        · exact .inl h
        · exact .inr (.inl h)
      · rcases List.mem_append.1 hb with hb | hb
        · exact .inr (.inl (hfp1.subset hb))
        · exact .inr (.inr hb)
  refine R.update S ?_ [k2, k1, k3] ?_ ?_ ?_ ?_ R.sz R.df (R.tm_step rfl S)
  · rcases hcase with ⟨_, _, _, rfl⟩ | ⟨g, cap, cur, hg, _, _, _, _, cur', _, _, rfl⟩ | ⟨cap, cur', _, _, _, _, _, rfl⟩
    · exact Low.refl _ _
    · have hge := R.ge k1 g (R.live_block h1 rfl (by simp [hg, blk]))
      exact ⟨rfl, rfl, rfl, by simp, fun b hb => setRow_other w g b cur' (by rintro rfl; exact hge.elim (fun h => Nat.lt_irrefl _ (Nat.lt_of_lt_of_le hb.1 h)) hb.2), Nat.le_refl _⟩
    · exact Low.of ((Bel.drew (Bel.refl _ _)).alloc R.base_le _)
  · intro k hk
    simp only [List.mem_cons, List.not_mem_nil, or_false, not_or] at hk
    obtain ⟨n2, n1, n3⟩ := hk
    refine ⟨by rw [hlk, if_neg (Ne.symm n2), if_neg (Ne.symm n1), if_neg (Ne.symm n3)], fun o ho hl b hb => ?_⟩
    rcases hcase with ⟨_, _, _, rfl⟩ | ⟨g, cap, cur, hg, _, _, _, _, cur', _, _, rfl⟩ | ⟨cap, cur', _, _, _, _, _, rfl⟩
    · rfl
    · refine setRow_other w g b cur' fun h => ?_
      subst h
      exact R.dj k k1 n1 b (R.live_block ho hl hb) (R.live_block h1 rfl (by simp [hg, blk]))
    · exact heap_alloc_old w.drew _ b (hltall k b (R.live_block ho hl hb))
  · intro k hk o ho
    simp only [List.mem_cons, List.not_mem_nil, or_false] at hk
    rcases hk with rfl | rfl | rfl
    · rw [hkk] at ho
      simp only [Option.some.injEq] at ho; subst ho
      exact hnew.1
    · rw [hkk1] at ho
      simp only [Option.some.injEq] at ho; subst ho; trivial
    · rw [hkk3] at ho
      simp only [Option.some.injEq] at ho; subst ho
      show OwnRel w' w0.arg _ e3 1 zs (upd β k2 v' k)
      rw [upd_ne _ _ hk32]; exact h3new.1
  · intro k hk
    simp only [List.mem_cons, List.not_mem_nil, or_false] at hk
    rcases hk with rfl | rfl | rfl
    · rcases hnew.2 with ⟨_, h0⟩ | ⟨g, hg, hfp⟩
      · rw [h0]; exact List.nodup_nil
      · rw [hfp]
        have hA : (fpVs w te.size xs vals).Nodup := (R.nd k1).sublist hfp1
        have hB : (fpVs w te.size ys news).Nodup := hF2
        have hAB : ∀ b ∈ fpVs w te.size xs vals, b ∉ fpVs w te.size ys news := fun b hb hb' => R.dj k1 k3 (Ne.symm hne3) b (hfp1.subset hb) (hnewsub b hb')
        refine List.nodup_cons.2 ⟨?_, ?_⟩
        · intro hm
          rcases hgorig g hg with rfl | hg1
          · rcases List.mem_append.1 hm with hm | hm
            · have := hltall k1 _ (hfp1.subset hm); omega
            · have := hltall k3 _ (hnewsub _ hm); omega
          · rcases List.mem_append.1 hm with hm | hm
            · -- the old array's own block is no part of its elements
              rcases OwnRel.vals hr1 with ⟨rfl, h⟩ | ⟨g1, cap, cur, vs, q1, q2, q3, q4, q5, q6, q7⟩
              · rcases hown with ⟨h', h0⟩ | ⟨g2, cap2, cur2, q1', _⟩
                · have hl := hEv.length
                  simp [fpVs] at hm
                · have : β k1 = nilV := h
                  rw [this] at q1'; simp at q1'
              · have q1' : β k1 = .slice (some ⟨g1, 0, none⟩) xs.length cap := q1
                have hfpq := OwnRel.fp_vals (B := w0.arg) (M := (s.en w w0.arg β).M) q2 q3 q4 q5 q6 q7
                have hob := obFp_arr (en := s.en w w0.arg β) h1
                have hob' : obFp (s.en w w0.arg β) k1 = g1 :: fpVs w te.size xs vs := by
                  rw [hob]; show fp w _ (β k1) = _; rw [q1', hfpq]
                have hvs : vs = vals := by
                  rcases hown with ⟨h', _⟩ | ⟨g2, cap2, cur2, q1'', _, q3', _, _, q7'⟩
                  · rw [h'] at q1'; simp at q1'
                  · rw [q1'] at q1''
                    simp only [Value.slice.injEq, Option.some.injEq, Addr.mk.injEq, and_true, true_and] at q1''
                    obtain ⟨rfl, rfl⟩ := q1''
                    have q3'' : w.heap[g1]? = some (.cells cur e (0, 0)) := q3
                    rw [q3''] at q3'
                    simp only [Option.some.injEq, Obj.cells.injEq, and_true] at q3'
                    rw [← q7, ← q7', q3']
                subst hvs
                have hgg : g = g1 := by
                  rcases hcase with ⟨rfl, _⟩ | ⟨g', cap', cur', hg', rfl, _⟩ | ⟨cap', cur', rfl, _⟩
                  · simp [blk] at hg
                  · simp [blk] at hg
                    rw [q1'] at hg'
                    simp only [Value.slice.injEq, Option.some.injEq, Addr.mk.injEq, and_true, true_and] at hg'
                    omega
                  · simp [blk] at hg
                    have := hlt1 g hg1
                    omega
                subst hgg
                have := R.nd k1
                rw [hob'] at this
                exact (List.nodup_cons.1 this).1 hm
            · exact R.dj k1 k3 (Ne.symm hne3) g hg1 (hnewsub g hm)
        · exact List.nodup_append.2 ⟨hA, hB, fun x hx y hy e => by subst e; exact hAB x hx hy⟩
    · rw [hdead]; exact List.nodup_nil
    · rw [hob3]; exact hF1
  · intro k hk b hb
    simp only [List.mem_cons, List.not_mem_nil, or_false] at hk
    rcases hk with rfl | rfl | rfl
    · have hb' := hk2b b hb
      refine ⟨?_, fun k' hk' hm => ?_, fun k' hk' hne => ?_⟩
      · rcases hb' with rfl | h | h
        · exact .inl R.base_le
        · exact R.ge k1 b h
        · exact R.ge k3 b (hnewsub b h)
      · simp only [List.mem_cons, List.not_mem_nil, or_false, not_or] at hk'
        rcases hb' with rfl | h | h
        · have := hltall k' _ hm; omega
        · exact R.dj k1 k' (Ne.symm hk'.2.1) b h hm
        · exact R.dj k3 k' (Ne.symm hk'.2.2) b (hnewsub b h) hm
      · simp only [List.mem_cons, List.not_mem_nil, or_false] at hk'
        rcases hk' with rfl | rfl | rfl
        · exact absurd rfl hne
        · rw [hdead]; simp
        · rw [hob3]
          intro hm
          rcases hb' with rfl | h | h
          · have := hltall _ _ (hF3sub _ hm); omega
          · exact R.dj k1 k' (Ne.symm hne3) b h (hF3sub _ hm)
          · exact hF3 b hm b h rfl
    · rw [hdead] at hb; cases hb
    · rw [hob3] at hb
      refine ⟨R.ge k b (hF3sub b hb), fun k' hk' hm => ?_, fun k' hk' hne => ?_⟩
      · simp only [List.mem_cons, List.not_mem_nil, or_false, not_or] at hk'
        exact R.dj k k' (Ne.symm hk'.2.2) b (hF3sub b hb) hm
      · simp only [List.mem_cons, List.not_mem_nil, or_false] at hk'
        rcases hk' with rfl | rfl | rfl
        · intro hm
          rcases hk2b b hm with rfl | h | h
          · have := hltall _ _ (hF3sub _ hb); omega
          · exact R.dj k1 k (Ne.symm hne3) b h (hF3sub _ hb)
          · exact hF3 b hb b h rfl
        · rw [hdead]; simp
        · exact absurd rfl hne

theorem EsV_valsR {B M : Nat → Prop} : ∀ {us : List Value}, (∀ u ∈ us, u.oneCell' = true) → EsV (Rd w B M) 1 (us.map fun u => [D.v u]) us
  | [], _ => rfl
  | u :: us, h => ⟨[u], us, rfl, rfl, ⟨u, [], rfl, by simp only [Rd]; exact ⟨trivial, h u (List.mem_cons_self ..)⟩, rfl⟩, EsV_valsR fun x hx => h x (List.mem_cons_of_mem _ hx)⟩
theorem fpVs_valsR (w : World) : ∀ us : List Value, fpVs w 1 (us.map fun u => [D.v u]) us = []
  | [] => rfl
  | u :: us => by simp [fpVs, fpDs, fp, fpVs_valsR w us]

set_option maxHeartbeats 1000000 in
/-- append(own, y[lo:]...): the arrays move; y keeps those before, and handles behind. -/
theorem OpW.appKeep {Q : Exit → Act → World → Prop} {all : Array Oper} {os : List Oper} {k : List It} {o : Oper} {c : Call} {x y : Operand} {t e e3 d k1 k3 lo n : Nat} {T : Tab} {ti te : TI} {xs ys : List (List D)}
    (ho : o.op = .call c) (hcc : c.callee = .builtin .append) (hargs : c.args = #[x, y]) (hts : c.argTypes = #[t, t]) (hd : o.dst = some d) (hlt : d < N)
    (hT : TabOk P T) (hti : lk T t = some ti) (htk : ti.k = .sl e) (hte : lk T e = some te) (hz : te.size = 1) (hx : s.opd x = some (.c (.ob k1))) (h1 : lk s.ob k1 = some (.arr e 1 xs))
    (hy : s.opd y = some (.c (.win k3 1 lo n))) (h3 : lk s.ob k3 = some (.arr e3 1 ys)) (hne : k3 ≠ k1) (hfr : lk s.ob (d * 64) = none) (hln : lo + n = ys.length)
    (hb : (xs.length + ys.length) * te.bytes ≤ 140737488355328) (h63 : xs.length + ys.length ≤ 9223372036854775807)
    (h : ∀ cs : List Value, cs.length = n → J P N w0 Q (.ops all os :: k) ⟨(d, .c (.ob (d * 64))) :: s.tm, (d * 64, .arr e 1 (xs ++ ys.drop lo)) :: (k1, .dead) :: (k3, .arr e3 1 (ys.take lo ++ cs.map fun u => [D.v u])) :: s.ob⟩) : OpW P N w0 Q all os k s o := by
  have hu := (hT t ti hti).sl htk
  have hty := hT e te hte
  refine OpW.val hd fun a w β R => ?_
  have hx := R.opd hx
  have hy := R.opd hy
  simp only [FVRel, CRel] at hx hy
  obtain ⟨_, hx, _⟩ := hx
  obtain ⟨_, hy⟩ := hy
  have hr3 : OwnRel w w0.arg (s.en w w0.arg β).M e3 1 ys (β k3) := R.ob k3 _ h3
  have hle : (ys.drop lo).length = n := by rw [List.length_drop]; omega
  obtain ⟨i, hi, his, hib⟩ : ∃ i, P.info? e = some i ∧ i.size = te.size ∧ i.bytes = te.bytes := by
    have := hty.size
    cases hi : P.info? e with
    | none => simp [hi] at this
    | some i => simp [hi] at this; exact ⟨i, rfl, this.1, this.2⟩
  obtain ⟨z, hz0, hzs⟩ : ∃ z, i.zero = some z ∧ z.cells.size = te.size := by
    have := hty.zero
    cases hz : i.zero with
    | none => simp [hi, hz] at this
    | some z =>
      refine ⟨z, rfl, ?_⟩
      simp [hi, hz] at this
      have hl := congrArg List.length this
      simpa [hty.zlen] using hl
  have key : ∃ (nv : List Value) (F3 : List Nat), nv.length = ys.length ∧ EsV (Rd w w0.arg (s.en w w0.arg β).M) 1 (ys.drop lo) (nv.drop lo) ∧ (∀ u ∈ nv, u.oneCell' = true) ∧
      ((a.eval y = nilV ∧ (ys.drop lo).length = 0) ∨ ∃ ad cap, a.eval y = .slice (some ad) (ys.drop lo).length cap ∧ ∀ j u, (nv.drop lo)[j]? = some u → w.cell? (ad.add j) = some u) ∧
      (∀ (w' : World) (M' : Nat → Prop), Keeps w w' (s.en w w0.arg β).M M' → (∀ g, blk (β k3) = some g → w'.heap[g]? = w.heap[g]?) → OwnRel w' w0.arg M' e3 1 (ys.take lo ++ (nv.drop lo).map fun u => [D.v u]) (β k3) ∧ fp w' (.own e3 1 (ys.take lo ++ (nv.drop lo).map fun u => [D.v u])) (β k3) = F3) ∧
      (F3 ++ fpVs w 1 (ys.drop lo) (nv.drop lo)).Nodup ∧ ∀ b ∈ F3 ++ fpVs w 1 (ys.drop lo) (nv.drop lo), b ∈ obFp (s.en w w0.arg β) k3 := by
    rcases hr3 with ⟨rfl, h0⟩ | ⟨g', cap', cur, hβ', q1, q2, q3, q4, q5⟩
    · refine ⟨[], [], rfl, by simp [EsV], by simp, .inl ⟨?_, by simp⟩, fun w' M' _ _ => ⟨.inl ⟨by simp, h0⟩, by rw [h0]; simp [fp]⟩, by simp [fpVs], by simp [fpVs]⟩
      have h0' : β k3 = nilV := h0
      rcases hy with ⟨_, _, hv⟩ | ⟨g, M, cap, off, c', hβ, _⟩
      · exact hv
      · have hβ : β k3 = .slice (some ⟨g, 0, none⟩) M cap := hβ
        rw [hβ] at h0'; cases h0'
    · obtain ⟨nv, n1, n2, n3⟩ := q5.cellsV
      have hβ' : β k3 = .slice (some ⟨g', 0, none⟩) ys.length cap' := hβ'
      have hnl : nv.length = ys.length := by have := n1.length; omega
      have hcell : ∀ j u, nv[j]? = some u → w.cell? ⟨g', j, none⟩ = some u := fun j u hj => by have := n3 j u hj; rw [Addr.add_lit, Nat.zero_add] at this; exact this
      have hob : obFp (s.en w w0.arg β) k3 = g' :: fpVs w 1 ys nv := by
        rw [obFp_arr (en := s.en w w0.arg β) h3]
        show fp w (.own e3 1 ys) (β k3) = _
        rw [hβ', fp_own_some, fpEs_vals ys nv 0 n1 (fun j u hj => by rw [Nat.zero_add]; exact hcell j u hj)]
      have hsplit : fpVs w 1 ys nv = fpVs w 1 (ys.take lo) (nv.take lo) ++ fpVs w 1 (ys.drop lo) (nv.drop lo) := by
        have := fpVs_append (w := w) (ys := ys.drop lo) (us := nv.drop lo) (n1.take1 lo)
        rwa [List.take_append_drop, List.take_append_drop] at this
      refine ⟨nv, g' :: fpVs w 1 (ys.take lo) (nv.take lo), hnl, n1.drop1 lo, n2, ?_, fun w' M' K hun => ?_, ?_, ?_⟩
      · rcases hy with ⟨hβ, hn0, hv⟩ | ⟨g, M, cap, off, c', hβ, hv, hoff, hlen, hc⟩
        · exact .inl ⟨hv, by omega⟩
        · have hβ : β k3 = .slice (some ⟨g, 0, none⟩) M cap := hβ
          rw [hβ] at hβ'
          simp only [Value.slice.injEq, Option.some.injEq, Addr.mk.injEq, and_true] at hβ'
          obtain ⟨rfl, rfl, rfl⟩ := hβ'
          refine .inr ⟨_, _, hv.trans (by rw [hle]), fun j u hj => ?_⟩
          rw [List.getElem?_drop] at hj
          have hjn : lo + j < nv.length := (List.getElem?_eq_some_iff.1 hj).1
          rw [Addr.add_lit]
          rcases hoff with h | h
          · omega
          · rw [h, Nat.mul_one]; exact hcell _ _ hj
      · have hg := hun g' (by rw [hβ']; rfl)
        have hE : EsV (Rd w' w0.arg M') 1 (ys.take lo ++ (nv.drop lo).map fun u => [D.v u]) nv := by
          have := ((n1.take1 lo).mono fun x v h => Rd.keep K x v h).append (EsV_valsR (w := w') (B := w0.arg) (M := M') (us := nv.drop lo) fun u hu => n2 u (List.drop_subset _ _ hu))
          rwa [List.take_append_drop] at this
        have hc' : ∀ j u, nv[j]? = some u → w'.cell? ⟨g', 0 + j, none⟩ = some u := fun j u hj => by rw [Nat.zero_add, cell_congr hg]; exact hcell j u hj
        have hzl : (ys.take lo ++ (nv.drop lo).map fun u => [D.v u]).length = ys.length := by simp [hnl]; omega
        refine ⟨.inr ⟨g', cap', cur, by rw [hzl]; exact hβ', by rw [hzl]; exact q1, by rw [hg]; exact q2, q3, q4, RdEs.ofV hE hc'⟩, ?_⟩
        rw [hβ', fp_own_some, fpEs_vals _ nv 0 hE hc']
        have h1' := fpVs_append (w := w') (ys := (nv.drop lo).map fun u => [D.v u]) (us := nv.drop lo) ((n1.take1 lo).mono fun x v h => Rd.keep K x v h)
        rw [List.take_append_drop, fpVs_valsR, List.append_nil, fpVs_keep K (n1.take1 lo)] at h1'
        rw [h1']
      · rw [List.cons_append, ← hsplit, ← hob]; exact R.nd k3
      · intro b hb
        rw [List.cons_append, ← hsplit, ← hob] at hb
        exact hb
  obtain ⟨nv, F3, hnl, hEv, n2, hsrc, hzz, hF, hsub⟩ := key
  have hmul : (xs.length + (ys.drop lo).length) * te.bytes ≤ 140737488355328 := Nat.le_trans (Nat.mul_le_mul_right _ (by omega)) hb
  obtain ⟨v', w', r1, r2, r3⟩ := R.appendRK (te := te) (m := Builtin.append_ #[t, t] o.type #[β k1, a.eval y]) (k2 := d * 64) (by rw [hz]; exact h1) hfr (by rw [hz]; exact hEv) h3 hne hzz (by rw [hz]; exact hF) (by rw [hz]; exact hsub)
    (fun vals hl hown => run_append_cases (P := P) (w := w) (ty := o.type) hu hi hz0 his hib hzs hl hown (by rw [hEv.length, hz]) hsrc (fun u hu => n2 u (List.drop_subset _ _ hu)) (by simp only [maxLen]; omega) hmul)
  rw [hz] at r3
  refine ⟨v', w', _, _, ?_, r3.setTm hlt ?_, h (nv.drop lo) (by rw [List.length_drop]; omega)⟩
  · have hx : a.eval x = β k1 := hx
    rw [← hx] at r1
    simp [execOp, ho, resolve, hcc, hargs, hts, invoke, builtin, r1]
  · simp only [FVRel, CRel]
    exact ⟨by simp [St.en, lk_cons_self], by simp [St.en, upd_self], r2⟩

end Go.Sm
