/- append, literals of slices, make and stores, carried over the symbolic state. -/
import Derived.Test.YtihinogdolhjcaaSmG
namespace Go.Sm
open Go.RowKit

variable {P : Program} {N : Nat} {w0 : Base} {s : St} {a : Act} {w : World} {β : Nat → Value}

def deadOs : List Nat → List (Nat × Ob)
  | [] => []
  | k :: r => (k, .dead) :: deadOs r

theorem lk_deadOs {ks : List Nat} {ob : List (Nat × Ob)} {k : Nat} : lk (deadOs ks ++ ob) k = if k ∈ ks then some .dead else lk ob k := by
  induction ks with
  | nil => simp [deadOs]
  | cons j r ih =>
    simp only [deadOs, List.cons_append, lk_cons, ih, List.mem_cons]
    by_cases h : j = k
    · subst h; simp
    · rw [if_neg h]
      by_cases h' : k ∈ r
      · simp [h']
      · have : ¬ k = j := fun e => h e.symm
        simp [h', this]

/-- Append to an array of one's own: it becomes a new object; the old one dies, and those dead with it ('ks') give up what they own to the new one. -/
theorem Rel.append (R : Rel N w0 s a w β) {t ty e z : Nat} {te : TI} {k1 k2 : Nat} {xs ys : List (List D)} {ks : List Nat} {x : Value} {news : List Value}
    (ht : P.underlying t = some (.slice e)) (hte : TyOk P e te) (hz : z = te.size) (h1 : lk s.ob k1 = some (.arr e z xs)) (h2 : lk s.ob k2 = none)
    (hv : EsV (Rd w w0.arg (s.en w w0.arg β).M) z ys news) (hone : ∀ u ∈ news, u.oneCell' = true)
    (hx : (x = nilV ∧ ys.length = 0) ∨ ∃ ad c, x = .slice (some ad) ys.length c ∧ ∀ j u, news[j]? = some u → w.cell? (ad.add j) = some u)
    (hks : (ks = [] ∧ fpVs w z ys news = []) ∨ ∃ k3, ks = [k3] ∧ k3 ≠ k1 ∧ (∃ o, lk s.ob k3 = some o) ∧ List.Sublist (fpVs w z ys news) (obFp (s.en w w0.arg β) k3))
    (h63 : xs.length + ys.length ≤ maxLen) (hbytes : (xs.length + ys.length) * te.bytes ≤ 140737488355328) :
    ∃ v' w', (Builtin.append_ #[t, t] ty #[β k1, x]).run P w = .ok v' w' ∧ v'.oneCell' = true ∧
      Rel N w0 ⟨s.tm, (k2, .arr e z (xs ++ ys)) :: (k1, .dead) :: (deadOs ks ++ s.ob)⟩ a w' (upd β k2 v') := by
  subst hz
  obtain ⟨i, hi, his, hib⟩ : ∃ i, P.info? e = some i ∧ i.size = te.size ∧ i.bytes = te.bytes := by
    have := hte.size
    cases hi : P.info? e with
    | none => simp [hi] at this
    | some i => simp [hi] at this; exact ⟨i, rfl, this.1, this.2⟩
  obtain ⟨z, hz, hzs⟩ : ∃ z, i.zero = some z ∧ z.cells.size = te.size := by
    have := hte.zero
    cases hz : i.zero with
    | none => simp [hi, hz] at this
    | some z =>
      refine ⟨z, rfl, ?_⟩
      simp [hi, hz] at this
      have hl := congrArg List.length this
      simpa [hte.zlen] using hl
  have hr1 : OwnRel w w0.arg (s.en w w0.arg β).M e te.size xs (β k1) := R.ob k1 _ h1
  have hlt1 : ∀ b ∈ obFp (s.en w w0.arg β) k1, b < w.heap.size := obFp_lt (en := s.en w w0.arg β) fun o ho => R.ob k1 o ho
  -- the old array, by values
  obtain ⟨vals, hEv, hown, hfp1⟩ : ∃ vals, EsV (Rd w w0.arg (s.en w w0.arg β).M) te.size xs vals ∧
      ((β k1 = nilV ∧ xs.length = 0) ∨ ∃ g cap cur, β k1 = .slice (some ⟨g, 0, none⟩) xs.length cap ∧ xs.length ≤ cap ∧ w.heap[g]? = some (.cells cur e (0, 0)) ∧ cap ≤ maxLen ∧ cur.size = cap * te.size ∧
        cur.toList.take (xs.length * te.size) = vals) ∧
      List.Sublist (fpVs w te.size xs vals) (obFp (s.en w w0.arg β) k1) := by
    rcases OwnRel.vals hr1 with ⟨rfl, h⟩ | ⟨g, cap, cur, vs, q1, q2, q3, q4, q5, q6, q7⟩
    · exact ⟨[], rfl, .inl ⟨h, rfl⟩, by simp [fpVs]⟩
    · refine ⟨vs, q6, .inr ⟨g, cap, cur, q1, q2, q3, q4, q5, q7⟩, ?_⟩
      have := OwnRel.fp_vals (B := w0.arg) (M := (s.en w w0.arg β).M) q2 q3 q4 q5 q6 q7
      rw [obFp_arr (en := s.en w w0.arg β) h1]
      show List.Sublist _ (fp w (.own e te.size xs) (β k1))
      have q1' : β k1 = .slice (some ⟨g, 0, none⟩) xs.length cap := q1
      rw [q1', this]
      exact List.sublist_cons_self _ _
  obtain ⟨v', w', hrun, hcase⟩ := run_append_cases (P := P) (w := w) (ty := ty) ht hi hz his hib hzs hEv.length hown hv.length hx hone h63 hbytes
  have hk12 : k1 ≠ k2 := fun h => by subst h; simp [h1] at h2
  refine ⟨v', w', hrun, by rcases hcase with ⟨rfl, _⟩ | ⟨g, cap, cur, _, rfl, _⟩ | ⟨cap, cur', rfl, _⟩ <;> rfl, ?_⟩
  have hlk : ∀ k, lk ((k2, Ob.arr e te.size (xs ++ ys)) :: (k1, .dead) :: (deadOs ks ++ s.ob)) k = if k2 = k then some (.arr e te.size (xs ++ ys)) else if k1 = k then some .dead else if k ∈ ks then some .dead else lk s.ob k := by
    intro k
    rw [lk_cons, lk_cons, lk_deadOs]
  have hks2 : k2 ∉ ks := by
    rcases hks with ⟨rfl, _⟩ | ⟨k3, rfl, _, ⟨o, ho⟩, _⟩
    · simp
    · simp only [List.mem_singleton]; intro h; subst h; simp [ho] at h2
  -- what the step keeps
  have hblk : ∀ b, blk v' = some b → (s.en w w0.arg β).M b ∨ w.heap.size ≤ b := by
    intro b hb
    rcases hcase with ⟨rfl, _⟩ | ⟨g, cap, cur, hg, rfl, _⟩ | ⟨cap, cur', rfl, _⟩
    · simp [blk] at hb
    · simp [blk] at hb; subst hb; exact .inl ⟨k1, _, h1, rfl, by simp [St.en, hg, blk]⟩
    · simp [blk] at hb; exact .inr (by omega)
  have S : Step (s.en w w0.arg β) (St.en ⟨s.tm, (k2, .arr e te.size (xs ++ ys)) :: (k1, .dead) :: (deadOs ks ++ s.ob)⟩ w' w0.arg (upd β k2 v')) := by
    refine ⟨rfl, ⟨?_, fun b hb hm => ?_, ?_⟩, ?_⟩
    · show w.heap.size ≤ w'.heap.size
      rcases hcase with ⟨_, _, _, rfl⟩ | ⟨g, cap, cur, _, _, _, _, _, cur', _, _, rfl⟩ | ⟨cap, cur', _, _, _, _, _, rfl⟩
      · exact Nat.le_refl _
      · simp
      · simp
    · show w'.heap[b]? = w.heap[b]?
      rcases hcase with ⟨_, _, _, rfl⟩ | ⟨g, cap, cur, hg, _, _, _, _, cur', _, _, rfl⟩ | ⟨cap, cur', _, _, _, _, _, rfl⟩
      · rfl
      · refine setRow_other w g b cur' fun h => hm ?_
        subst h; exact ⟨k1, _, h1, rfl, by simp [St.en, hg, blk]⟩
      · exact heap_alloc_old w.drew _ b hb
    · rintro b ⟨j, o, ho, hl, hb⟩
      simp only [St.en, hlk] at ho hb
      split at ho
      · rename_i h; subst h; rw [upd_self] at hb; exact hblk b hb
      · rename_i hne
        rw [upd_ne _ _ (Ne.symm hne)] at hb
        split at ho
        · simp only [Option.some.injEq] at ho; subst ho; simp [Ob.live] at hl
        · split at ho
          · simp only [Option.some.injEq] at ho; subst ho; simp [Ob.live] at hl
          · exact .inl ⟨j, o, ho, hl, hb⟩
    · intro k hk
      have hne : k ≠ k2 := fun h => by subst h; simp [St.en, h2] at hk
      simp only [St.en] at hk ⊢
      rw [hlk, if_neg (Ne.symm hne), upd_ne _ _ hne]
      refine ⟨?_, rfl⟩
      split
      · rfl
      · split
        · rfl
        · exact hk
  have hEall : EsV (Rd w' w0.arg (St.en ⟨s.tm, (k2, .arr e te.size (xs ++ ys)) :: (k1, .dead) :: (deadOs ks ++ s.ob)⟩ w' w0.arg (upd β k2 v')).M) te.size (xs ++ ys) (vals ++ news) :=
    (hEv.append hv).mono fun x v h => Rd.keep S.K x v h
  have hfpall : fpVs w' te.size (xs ++ ys) (vals ++ news) = fpVs w te.size xs vals ++ fpVs w te.size ys news := by
    have h : fpVs w' te.size (xs ++ ys) (vals ++ news) = fpVs w te.size (xs ++ ys) (vals ++ news) := fpVs_keep S.K (hEv.append hv)
    rw [h, fpVs_append hEv]
  have hkk : lk ((k2, Ob.arr e te.size (xs ++ ys)) :: (k1, .dead) :: (deadOs ks ++ s.ob)) k2 = some (.arr e te.size (xs ++ ys)) := by rw [hlk, if_pos rfl]
  -- the new object
  have hnew : ObRel (St.en ⟨s.tm, (k2, .arr e te.size (xs ++ ys)) :: (k1, .dead) :: (deadOs ks ++ s.ob)⟩ w' w0.arg (upd β k2 v')) k2 (.arr e te.size (xs ++ ys)) ∧
      ((v' = nilV ∧ obFp (St.en ⟨s.tm, (k2, .arr e te.size (xs ++ ys)) :: (k1, .dead) :: (deadOs ks ++ s.ob)⟩ w' w0.arg (upd β k2 v')) k2 = []) ∨
       ∃ g, blk v' = some g ∧ obFp (St.en ⟨s.tm, (k2, .arr e te.size (xs ++ ys)) :: (k1, .dead) :: (deadOs ks ++ s.ob)⟩ w' w0.arg (upd β k2 v')) k2 = g :: (fpVs w te.size xs vals ++ fpVs w te.size ys news)) := by
    rw [obFp_arr (en := St.en ⟨s.tm, (k2, .arr e te.size (xs ++ ys)) :: (k1, .dead) :: (deadOs ks ++ s.ob)⟩ w' w0.arg (upd β k2 v')) hkk]
    simp only [ObRel]
    show OwnRel w' w0.arg _ _ _ _ (upd β k2 v' k2) ∧ ((v' = nilV ∧ fp w' _ (upd β k2 v' k2) = []) ∨ ∃ g, blk v' = some g ∧ fp w' _ (upd β k2 v' k2) = _)
    rw [upd_self]
    generalize (St.en ⟨s.tm, (k2, .arr e te.size (xs ++ ys)) :: (k1, .dead) :: (deadOs ks ++ s.ob)⟩ w' w0.arg (upd β k2 v')).M = M' at hEall ⊢
    rcases hcase with ⟨rfl, _, h0, rfl⟩ | ⟨g, cap, cur, _, rfl, hg, hle, hcm, cur', hcs, htk, rfl⟩ | ⟨cap, cur', rfl, hle, hcm, hcs, htk, rfl⟩
    · have : xs ++ ys = [] := List.eq_nil_of_length_eq_zero (by rw [List.length_append]; exact h0)
      exact ⟨.inl ⟨this, rfl⟩, .inl ⟨rfl, fp_own_nil _ _ _ _⟩⟩
    · rw [← List.length_append] at hle htk ⊢
      obtain ⟨q1, q2⟩ := OwnRel.ofV (e := e) hle (setRow_heap w g cur cur' e (0, 0) hg) hcm hcs hEall htk
      exact ⟨q1, .inr ⟨g, rfl, by rw [q2, hfpall]⟩⟩
    · rw [← List.length_append] at hle htk ⊢
      obtain ⟨q1, q2⟩ := OwnRel.ofV (e := e) hle (heap_alloc_new w.drew _) hcm hcs hEall htk
      exact ⟨q1, .inr ⟨_, rfl, by rw [← hfpall]; exact q2⟩⟩
  have hdead : ∀ k, k = k1 ∨ k ∈ ks → obFp (St.en ⟨s.tm, (k2, .arr e te.size (xs ++ ys)) :: (k1, .dead) :: (deadOs ks ++ s.ob)⟩ w' w0.arg (upd β k2 v')) k = [] := by
    intro k hk
    refine obFp_dead (en := St.en ⟨s.tm, (k2, .arr e te.size (xs ++ ys)) :: (k1, .dead) :: (deadOs ks ++ s.ob)⟩ w' w0.arg (upd β k2 v')) ?_
    show lk _ k = _
    rw [hlk]
    have hne : k2 ≠ k := fun h => by
      subst h
      rcases hk with h | h
      · exact hk12 h.symm
      · exact hks2 h
    rw [if_neg hne]
    rcases hk with rfl | hk
    · rw [if_pos rfl]
    · by_cases h : k1 = k
      · rw [if_pos h]
      · rw [if_neg h, if_pos hk]
  -- the blocks of k2, where they come from
  have horig : ∀ b ∈ fpVs w te.size xs vals ++ fpVs w te.size ys news, ∃ k, (k = k1 ∨ k ∈ ks) ∧ b ∈ obFp (s.en w w0.arg β) k := by
    intro b hb
    rcases List.mem_append.1 hb with hb | hb
    · exact ⟨k1, .inl rfl, hfp1.subset hb⟩
    · rcases hks with ⟨_, h0⟩ | ⟨k3, rfl, _, _, hsub⟩
      · rw [h0] at hb; cases hb
      · exact ⟨k3, .inr (by simp), hsub.subset hb⟩
  have hgorig : ∀ g, blk v' = some g → (g = w.heap.size) ∨ g ∈ obFp (s.en w w0.arg β) k1 := by
    intro g hg
    rcases hcase with ⟨rfl, _⟩ | ⟨g', cap, cur, hg', rfl, _⟩ | ⟨cap, cur', rfl, _⟩
    · simp [blk] at hg
    · simp [blk] at hg; subst hg
      exact .inr (R.live_block h1 rfl (by simp [hg', blk]))
    · simp [blk] at hg; exact .inl hg.symm
  have hltall : ∀ k, ∀ b ∈ obFp (s.en w w0.arg β) k, b < w.heap.size := fun k => obFp_lt (en := s.en w w0.arg β) fun o ho => R.ob k o ho
  refine R.update S ?_ ([k2, k1] ++ ks) ?_ ?_ ?_ ?_ R.sz R.df (R.tm_step rfl S)
  · rcases hcase with ⟨_, _, _, rfl⟩ | ⟨g, cap, cur, hg, _, _, _, _, cur', _, _, rfl⟩ | ⟨cap, cur', _, _, _, _, _, rfl⟩
    · exact Low.refl _ _
    · have hge := R.ge k1 g (R.live_block h1 rfl (by simp [hg, blk]))
      exact ⟨rfl, rfl, rfl, by simp, fun b hb => setRow_other w g b cur' (by rintro rfl; exact hge.elim (fun h => Nat.lt_irrefl _ (Nat.lt_of_lt_of_le hb.1 h)) hb.2), Nat.le_refl _⟩
    · exact Low.of ((Bel.drew (Bel.refl _ _)).alloc R.base_le _)
  · intro k hk
    simp only [List.cons_append, List.nil_append, List.mem_cons, not_or] at hk
    obtain ⟨n2, n1, n3⟩ := hk
    refine ⟨by rw [hlk, if_neg (Ne.symm n2), if_neg (Ne.symm n1), if_neg n3], fun o ho hl b hb => ?_⟩
    rcases hcase with ⟨_, _, _, rfl⟩ | ⟨g, cap, cur, hg, _, _, _, _, cur', _, _, rfl⟩ | ⟨cap, cur', _, _, _, _, _, rfl⟩
    · rfl
    · refine setRow_other w g b cur' fun h => ?_
      subst h
      exact R.dj k k1 n1 b (R.live_block ho hl hb) (R.live_block h1 rfl (by simp [hg, blk]))
    · exact heap_alloc_old w.drew _ b (hltall k b (R.live_block ho hl hb))
  · intro k hk o ho
    simp only [List.cons_append, List.nil_append, List.mem_cons] at hk
    rw [hlk] at ho
    split at ho
    · rename_i h; subst h
      simp only [Option.some.injEq] at ho; subst ho
      exact hnew.1
    · rename_i hne
      split at ho
      · simp only [Option.some.injEq] at ho; subst ho; trivial
      · rename_i hne1
        rcases hk with rfl | rfl | hk
        · exact absurd rfl hne
        · exact absurd rfl hne1
        · rw [if_pos hk] at ho
          simp only [Option.some.injEq] at ho; subst ho; trivial
  · intro k hk
    simp only [List.cons_append, List.nil_append, List.mem_cons] at hk
    by_cases hkk2 : k = k2
    · subst hkk2
      rcases hnew.2 with ⟨_, h0⟩ | ⟨g, hg, hfp⟩
      · rw [h0]; exact List.nodup_nil
      · rw [hfp]
        have hA : (fpVs w te.size xs vals).Nodup := (R.nd k1).sublist hfp1
        have hB : (fpVs w te.size ys news).Nodup := by
          rcases hks with ⟨_, h0⟩ | ⟨k3, _, _, _, hsub⟩
          · rw [h0]; exact List.nodup_nil
          · exact (R.nd k3).sublist hsub
        have hAB : ∀ b ∈ fpVs w te.size xs vals, b ∉ fpVs w te.size ys news := by
          intro b hb hb'
          rcases hks with ⟨_, h0⟩ | ⟨k3, _, hne, _, hsub⟩
          · rw [h0] at hb'; cases hb'
          · exact R.dj k1 k3 (Ne.symm hne) b (hfp1.subset hb) (hsub.subset hb')
        refine List.nodup_cons.2 ⟨?_, ?_⟩
        · intro hm
          rcases hgorig g hg with rfl | hg1
          · obtain ⟨k', _, hb⟩ := horig _ hm
            have := hltall k' _ hb
            omega
          · rcases List.mem_append.1 hm with hm | hm
            · -- the old array's own block is no part of its elements
              rcases OwnRel.vals hr1 with ⟨rfl, h⟩ | ⟨g1, cap, cur, vs, q1, q2, q3, q4, q5, q6, q7⟩
              · rcases hown with ⟨h', h0⟩ | ⟨g2, cap2, cur2, q1', _⟩
                · have hl := hEv.length
                  simp [fpVs] at hm
                · have : β k1 = nilV := h
                  rw [this] at q1'; simp at q1'
              · have q1' : β k1 = .slice (some ⟨g1, 0, none⟩) xs.length cap := q1
                have hfpq := OwnRel.fp_vals (B := w0.arg) (M := (s.en w w0.arg β).M) q2 q3 q4 q5 q6 q7
                have hob := obFp_arr (en := s.en w w0.arg β) h1
                have hob' : obFp (s.en w w0.arg β) k1 = g1 :: fpVs w te.size xs vs := by
                  rw [hob]; show fp w _ (β k1) = _; rw [q1', hfpq]
                have hvs : vs = vals := by
                  rcases hown with ⟨h', _⟩ | ⟨g2, cap2, cur2, q1'', _, q3', _, _, q7'⟩
                  · rw [h'] at q1'; simp at q1'
                  · rw [q1'] at q1''
                    simp only [Value.slice.injEq, Option.some.injEq, Addr.mk.injEq, and_true, true_and] at q1''
                    obtain ⟨rfl, rfl⟩ := q1''
                    have q3'' : w.heap[g1]? = some (.cells cur e (0, 0)) := q3
                    rw [q3''] at q3'
                    simp only [Option.some.injEq, Obj.cells.injEq, and_true] at q3'
                    rw [← q7, ← q7', q3']
                subst hvs
                have hgg : g = g1 := by
                  rcases hcase with ⟨rfl, _⟩ | ⟨g', cap', cur', hg', rfl, _⟩ | ⟨cap', cur', rfl, _⟩
                  · simp [blk] at hg
                  · simp [blk] at hg
                    rw [q1'] at hg'
                    simp only [Value.slice.injEq, Option.some.injEq, Addr.mk.injEq, and_true, true_and] at hg'
                    omega
                  · simp [blk] at hg
                    have := hlt1 g hg1
                    omega
                subst hgg
                have := R.nd k1
                rw [hob'] at this
                exact (List.nodup_cons.1 this).1 hm
            · rcases hks with ⟨_, h0⟩ | ⟨k3, _, hne, _, hsub⟩
              · rw [h0] at hm; cases hm
              · exact R.dj k1 k3 (Ne.symm hne) g hg1 (hsub.subset hm)
        · exact List.nodup_append.2 ⟨hA, hB, fun x hx y hy e => by subst e; exact hAB x hx hy⟩
    · rw [hdead k (by rcases hk with h | h | h; exact absurd h hkk2; exact .inl h; exact .inr h)]; exact List.nodup_nil
  · intro k hk b hb
    simp only [List.cons_append, List.nil_append, List.mem_cons] at hk
    by_cases hkk2 : k = k2
    · subst hkk2
      have hb' : (b = w.heap.size) ∨ ∃ k', (k' = k1 ∨ k' ∈ ks) ∧ b ∈ obFp (s.en w w0.arg β) k' := by
        rcases hnew.2 with ⟨_, h0⟩ | ⟨g, hg, hfp⟩
        · rw [h0] at hb; cases hb
        · rw [hfp] at hb
          rcases List.mem_cons.1 hb with rfl | hb
          · rcases hgorig b hg with h | h
            · exact .inl h
            · exact .inr ⟨k1, .inl rfl, h⟩
          · exact .inr (horig b hb)
      refine ⟨?_, fun k' hk' hm => ?_, fun k' hk' hne => ?_⟩
      · rcases hb' with rfl | ⟨k', _, h⟩
        · exact .inl R.base_le
        · exact R.ge k' b h
      · simp only [List.cons_append, List.nil_append, List.mem_cons, not_or] at hk'
        rcases hb' with rfl | ⟨k'', h1', h⟩
        · have := hltall k' _ hm; omega
        · refine R.dj k'' k' (fun e => ?_) b h hm
          subst e
          rcases h1' with h1' | h1'
          · exact hk'.2.1 h1'
          · exact hk'.2.2 h1'
      · simp only [List.cons_append, List.nil_append, List.mem_cons] at hk'
        rw [hdead k' (by rcases hk' with h | h | h; exact absurd h hne; exact .inl h; exact .inr h)]; simp
    · rw [hdead k (by rcases hk with h | h | h; exact absurd h hkk2; exact .inl h; exact .inr h)] at hb; cases hb

end Go.Sm
