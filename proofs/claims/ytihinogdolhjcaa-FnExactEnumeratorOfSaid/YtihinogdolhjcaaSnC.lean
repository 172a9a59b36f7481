/- An array of one's own inside another: the two steps. -/
import Derived.Test.YtihinogdolhjcaaSnB
namespace Go.Sm
open Go.RowKit

variable {P : Program} {N : Nat} {w0 : Base} {s : St} {a : Act} {w w' : World} {β : Nat → Value} {B M M' : Nat → Prop}

theorem own_head {e z : Nat} {ys : List (List D)} {c : Value} {b : Nat} (hr : Rd w B M (.own e z ys) c) (hb : blk c = some b) : b ∈ fp w (.own e z ys) c ∧ ∃ cur e, w.heap[b]? = some (.cells cur e (0, 0)) := by
  simp only [Rd] at hr
  rcases hr with ⟨_, rfl⟩ | ⟨g, cap, cur, rfl, _, _, hh, _⟩
  · simp [blk] at hb
  · simp [blk] at hb; subst hb; rw [fp_own_some]; exact ⟨List.mem_cons_self .., cur, e, hh⟩

theorem Rel.out (R : Rel N w0 s a w β) {ky K i j e z e' z' : Nat} {xs ys : List (List D)} {E : List D} (ho : lk s.ob ky = some (.arr e z xs)) (hE : xs[i]? = some E) (hj : E[j]? = some (.own e' z' ys)) (hf : freshEs ys = true)
    (hKn : lk s.ob K = none) (hst : stTm s.tm = true) (hso : stObs [] s.ob = true) :
    ∃ c, Rel N (w0.named K c) ⟨s.tm, (K, .arr e' z' ys) :: (ky, .arr e z (xs.set i (E.set j (.v c)))) :: s.ob⟩ a w (upd β K c) := by
  have hKky : K ≠ ky := fun h => by subst h; rw [hKn] at ho; cases ho
  have hr : OwnRel w w0.arg (s.en w w0.arg β).M e z xs (β ky) := R.ob ky _ ho
  have hfpo := obFp_arr (en := s.en w w0.arg β) ho
  rcases hr with ⟨rfl, _⟩ | ⟨g, cap, cur, h1, h2, h3, h4, h5, h6⟩
  · simp at hE
  have hfpe : obFp (s.en w w0.arg β) ky = g :: fpEs w z xs g 0 := by rw [hfpo]; show fp w _ (β ky) = _; rw [h1, fp_own_some]
  have hndk : (g :: fpEs w z xs g 0).Nodup := hfpe ▸ R.nd ky
  obtain ⟨hgn, hndE⟩ := List.nodup_cons.1 hndk
  obtain ⟨_, hEr⟩ := RdEs.get i xs 0 E h6 hE
  obtain ⟨c, hc, hd⟩ := getCs hEr hj
  refine ⟨c, ?_⟩
  let X : Nat → Prop := fun y => blk c = some y
  have hXfp : ∀ y, X y → y ∈ fp w (.own e' z' ys) c := fun y hy => (own_head hd hy).1
  have hX : Chg X w w := ⟨Nat.le_refl _, fun _ _ _ => rfl, fun y hy => (own_head hd hy).2⟩
  have hc' : w.cell? ⟨g, 0 + i * z + j, none⟩ = some c := hc
  let s' : St := ⟨s.tm, (K, .arr e' z' ys) :: (ky, .arr e z (xs.set i (E.set j (.v c)))) :: s.ob⟩
  -- where the part lies
  have hpart : ∀ y, y ∈ fp w (.own e' z' ys) c → y ∈ fpEs w z xs g 0 := by
    intro y hy
    obtain ⟨_, pre, post, q2, _⟩ := setEs (M' := (s.en w w0.arg β).M) (X := fun _ => False) ⟨Nat.le_refl _, fun _ _ _ => rfl, fun _ h => h.elim⟩ (fun _ _ => not_false) (fun _ h => .inl h) xs 0 i j E _ (.v c) hE hj
      (stObs_lk hso ho (by simp)) h6 hndE c hc' (fun _ h => h.elim) (by simp only [Rd]; exact ⟨trivial, hd.one⟩)
    rw [q2]; simp [hy]
  have hB : ∀ b, w0.arg b → ¬ X b := fun b hb hx => arg_not_mine hb (R.ge ky b (by rw [hfpe]; exact List.mem_cons_of_mem _ (hpart b (hXfp b hx))))
  have hlk : ∀ k, lk s'.ob k = if K = k then some (.arr e' z' ys) else if ky = k then some (.arr e z (xs.set i (E.set j (.v c)))) else lk s.ob k := by
    intro k; simp only [s', lk_cons]
  have hM : ∀ b, (s'.en w w0.arg (upd β K c)).M b → (s.en w w0.arg β).M b ∨ X b ∨ w.heap.size ≤ b := by
    rintro b ⟨k, o, hko, hl, hb⟩
    have hko' : lk s'.ob k = some o := hko
    have hb' : blk (upd β K c k) = some b := hb
    rw [hlk] at hko'
    by_cases e1 : K = k
    · subst e1; rw [upd_self] at hb'; exact .inr (.inl hb')
    · rw [if_neg e1] at hko'
      rw [upd_ne _ _ (Ne.symm e1)] at hb'
      by_cases e2 : ky = k
      · subst e2; exact .inl ⟨ky, _, ho, rfl, hb'⟩
      · rw [if_neg e2] at hko'; exact .inl ⟨k, o, hko', hl, hb'⟩
  have hstx : stOEs xs = true := stObs_lk hso ho (by simp)
  obtain ⟨q1, pre, post, q2, q3⟩ := setEs (M' := (s'.en w w0.arg (upd β K c)).M) hX hB hM xs 0 i j E _ (.v c) hE hj hstx h6 hndE c hc' hXfp (by simp only [Rd]; exact ⟨trivial, hd.one⟩)
  have hq3 : fpEs w z (xs.set i (E.set j (.v c))) g 0 = pre ++ post := by rw [q3]; simp [fp]
  rw [q2] at hgn hndE
  have hsome' : ∀ k, (lk s.ob k).isSome = true → (lk s'.ob k).isSome = true ∧ upd β K c k = β k := by
    intro k h
    have hne : K ≠ k := fun e => by subst e; rw [hKn] at h; cases h
    refine ⟨?_, upd_ne _ _ (Ne.symm hne)⟩
    rw [hlk, if_neg hne]
    split
    · rfl
    · exact h
  have hcst : ∀ cc v, stC cc = true → CRel (s.en w w0.arg β) cc v → CRel (s'.en w w0.arg (upd β K c)) cc v := fun cc v hs h =>
    CRel.st (en := s.en w w0.arg β) (en' := s'.en w w0.arg (upd β K c)) (X := X) hX hB rfl hM hsome' hs h
  have hndall : (pre ++ (fp w (.own e' z' ys) c ++ post)).Nodup := hndE
  obtain ⟨n1, n23, nd1⟩ := List.nodup_append.1 hndall
  obtain ⟨n2, n3, nd2⟩ := List.nodup_append.1 n23
  have hfpK : obFp (s'.en w w0.arg (upd β K c)) K = fp w (.own e' z' ys) c := by
    have : (s'.en w w0.arg (upd β K c)).ob K = some (.arr e' z' ys) := by show lk s'.ob K = _; rw [hlk, if_pos rfl]
    rw [obFp_arr this]; show fp w _ (upd β K c K) = _; rw [upd_self]
  have hfpky : obFp (s'.en w w0.arg (upd β K c)) ky = g :: (pre ++ post) := by
    have : (s'.en w w0.arg (upd β K c)).ob ky = some (.arr e z (xs.set i (E.set j (.v c)))) := by show lk s'.ob ky = _; rw [hlk, if_neg hKky, if_pos rfl]
    rw [obFp_arr this]; show fp w _ (upd β K c ky) = _
    rw [upd_ne _ _ (Ne.symm hKky), h1, fp_own_some, hq3]
  have hfpo2 : obFp (s.en w w0.arg β) ky = g :: (pre ++ (fp w (.own e' z' ys) c ++ post)) := by rw [hfpe, q2]
  have hold : ∀ k, K ≠ k → ky ≠ k → ∀ o, lk s.ob k = some o → ObRel (s'.en w w0.arg (upd β K c)) k o ∧ ((s'.en w w0.arg (upd β K c)).ob k = some o → obFp (s'.en w w0.arg (upd β K c)) k = obFp (s.en w w0.arg β) k) := by
    intro k e1 e2 o hko
    refine ObRel.st (en := s.en w w0.arg β) (en' := s'.en w w0.arg (upd β K c)) (X := X) hX hB rfl hM hcst (hsome' k (by rw [hko]; rfl)).2 hko (stObs_lk hso hko (by simp)) (fun b hb => ⟨obFp_lt (en := s.en w w0.arg β) (fun o ho => R.ob k o ho) b hb, fun hx => ?_⟩) (R.ob k o hko)
    exact R.dj k ky (Ne.symm e2) b hb (by rw [hfpe]; exact List.mem_cons_of_mem _ (hpart b (hXfp b hx)))
  have hcase : ∀ k, k = K ∨ k = ky ∨ (K ≠ k ∧ ky ≠ k ∧ obFp (s'.en w w0.arg (upd β K c)) k = obFp (s.en w w0.arg β) k) := by
    intro k
    by_cases e1 : K = k
    · exact .inl e1.symm
    · by_cases e2 : ky = k
      · exact .inr (.inl e2.symm)
      · refine .inr (.inr ⟨e1, e2, ?_⟩)
        have hkk : lk s'.ob k = lk s.ob k := by rw [hlk, if_neg e1, if_neg e2]
        cases hko : lk s.ob k with
        | none => simp [obFp, St.en, hko, hkk]
        | some o => exact (hold k e1 e2 o hko).2 (by show lk s'.ob k = _; rw [hkk, hko])
  have hsub : ∀ k, k = K ∨ k = ky → ∀ b ∈ obFp (s'.en w w0.arg (upd β K c)) k, b ∈ obFp (s.en w w0.arg β) ky := by
    rintro k (rfl | rfl) b hb
    · rw [hfpK] at hb; rw [hfpo2]; simp [hb]
    · rw [hfpky] at hb; rw [hfpo2]
      rcases List.mem_cons.1 hb with rfl | hb
      · simp
      · rcases List.mem_append.1 hb with hb | hb <;> simp [hb]
  have R' : Rel N w0 s' a w (upd β K c) := by
    refine ⟨R.sz, R.df, fun t f h => FVRel.st hcst f _ (stTm_lk hst h) (R.tm t f h), ?_, ?_, ?_, ?_, R.low, fun k c' hk => ?_⟩
    · intro k o hko
      have hko' : lk s'.ob k = some o := hko
      rw [hlk] at hko'
      by_cases e1 : K = k
      · subst e1
        rw [if_pos rfl] at hko'
        simp only [Option.some.injEq] at hko'; subst hko'
        show OwnRel w w0.arg _ e' z' ys (upd β K c K)
        rw [upd_self]
        have hd0 := hd
        simp only [Rd] at hd
        rcases hd with hd | ⟨b, cap', cur', hcv, g1, g2, g3, g4, g5, g6⟩
        · exact .inl hd
        · refine .inr ⟨b, cap', cur', hcv, g1, g3, g4, g5, RdEs.free ys 0 hf g6 fun y hy hMy => ?_⟩
          have hyF : y ∈ fp w (.own e' z' ys) c := by rw [hcv, fp_own_some]; exact List.mem_cons_of_mem _ hy
          obtain ⟨k', o', hk', hl', hb'⟩ := hMy
          have hk'' : lk s'.ob k' = some o' := hk'
          have hb'' : blk (upd β K c k') = some y := hb'
          rw [hlk] at hk''
          by_cases e1 : K = k'
          · subst e1
            rw [upd_self, hcv] at hb''
            simp [blk] at hb''; subst hb''
            rw [hcv, fp_own_some] at n2
            exact (List.nodup_cons.1 n2).1 hy
          · rw [upd_ne _ _ (Ne.symm e1)] at hb''
            by_cases e2 : ky = k'
            · subst e2
              rw [h1] at hb''
              simp [blk] at hb''; subst hb''
              exact hgn (by simp [hyF])
            · rw [if_neg e1, if_neg e2] at hk''
              exact R.dj k' ky (Ne.symm e2) y (R.live_block hk'' hl' hb'') (by rw [hfpo2]; simp [hyF])
      · rw [if_neg e1] at hko'
        by_cases e2 : ky = k
        · subst e2
          rw [if_pos rfl] at hko'
          simp only [Option.some.injEq] at hko'; subst hko'
          show OwnRel w w0.arg _ e z _ (upd β K c ky)
          rw [upd_ne _ _ (Ne.symm hKky)]
          refine .inr ⟨g, cap, cur, by rw [List.length_set]; exact h1, by rw [List.length_set]; exact h2, h3, h4, h5, q1⟩
        · rw [if_neg e2] at hko'
          exact (hold k e1 e2 o hko').1
    · intro k
      rcases hcase k with rfl | rfl | ⟨_, _, h⟩
      · rw [hfpK]; exact n2
      · rw [hfpky]
        refine List.nodup_cons.2 ⟨fun h => hgn ?_, List.nodup_append.2 ⟨n1, n3, fun x hx y hy => nd1 x hx y (by simp [hy])⟩⟩
        rcases List.mem_append.1 h with h | h <;> simp [h]
      · rw [h]; exact R.nd k
    · intro k k' hne b hb hb'
      rcases hcase k with hk | hk | ⟨e1, e2, h⟩
      · subst hk
        rcases hcase k' with hk' | hk' | ⟨e1', e2', h'⟩
        · exact hne hk'.symm
        · subst hk'
          rw [hfpK] at hb; rw [hfpky] at hb'
          rcases List.mem_cons.1 hb' with rfl | hb'
          · exact hgn (by simp [hb])
          · rcases List.mem_append.1 hb' with hb' | hb'
            · exact nd1 b hb' b (by simp [hb]) rfl
            · exact nd2 b hb b hb' rfl
        · rw [h'] at hb'
          exact R.dj k' ky (Ne.symm e2') b hb' (hsub k (.inl rfl) b hb)
      · subst hk
        rcases hcase k' with hk' | hk' | ⟨e1', e2', h'⟩
        · subst hk'
          rw [hfpky] at hb; rw [hfpK] at hb'
          rcases List.mem_cons.1 hb with rfl | hb
          · exact hgn (by simp [hb'])
          · rcases List.mem_append.1 hb with hb | hb
            · exact nd1 b hb b (by simp [hb']) rfl
            · exact nd2 b hb' b hb rfl
        · exact hne hk'.symm
        · rw [h'] at hb'
          exact R.dj k' k (Ne.symm e2') b hb' (hsub k (.inr rfl) b hb)
      · rw [h] at hb
        rcases hcase k' with hk' | hk' | ⟨e1', e2', h'⟩
        · exact R.dj k ky (Ne.symm e2) b hb (hsub k' (.inl hk') b hb')
        · exact R.dj k ky (Ne.symm e2) b hb (hsub k' (.inr hk') b hb')
        · rw [h'] at hb'; exact R.dj k k' hne b hb hb'
    · intro k b hb
      rcases hcase k with hk | hk | ⟨_, _, h⟩
      · exact R.ge ky b (hsub k (.inl hk) b hb)
      · exact R.ge ky b (hsub k (.inr hk) b hb)
      · rw [h] at hb; exact R.ge k b hb
    · obtain ⟨f1, f2⟩ := R.fx k c' hk
      exact ⟨(hsome' k f1).1, ((hsome' k f1).2).trans f2⟩
  have := R'.named (K := K) (by rw [hlk, if_pos rfl]; rfl)
  rw [upd_self] at this
  exact this

theorem Rel.in (R : Rel N w0 s a w β) {ky K i j e z e' z' : Nat} {xs ys : List (List D)} {E : List D} {c : Value} (hK : lk s.ob K = some (.arr e' z' ys)) (hc : β K = c) (ho : lk s.ob ky = some (.arr e z xs)) (hE : xs[i]? = some E) (hj : E[j]? = some (.v c))
    (hne : ky ≠ K) (hsx : stOEs xs = true) : Rel N w0 ⟨s.tm, (ky, .arr e z (xs.set i (E.set j (.own e' z' ys)))) :: (K, .dead) :: s.ob⟩ a w β := by
  let s' : St := ⟨s.tm, (ky, .arr e z (xs.set i (E.set j (.own e' z' ys)))) :: (K, .dead) :: s.ob⟩
  have hlk : ∀ k, lk s'.ob k = if ky = k then some (.arr e z (xs.set i (E.set j (.own e' z' ys)))) else if K = k then some .dead else lk s.ob k := by intro k; simp only [s', lk_cons]
  have hr : OwnRel w w0.arg (s.en w w0.arg β).M e z xs (β ky) := R.ob ky _ ho
  rcases hr with ⟨rfl, _⟩ | ⟨g, cap, cur, h1, h2, h3, h4, h5, h6⟩
  · simp at hE
  have hfpe : obFp (s.en w w0.arg β) ky = g :: fpEs w z xs g 0 := by rw [obFp_arr (en := s.en w w0.arg β) ho]; show fp w _ (β ky) = _; rw [h1, fp_own_some]
  have hfpK : obFp (s.en w w0.arg β) K = fp w (.own e' z' ys) c := by rw [obFp_arr (en := s.en w w0.arg β) hK]; show fp w _ (β K) = _; rw [hc]
  have hM : ∀ b, (s'.en w w0.arg β).M b → (s.en w w0.arg β).M b ∧ ∃ k, k ≠ K ∧ b ∈ obFp (s.en w w0.arg β) k := by
    rintro b ⟨k, o, hko, hl, hb⟩
    have hko' : lk s'.ob k = some o := hko
    have hb' : blk (β k) = some b := hb
    rw [hlk] at hko'
    split at hko'
    · rename_i e1; subst e1
      exact ⟨⟨ky, _, ho, rfl, hb'⟩, ky, hne, R.live_block ho rfl hb'⟩
    · split at hko'
      · simp only [Option.some.injEq] at hko'; subst hko'; simp [Ob.live] at hl
      · rename_i e1 e2; exact ⟨⟨k, o, hko', hl, hb'⟩, k, Ne.symm e2, R.live_block hko' hl hb'⟩
  have S : Step (s.en w w0.arg β) (s'.en w w0.arg β) := by
    refine ⟨rfl, ⟨Nat.le_refl _, fun _ _ _ => rfl, fun b hb => .inl (hM b hb).1⟩, fun k hk => ⟨?_, rfl⟩⟩
    show (lk s'.ob k).isSome = true
    rw [hlk]
    split
    · rfl
    · split
      · rfl
      · exact hk
  obtain ⟨_, hEr⟩ := RdEs.get i xs 0 E h6 hE
  obtain ⟨c', hcell, hcv⟩ := getCs hEr hj
  have hcc : c' = c := by simp only [Rd] at hcv; exact hcv.1
  subst hcc
  have hown : Rd w w0.arg (s'.en w w0.arg β).M (.own e' z' ys) c' := by
    have hr : OwnRel w w0.arg (s.en w w0.arg β).M e' z' ys (β K) := R.ob K _ hK
    rw [hc] at hr
    simp only [Rd]
    rcases hr with hr | ⟨b, cap', cur', g1, g2, g3, g4, g5, g6⟩
    · exact .inl hr
    · refine .inr ⟨b, cap', cur', g1, g2, fun hm => ?_, g3, g4, g5, RdEs.keep ⟨Nat.le_refl _, fun _ _ _ => rfl, fun b hb => .inl (hM b hb).1⟩ (fun _ => rfl) ys 0 g6⟩
      obtain ⟨_, k, hk, hbk⟩ := hM b hm
      exact R.dj k K hk b hbk (by rw [hfpK, g1, fp_own_some]; exact List.mem_cons_self ..)
  have hndk : (g :: fpEs w z xs g 0).Nodup := hfpe ▸ R.nd ky
  obtain ⟨hgn, hndE⟩ := List.nodup_cons.1 hndk
  obtain ⟨q1, pre, post, q2, q3⟩ := setEs (B := w0.arg) (M := (s.en w w0.arg β).M) (M' := (s'.en w w0.arg β).M) (X := fun _ => False) ⟨Nat.le_refl _, fun _ _ _ => rfl, fun _ h => h.elim⟩ (fun _ _ => not_false) (fun b hb => .inl (hM b hb).1) xs 0 i j E (.v c') (.own e' z' ys) hE hj hsx h6 hndE c' hcell (fun _ h => h.elim) hown
  have hq2 : fpEs w z xs g 0 = pre ++ post := by rw [q2]; simp [fp]
  have hfpn : obFp (s'.en w w0.arg β) ky = g :: (pre ++ (fp w (.own e' z' ys) c' ++ post)) := by
    have : (s'.en w w0.arg β).ob ky = some (.arr e z (xs.set i (E.set j (.own e' z' ys)))) := by show lk s'.ob ky = _; rw [hlk, if_pos rfl]
    rw [obFp_arr this]; show fp w _ (β ky) = _; rw [h1, fp_own_some, q3]
  have hfpd : obFp (s'.en w w0.arg β) K = [] := obFp_dead (en := s'.en w w0.arg β) (by show lk s'.ob K = _; rw [hlk, if_neg hne, if_pos rfl])
  rw [hq2] at hgn hndE
  obtain ⟨n1, n2, n3⟩ := List.nodup_append.1 hndE
  have hfpe2 : obFp (s.en w w0.arg β) ky = g :: (pre ++ post) := by rw [hfpe, hq2]
  have hdj : ∀ b, b ∈ fp w (.own e' z' ys) c' → b ∉ g :: (pre ++ post) := fun b hb hb' => R.dj K ky (Ne.symm hne) b (by rw [hfpK]; exact hb) (by rw [hfpe2]; exact hb')
  refine R.update S (Low.refl _ _) [ky, K] ?_ ?_ ?_ ?_ R.sz R.df (R.tm_step rfl S)
  · intro k hk
    simp only [List.mem_cons, List.not_mem_nil, or_false, not_or] at hk
    exact ⟨by show lk s'.ob k = _; rw [hlk, if_neg (Ne.symm hk.1), if_neg (Ne.symm hk.2)], fun _ _ _ _ _ => rfl⟩
  · intro k hk o hko
    have hko' : lk s'.ob k = some o := hko
    rw [hlk] at hko'
    simp only [List.mem_cons, List.not_mem_nil, or_false] at hk
    rcases hk with rfl | rfl
    · rw [if_pos rfl] at hko'
      simp only [Option.some.injEq] at hko'; subst hko'
      exact .inr ⟨g, cap, cur, by rw [List.length_set]; exact h1, by rw [List.length_set]; exact h2, h3, h4, h5, q1⟩
    · rw [if_neg hne, if_pos rfl] at hko'
      simp only [Option.some.injEq] at hko'; subst hko'; trivial
  · intro k hk
    simp only [List.mem_cons, List.not_mem_nil, or_false] at hk
    rcases hk with rfl | rfl
    · rw [hfpn]
      have hFn : (fp w (.own e' z' ys) c').Nodup := hfpK ▸ R.nd K
      refine List.nodup_cons.2 ⟨fun h => ?_, List.nodup_append.2 ⟨n1, List.nodup_append.2 ⟨hFn, n2, fun x hx y hy e => hdj x hx (by subst e; simp [hy])⟩, fun x hx y hy e => ?_⟩⟩
      · rcases List.mem_append.1 h with h | h
        · exact hgn (by simp [h])
        · rcases List.mem_append.1 h with h | h
          · exact hdj g h (by simp)
          · exact hgn (by simp [h])
      · subst e
        rcases List.mem_append.1 hy with hy | hy
        · exact hdj x hy (by simp [hx])
        · exact n3 x hx x hy rfl
    · rw [hfpd]; exact List.nodup_nil
  · intro k hk b hb
    simp only [List.mem_cons, List.not_mem_nil, or_false] at hk
    rcases hk with rfl | rfl
    · rw [hfpn] at hb
      have hbb : b ∈ obFp (s.en w w0.arg β) k ∨ b ∈ obFp (s.en w w0.arg β) K := by
        rw [hfpe2, hfpK]
        rcases List.mem_cons.1 hb with rfl | hb
        · simp
        · rcases List.mem_append.1 hb with hb | hb
          · simp [hb]
          · rcases List.mem_append.1 hb with hb | hb <;> simp [hb]
      refine ⟨hbb.elim (R.ge _ b) (R.ge _ b), fun k' hk' hm => ?_, fun k' hk' hne' hm => ?_⟩
      · simp only [List.mem_cons, List.not_mem_nil, or_false, not_or] at hk'
        exact hbb.elim (fun h => R.dj k k' (Ne.symm hk'.1) b h hm) (fun h => R.dj K k' (Ne.symm hk'.2) b h hm)
      · simp only [List.mem_cons, List.not_mem_nil, or_false] at hk'
        rcases hk' with rfl | rfl
        · exact hne' rfl
        · rw [hfpd] at hm; cases hm
    · rw [hfpd] at hb; cases hb

/-! ### the two steps in the code -/

theorem J.out {F : Fn} {r : Res} {fn : Func} {k : List It} {ky K i j e z e' z' : Nat} {xs ys : List (List D)} {E : List D} (hw : w0.ok64) (ho : lk s.ob ky = some (.arr e z xs)) (hE : xs[i]? = some E) (hj : E[j]? = some (.own e' z' ys)) (hf : freshEs ys = true)
    (hKn : lk s.ob K = none) (h64 : 64 ≤ K) (hK : ∀ p ∈ r.outs, p.1 ≠ K) (hst : stTm s.tm = true) (hso : stObs [] s.ob = true)
    (h : ∀ c, J F.P F.N (w0.named K c) (F.post (w0.named K c) r fn) k ⟨s.tm, (K, .arr e' z' ys) :: (ky, .arr e z (xs.set i (E.set j (.v c)))) :: s.ob⟩) : J F.P F.N w0 (F.post w0 r fn) k s := by
  intro a w β R
  have hf0 : w0.fix K = none := by
    cases hf : w0.fix K with
    | none => rfl
    | some c => have := hw K c hf; omega
  obtain ⟨c, R'⟩ := R.out ho hE hj hf hKn hst hso
  exact cont_weaken (fun e a w h => post_named hK h) (fun s a w β h => Rel.unnamed hf0 h) k .normal a w (h c a w _ R')

theorem J.in {Q : Exit → Act → World → Prop} {k : List It} {ky K i j e z e' z' : Nat} {xs ys : List (List D)} {E : List D} {c : Value} (hK : lk s.ob K = some (.arr e' z' ys)) (ho : lk s.ob ky = some (.arr e z xs)) (hE : xs[i]? = some E) (hj : E[j]? = some (.v c))
    (hne : ky ≠ K) (hsx : stOEs xs = true) (h : J P N (w0.named K c) Q k ⟨s.tm, (ky, .arr e z (xs.set i (E.set j (.own e' z' ys)))) :: (K, .dead) :: s.ob⟩) : J P N (w0.named K c) Q k s := by
  intro a w β R
  have hc : β K = c := (R.fx K c (by show (if K = K then some c else w0.fix K) = some c; rw [if_pos rfl])).2
  exact h a w β (R.in hK hc ho hE hj hne hsx)

/-- A handle with a name, as an argument. -/
theorem CallW.name {Q : Exit → Act → World → Prop} {k : List It} {d f K : Nat} {c : Value} {fs : List FV} (hK : (lk s.ob K).isSome = true) (h : CallW P N (w0.named K c) Q k s d f (.c (.ob K) :: fs)) : CallW P N (w0.named K c) Q k s d f (.c (.d (.v c)) :: fs) := by
  refine ⟨h.1, fun a w β R vs hv => h.2 a w β R vs ?_⟩
  obtain ⟨v, q, rfl, h1, h2⟩ := hv
  have hc : β K = c := (R.fx K c (by show (if K = K then some c else w0.fix K) = some c; rw [if_pos rfl])).2
  simp only [FVRel, CRel, Rd] at h1
  exact ⟨v, q, rfl, by simp only [FVRel, CRel]; exact ⟨hK, h1.2.2.1.trans hc.symm, h1.2.1⟩, h2⟩

end Go.Sm
