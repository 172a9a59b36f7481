/- Literals of slices that take arrays of one's own in. -/
import Derived.Test.YtihinogdolhjcaaSnD
namespace Go.Sm
open Go.RowKit

variable {P : Program} {N : Nat} {w0 : Base} {s : St} {a : Act} {w w' : World} {β : Nat → Value}

/-- A cell that goes into the new array: data, or an array whose key is given up. -/
def MvR (en : En) (ks : List Nat) : D → Value → Prop
  | .own e z xs, u => ∃ K ∈ ks, en.ob K = some (.arr e z xs) ∧ u = en.β K
  | x, u => Rd en.w en.B en.M x u

theorem Rel.addArrG (R : Rel N w0 s a w β) {k e z cap : Nat} {es : List (List D)} {vs : List Value} {cur : Array Value} {ks : List Nat} (hk : lk s.ob k = none) (hkn : ks.Nodup) (hks : ∀ K ∈ ks, (lk s.ob K).isSome = true)
    (hv : EsV (MvR (s.en w w0.arg β) ks) z es vs) (hfp : fpVs w z es vs = ks.flatMap (obFp (s.en w w0.arg β)))
    (h1 : es.length ≤ cap) (h2 : cap ≤ maxLen) (h3 : cur.size = cap * z) (hc : cur.toList.take (es.length * z) = vs) :
    Rel N w0 ⟨s.tm, (k, .arr e z es) :: (deads ks ++ s.ob)⟩ a (w.alloc (.cells cur e)) (upd β k (.slice (some ⟨w.heap.size, 0, none⟩) es.length cap)) := by
  let s' : St := ⟨s.tm, (k, .arr e z es) :: (deads ks ++ s.ob)⟩
  let β' := upd β k (.slice (some ⟨w.heap.size, 0, none⟩) es.length cap)
  have hkk : k ∉ ks := fun h => by have := hks k h; rw [hk] at this; cases this
  have hlk : ∀ j, lk s'.ob j = if k = j then some (.arr e z es) else if j ∈ ks then some .dead else lk s.ob j := by
    intro j; simp only [s', lk_cons, deads_lk]
  have hM : ∀ b, (s'.en (w.alloc (.cells cur e)) w0.arg β').M b → b = w.heap.size ∨ ((s.en w w0.arg β).M b ∧ ∃ j, j ∉ ks ∧ b ∈ obFp (s.en w w0.arg β) j) := by
    rintro b ⟨j, o, ho, hl, hb⟩
    have ho' : lk s'.ob j = some o := ho
    have hb' : blk (upd β k (.slice (some ⟨w.heap.size, 0, none⟩) es.length cap) j) = some b := hb
    rw [hlk] at ho'
    by_cases e1 : k = j
    · subst e1; rw [upd_self] at hb'; simp [blk] at hb'; exact .inl hb'.symm
    · rw [if_neg e1] at ho'
      rw [upd_ne _ _ (Ne.symm e1)] at hb'
      by_cases e2 : j ∈ ks
      · rw [if_pos e2] at ho'; simp only [Option.some.injEq] at ho'; subst ho'; simp [Ob.live] at hl
      · rw [if_neg e2] at ho'
        exact .inr ⟨⟨j, o, ho', hl, hb'⟩, j, e2, R.live_block ho' hl hb'⟩
  have hlt : ∀ j, ∀ b ∈ obFp (s.en w w0.arg β) j, b < w.heap.size := fun j => obFp_lt (en := s.en w w0.arg β) fun o ho => R.ob j o ho
  have hmem : ∀ b, (s'.en (w.alloc (.cells cur e)) w0.arg β').M b → (s.en w w0.arg β).M b ∨ w.heap.size ≤ b := fun b hb => (hM b hb).elim (fun h => .inr (by omega)) (fun h => .inl h.1)
  have S : Step (s.en w w0.arg β) (s'.en (w.alloc (.cells cur e)) w0.arg β') := by
    refine ⟨rfl, ⟨by simp [St.en], fun b hb _ => heap_alloc_old w _ b hb, hmem⟩, fun j hj => ?_⟩
    have hne : k ≠ j := fun e1 => by subst e1; have hj' : (lk s.ob k).isSome = true := hj; rw [hk] at hj'; cases hj'
    refine ⟨?_, upd_ne _ _ (Ne.symm hne)⟩
    show (lk s'.ob j).isSome = true
    rw [hlk, if_neg hne]
    split
    · rfl
    · exact hj
  have K0 : Keeps w w (s.en w w0.arg β).M (s'.en (w.alloc (.cells cur e)) w0.arg β').M → True := fun _ => trivial
  -- in the old world, what goes in reads well
  have hv' : EsV (Rd (w.alloc (.cells cur e)) w0.arg (s'.en (w.alloc (.cells cur e)) w0.arg β').M) z es vs := by
    refine hv.mono fun x u h => ?_
    cases x with
    | own e' z' xs =>
      obtain ⟨K, hKs, hKo, rfl⟩ := h
      have hr : OwnRel w w0.arg (s.en w w0.arg β).M e' z' xs (β K) := R.ob K _ hKo
      have hfpK := obFp_arr hKo
      have hr2 : OwnRel (w.alloc (.cells cur e)) w0.arg (s'.en (w.alloc (.cells cur e)) w0.arg β').M e' z' xs (β K) :=
        OwnRel.step S.K (fun b hb => heap_alloc_old w _ b (hlt K b (R.live_block hKo rfl hb))) hr
      show Rd _ _ _ _ (β K)
      simp only [Rd]
      rcases hr2 with hr2 | ⟨b, cap', cur', g1, g2, g3, g4, g5, g6⟩
      · exact .inl hr2
      · refine .inr ⟨b, cap', cur', g1, g2, fun hm => ?_, g3, g4, g5, g6⟩
        have hbK : b ∈ obFp (s.en w w0.arg β) K := R.live_block hKo rfl (by rw [g1]; rfl)
        rcases hM b hm with rfl | ⟨_, j, hj, hbj⟩
        · exact Nat.lt_irrefl _ (hlt K _ hbK)
        · exact R.dj K j (fun e => hj (e ▸ hKs)) b hbK hbj
    | v y => exact Rd.keep S.K (.v y) u h
    | vw b z' xs => exact Rd.keep S.K (.vw b z' xs) u h
    | mp xs => exact Rd.keep S.K (.mp xs) u h
  have hcell : ∀ (j : Nat) (u : Value), vs[j]? = some u → (w.alloc (.cells cur e)).cell? ⟨w.heap.size, 0 + j, none⟩ = some u := by
    intro j u hj
    rw [Nat.zero_add, World.cell?_alloc_new]
    rw [← hc, List.getElem?_take] at hj
    split at hj
    · simpa using hj
    · cases hj
  have hvM : EsV (Rd w w0.arg fun _ => False) z es vs := by
    refine hv.mono fun x u h => ?_
    have KF : Keeps w w (s.en w w0.arg β).M (fun _ => False) := ⟨Nat.le_refl _, fun _ _ _ => rfl, fun _ h => h.elim⟩
    cases x with
    | own e' z' xs =>
      obtain ⟨K, hKs, hKo, rfl⟩ := h
      have hr : OwnRel w w0.arg (s.en w w0.arg β).M e' z' xs (β K) := R.ob K _ hKo
      show Rd _ _ _ _ (β K)
      simp only [Rd]
      rcases hr with hr | ⟨b, cap', cur', g1, g2, g3, g4, g5, g6⟩
      · exact .inl hr
      · exact .inr ⟨b, cap', cur', g1, g2, not_false, g3, g4, g5, RdEs.keep KF (fun _ => rfl) xs 0 g6⟩
    | v y => exact Rd.keep KF (.v y) u h
    | vw b z' xs => exact Rd.keep KF (.vw b z' xs) u h
    | mp xs => exact Rd.keep KF (.mp xs) u h
  have hfpn : obFp (s'.en (w.alloc (.cells cur e)) w0.arg β') k = w.heap.size :: ks.flatMap (obFp (s.en w w0.arg β)) := by
    have : (s'.en (w.alloc (.cells cur e)) w0.arg β').ob k = some (.arr e z es) := by show lk s'.ob k = _; rw [hlk, if_pos rfl]
    rw [obFp_arr this]
    show fp _ _ (upd β k _ k) = _
    rw [upd_self, fp_own_some]
    show w.heap.size :: fpEs (w.alloc (.cells cur e)) z es w.heap.size 0 = _
    rw [fpEs_vals es vs 0 hv hcell, fpVs_keep (w := w) (B := w0.arg) (M := fun _ => False) (M' := fun _ => False) ⟨by simp, fun b hb _ => heap_alloc_old w _ b hb, fun _ h => h.elim⟩ hvM, hfp]
  have hfpd : ∀ j ∈ ks, obFp (s'.en (w.alloc (.cells cur e)) w0.arg β') j = [] := fun j hj =>
    obFp_dead (en := s'.en (w.alloc (.cells cur e)) w0.arg β') (by show lk s'.ob j = _; rw [hlk, if_neg (fun e1 : k = j => hkk (e1 ▸ hj)), if_pos hj])
  refine R.update S (Low.of ((Bel.refl _ _).alloc R.base_le _)) (k :: ks) ?_ ?_ ?_ ?_ R.sz R.df (R.tm_step rfl S)
  · intro j hj
    simp only [List.mem_cons, not_or] at hj
    refine ⟨by show lk s'.ob j = _; rw [hlk, if_neg (Ne.symm hj.1), if_neg hj.2], fun o ho hl b hb => heap_alloc_old w _ b (hlt j b (R.live_block ho hl hb))⟩
  · intro j hj o ho
    have ho' : lk s'.ob j = some o := ho
    rw [hlk] at ho'
    rcases List.mem_cons.1 hj with rfl | hj
    · rw [if_pos rfl] at ho'
      simp only [Option.some.injEq] at ho'; subst ho'
      refine .inr ⟨w.heap.size, cap, cur, by show upd β j _ j = _; rw [upd_self], h1, heap_alloc_new w _, h2, h3, RdEs.ofV hv' hcell⟩
    · rw [if_neg (fun e1 : k = j => hkk (e1 ▸ hj)), if_pos hj] at ho'
      simp only [Option.some.injEq] at ho'; subst ho'; trivial
  · intro j hj
    rcases List.mem_cons.1 hj with rfl | hj
    · rw [hfpn]
      refine List.nodup_cons.2 ⟨fun h => ?_, nodup_obFp R hkn⟩
      obtain ⟨K, _, hb⟩ := List.mem_flatMap.1 h
      exact Nat.lt_irrefl _ (hlt K _ hb)
    · rw [hfpd j hj]; exact List.nodup_nil
  · intro j hj b hb
    rcases List.mem_cons.1 hj with rfl | hj
    · rw [hfpn] at hb
      rcases List.mem_cons.1 hb with rfl | hb
      · refine ⟨.inl R.base_le, fun j' _ hm => Nat.lt_irrefl _ (hlt j' _ hm), fun j' hj' hne hm => ?_⟩
        rcases List.mem_cons.1 hj' with rfl | hj'
        · exact hne rfl
        · rw [hfpd j' hj'] at hm; cases hm
      · obtain ⟨K, hK, hbK⟩ := List.mem_flatMap.1 hb
        refine ⟨R.ge K b hbK, fun j' hj' hm => ?_, fun j' hj' hne hm => ?_⟩
        · simp only [List.mem_cons, not_or] at hj'
          exact R.dj K j' (fun e1 => hj'.2 (e1 ▸ hK)) b hbK hm
        · rcases List.mem_cons.1 hj' with rfl | hj'
          · exact hne rfl
          · rw [hfpd j' hj'] at hm; cases hm
    · rw [hfpd j hj] at hb; cases hb

/-! ### the literal -/

def mvCs (ob : Nat → Option Ob) : List C → Option (List D × List Nat)
  | [] => some ([], [])
  | .d x :: r => match mvCs ob r with
    | some (e, ks) => some (x :: e, ks)
    | none => none
  | .ob K :: r => match ob K, mvCs ob r with
    | some (.arr e z xs), some (es, ks) => some (.own e z xs :: es, K :: ks)
    | _, _ => none
  | _ => none
def mvEs (ob : Nat → Option Ob) (z : Nat) : Nat → List (Nat × List C) → Option (List (List D) × List Nat)
  | _, [] => some ([], [])
  | i, (j, cs) :: r => match Nat.beq i j && Nat.beq cs.length z, mvCs ob cs, mvEs ob z (i + 1) r with
    | true, some (e, ks), some (es, ks') => some (e :: es, ks ++ ks')
    | _, _, _ => none

theorem MvR.more {en : En} {ks ks' : List Nat} (h : ∀ k ∈ ks, k ∈ ks') {x : D} {u : Value} (hx : MvR en ks x u) : MvR en ks' x u := by
  cases x with
  | own e z xs => obtain ⟨K, h1, h2⟩ := hx; exact ⟨K, h K h1, h2⟩
  | _ => exact hx

theorem mvCs_rel (R : Rel N w0 s a w β) : ∀ {cs : List C} {vs : List Value} {ds : List D} {ks : List Nat}, CsRel (s.en w w0.arg β) cs vs → mvCs (lk s.ob) cs = some (ds, ks) →
    DsV (MvR (s.en w w0.arg β) ks) ds vs ∧ fpDs w ds vs = ks.flatMap (obFp (s.en w w0.arg β)) ∧ (∀ K ∈ ks, (lk s.ob K).isSome = true)
  | [], [], ds, ks, _, h => by simp [mvCs] at h; obtain ⟨rfl, rfl⟩ := h; exact ⟨rfl, rfl, fun _ h => nomatch h⟩
  | [], _ :: _, _, _, h, _ => h.elim
  | _ :: _, [], _, _, h, _ => h.elim
  | c :: cs, v :: vs, ds, ks, hr, h => by
    cases c with
    | d x =>
      simp only [mvCs] at h
      split at h
      · rename_i e ks' he
        simp only [Option.some.injEq, Prod.mk.injEq] at h
        obtain ⟨rfl, rfl⟩ := h
        obtain ⟨h1, h2, h3⟩ := mvCs_rel R hr.2 he
        obtain ⟨q1, q2, q3⟩ := hr.1
        refine ⟨⟨v, vs, rfl, ?_, h1⟩, ?_, h3⟩
        · cases x <;> first | exact q3 | simp [D.isOwn] at q1
        · simp only [fpDs, List.headD_cons, List.tail_cons, h2]
          cases x <;> first | (simp [D.isOwn] at q1; done) | simp [fp]
      · cases h
    | ob K =>
      simp only [mvCs] at h
      split at h
      · rename_i e z xs es ks' hK he
        simp only [Option.some.injEq, Prod.mk.injEq] at h
        obtain ⟨rfl, rfl⟩ := h
        obtain ⟨h1, h2, h3⟩ := mvCs_rel R hr.2 he
        obtain ⟨_, q2, _⟩ := hr.1
        refine ⟨⟨v, vs, rfl, ⟨K, List.mem_cons_self .., hK, q2⟩, h1.mono fun x u hx => MvR.more (fun k hk => List.mem_cons_of_mem _ hk) hx⟩, ?_, ?_⟩
        · simp only [fpDs, List.headD_cons, List.tail_cons, h2, List.flatMap_cons]
          rw [obFp_arr (en := s.en w w0.arg β) hK]
          show fp w _ v ++ _ = fp w _ (β K) ++ _
          rw [q2]; rfl
        · intro k hk
          rcases List.mem_cons.1 hk with rfl | hk
          · rw [hK]; rfl
          · exact h3 k hk
      · cases h
    | _ => simp [mvCs] at h

theorem mvEs_rel (R : Rel N w0 s a w β) {z : Nat} : ∀ {ps : List (Nat × List C)} {qs : List (Nat × Value)} {i : Nat} {es : List (List D)} {ks : List Nat}, PartsRel (s.en w w0.arg β) ps qs → mvEs (lk s.ob) z i ps = some (es, ks) →
    EsV (MvR (s.en w w0.arg β) ks) z es (qs.flatMap fun q => q.2.cells.toList) ∧ fpVs w z es (qs.flatMap fun q => q.2.cells.toList) = ks.flatMap (obFp (s.en w w0.arg β)) ∧ (∀ K ∈ ks, (lk s.ob K).isSome = true) ∧ es.length = qs.length ∧
      (∀ (j : Nat) (q : Nat × Value), qs[j]? = some q → q.1 = i + j ∧ q.2.cells.size = z)
  | [], [], i, es, ks, _, h => by simp [mvEs] at h; obtain ⟨rfl, rfl⟩ := h; exact ⟨rfl, rfl, fun _ h => (nomatch h), rfl, fun j q h => by simp at h⟩
  | [], _ :: _, _, _, _, hp, _ => by simp [PartsRel] at hp
  | _ :: _, [], _, _, _, hp, _ => by simp [PartsRel] at hp
  | (j, cs) :: ps, (j', v) :: qs, i, es, ks, hp, h => by
    obtain ⟨rfl, hv, hp⟩ := hp
    simp only [mvEs] at h
    split at h
    · rename_i e k1 es' k2 hb hd he
      simp only [Option.some.injEq, Prod.mk.injEq] at h
      obtain ⟨rfl, rfl⟩ := h
      simp only [Bool.and_eq_true] at hb
      obtain rfl := nat_beq hb.1
      have hz := nat_beq hb.2
      obtain ⟨h1, h2, h3⟩ := mvCs_rel R hv hd
      obtain ⟨g1, g2, g3, g4, g5⟩ := mvEs_rel R hp he
      have hl := hv.length
      have hl1 := h1.length
      simp only [Array.length_toList] at hl hl1
      refine ⟨⟨v.cells.toList, _, by simp, by omega, h1.mono fun x u hx => MvR.more (fun k hk => List.mem_append_left _ hk) hx, g1.mono fun x u hx => MvR.more (fun k hk => List.mem_append_right _ hk) hx⟩, ?_, ?_, by simp [g4], ?_⟩
      · have e1 : (List.flatMap (fun q => q.2.cells.toList) ((i, v) :: qs)) = v.cells.toList ++ List.flatMap (fun (q : Nat × Value) => q.2.cells.toList) qs := by simp
        rw [e1]
        simp only [fpVs]
        rw [show (v.cells.toList ++ List.flatMap (fun (q : Nat × Value) => q.2.cells.toList) qs).drop z = List.flatMap (fun (q : Nat × Value) => q.2.cells.toList) qs by
          rw [List.drop_append_of_le_length (by simp; omega), List.drop_of_length_le (by simp; omega), List.nil_append], g2, List.flatMap_append, ← h2]
        congr 1
        have : ∀ (ds : List D) (us rest : List Value), us.length = ds.length → fpDs w ds (us ++ rest) = fpDs w ds us := by
          intro ds
          induction ds with
          | nil => intro us rest _; rfl
          | cons d ds ih =>
            intro us rest hl
            cases us with
            | nil => simp at hl
            | cons u us => simp only [fpDs, List.cons_append, List.headD_cons, List.tail_cons]; rw [ih us rest (by simpa using hl)]
        exact this _ _ _ (by simp; omega)
      · intro K hK
        rcases List.mem_append.1 hK with h | h
        · exact h3 K h
        · exact g3 K h
      · intro k q hq
        cases k with
        | zero => simp at hq; subst hq; exact ⟨rfl, by show v.cells.size = z; omega⟩
        | succ k =>
          obtain ⟨a1, a2⟩ := g5 k q (by simpa using hq)
          exact ⟨by omega, a2⟩
    · cases h

theorem BsW.move {F : Fn} (hF : FnOk F) {Q : Exit → Act → World → Prop} {k : List It} {d t len e : Nat} {qs : List (Nat × List C)} {ti te : TI} {es : List (List D)} {ks : List Nat} (hd : d < F.N) (hti : lk F.T t = some ti) (hk : ti.k = .sl e) (hte : lk F.T e = some te)
    (hm : mvEs (lk s.ob) te.size 0 qs = some (es, ks)) (hn : nodupB ks = true) (hl : qs.length = len) (hb : len * te.size ≤ 16777216) (hb2 : len ≤ 16777216) (hfr : lk s.ob (d * 64) = none)
    (hj : J F.P F.N w0 Q k ⟨(d, .c (.ob (d * 64))) :: s.tm, (d * 64, .arr e te.size es) :: (deads ks ++ s.ob)⟩) : BsW F.P F.N w0 Q k s d t len qs := by
  intro a w β R vs hp
  have hT := hF.T
  have hu := (hT t ti hti).sl hk
  have hty := hT e te hte
  obtain ⟨h1, h2, h3, h4, h5⟩ := mvEs_rel R hp hm
  have hpl := hp.length
  obtain ⟨z, hz, hzc⟩ := hty.zeroValue w
  have hzs : z.cells.size = te.size := by have := congrArg List.length hzc; simpa [hty.zlen] using this
  have hinit : ∀ cells : Array Value, cells.size = len * te.size → ∃ out, Instr.fill (fun i => some (i * te.size, te.size)) cells vs = some out ∧ out.toList = vs.flatMap (fun q => q.2.cells.toList) := by
    intro cells hc
    obtain ⟨out, ho, hr⟩ := fill_all vs 0 cells (fun j q hq => h5 j q hq) (by rw [hc]; congr 1; omega)
    exact ⟨out, ho, by simpa using hr⟩
  have hEl := h1.length
  have hbig : len ≤ maxLen := by simp only [maxLen]; omega
  obtain ⟨out, ho, hr⟩ := hinit (if len * te.size = 0 then #[] else (Array.range (len * te.size)).map (z.cells[· % z.cells.size]!)) (by split <;> simp_all)
  have hos : out.size = len * te.size := by
    have := congrArg List.length hr
    simp only [Array.length_toList] at this
    rw [this, hEl, h4]; congr 1; omega
  have R' := R.addArrG (k := d * 64) (e := e) (cap := len) (cur := out) hfr (nodupB_iff hn) h3 h1 h2 (by omega) hbig hos (by rw [hr]; exact List.take_of_length_le (by rw [hEl]; exact Nat.le_refl _))
  have hel : es.length = len := by omega
  rw [hel] at R'
  refine ⟨.slice (some ⟨w.heap.size, 0, none⟩) len len, w.alloc (.cells out e), _, _, ?_, R'.setTm hd ?_, hj⟩
  · have hno : ¬ (len * te.size > 2 ^ 24) := by
      have : (2:Nat) ^ 24 = 16777216 := by decide
      omega
    by_cases h0 : len * te.size = 0
    · rw [if_pos h0] at ho
      simp [Instr.buildSlice, run_underlying hu, hty.sizeOf, h0, ho, newRow, Array.range_zero']
    · rw [if_neg h0] at ho
      simp [Instr.buildSlice, run_underlying hu, hty.sizeOf, hno, h0, hz, ho, newRow]
  · simp only [FVRel]
    exact ⟨by simp [St.en], by simp [St.en, upd_self], rfl⟩

attribute [simp] mvCs mvEs

end Go.Sm
