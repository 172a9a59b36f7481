/- Calls that change arguments: the world behind them. -/
import Derived.Test.YtihinogdolhjcaaSmZ
namespace Go.Sm
open Go.RowKit

variable {P : Program} {N : Nat} {w0 : Base} {s : St} {a : Act} {w w' : World} {β : Nat → Value}

def stC : C → Bool
  | .d x => stA x
  | .rd _ => false
  | _ => true
mutual
def stF : FV → Bool
  | .c x => stC x
  | .g xs => xs.all stC
  | .t xs => stFs xs
  | .und => true
def stFs : List FV → Bool
  | [] => true
  | x :: xs => stF x && stFs xs
end
def stOb : Ob → Bool
  | .dead => true
  | .var cs => cs.all stC
  | .arr _ _ xs => stOEs xs
  | .mp _ => true
  | .it _ _ _ => true
def stTm : List (Nat × FV) → Bool
  | [] => true
  | (_, f) :: r => stF f && stTm r
def stObs (ks : List Nat) : List (Nat × Ob) → Bool
  | [] => true
  | (k, o) :: r => (ks.elem k || stOb o) && stObs ks r
def keysOk (ob : Nat → Option Ob) : List Nat → Bool
  | [] => true
  | k :: r => (match ob k with | some (.arr _ _ _) => true | _ => false) && keysOk ob r
def keyAt (cs : List C) (i : Nat) : Nat := match cs[i]? with
  | some (.ob k) => k
  | _ => 0
def outObs (cs : List C) : List (Nat × D) → List (Nat × Ob)
  | [] => []
  | (i, .own e z xs) :: r => (keyAt cs i, .arr e z xs) :: outObs cs r
  | _ :: r => outObs cs r
def deads : List Nat → List (Nat × Ob)
  | [] => []
  | k :: r => (k, .dead) :: deads r

theorem stTm_lk : ∀ {l : List (Nat × FV)} {t : Nat} {f : FV}, stTm l = true → lk l t = some f → stF f = true
  | [], _, _, _, h => by simp [lk] at h
  | (x, g) :: l, t, f, hs, h => by
    simp only [stTm, Bool.and_eq_true] at hs
    simp only [lk_cons] at h
    split at h
    · simp only [Option.some.injEq] at h; subst h; exact hs.1
    · exact stTm_lk hs.2 h
theorem stObs_lk {ks : List Nat} : ∀ {l : List (Nat × Ob)} {k : Nat} {o : Ob}, stObs ks l = true → lk l k = some o → k ∉ ks → stOb o = true
  | [], _, _, _, h, _ => by simp [lk] at h
  | (x, g) :: l, t, f, hs, h, hn => by
    simp only [stObs, Bool.and_eq_true, Bool.or_eq_true] at hs
    simp only [lk_cons] at h
    split at h
    · rename_i e; subst e
      simp only [Option.some.injEq] at h; subst h
      exact hs.1.resolve_left fun h => hn (elem_iff.1 h)
    · exact stObs_lk hs.2 h hn
theorem keysOk_get {ob : Nat → Option Ob} : ∀ {ks : List Nat}, keysOk ob ks = true → ∀ k ∈ ks, ∃ e z xs, ob k = some (.arr e z xs)
  | [], _, k, h => by cases h
  | x :: ks, hk, k, h => by
    simp only [keysOk, Bool.and_eq_true] at hk
    rcases List.mem_cons.1 h with rfl | h
    · split at hk
      · rename_i e z xs ho; exact ⟨e, z, xs, ho⟩
      · simp at hk
    · exact keysOk_get hk.2 k h
theorem deads_lk (l : List (Nat × Ob)) (k : Nat) : ∀ (ks : List Nat), lk (deads ks ++ l) k = if k ∈ ks then some .dead else lk l k
  | [] => by simp [deads]
  | x :: ks => by
    simp only [deads, List.cons_append, lk_cons, deads_lk l k ks, List.mem_cons]
    by_cases e : x = k
    · subst e; simp
    · have : ¬ k = x := fun h => e h.symm
      simp [e, this]
theorem outObs_lk (cs : List C) (l : List (Nat × Ob)) (k : Nat) : ∀ (outs : List (Nat × D)), (∃ (j i e z : Nat) (xs : List (List D)), outs[j]? = some (i, .own e z xs) ∧ keyAt cs i = k ∧ lk (outObs cs outs ++ l) k = some (.arr e z xs)) ∨
    ((∀ (j i e z : Nat) (xs : List (List D)), outs[j]? = some (i, .own e z xs) → keyAt cs i ≠ k) ∧ lk (outObs cs outs ++ l) k = lk l k)
  | [] => .inr ⟨fun j i e z xs h => by simp at h, rfl⟩
  | (i0, d0) :: outs => by
    have ih := outObs_lk cs l k outs
    have next : lk (outObs cs ((i0, d0) :: outs) ++ l) k = lk (outObs cs outs ++ l) k → (∀ e z xs, d0 = .own e z xs → keyAt cs i0 ≠ k) →
        (∃ (j i e z : Nat) (xs : List (List D)), ((i0, d0) :: outs)[j]? = some (i, .own e z xs) ∧ keyAt cs i = k ∧ lk (outObs cs ((i0, d0) :: outs) ++ l) k = some (.arr e z xs)) ∨
        ((∀ (j i e z : Nat) (xs : List (List D)), ((i0, d0) :: outs)[j]? = some (i, .own e z xs) → keyAt cs i ≠ k) ∧ lk (outObs cs ((i0, d0) :: outs) ++ l) k = lk l k) := by
      intro he hne
      rcases ih with ⟨j, i, e, z, xs, h1, h2, h3⟩ | ⟨h1, h2⟩
      · exact .inl ⟨j + 1, i, e, z, xs, by simpa using h1, h2, by rw [he]; exact h3⟩
      · refine .inr ⟨fun j i e z xs h => ?_, by rw [he]; exact h2⟩
        cases j with
        | zero => simp at h; obtain ⟨rfl, rfl⟩ := h; exact hne e z xs rfl
        | succ j => exact h1 j i e z xs (by simpa using h)
    cases d0 with
    | own e z xs =>
      by_cases hk : keyAt cs i0 = k
      · exact .inl ⟨0, i0, e, z, xs, rfl, hk, by simp only [outObs, List.cons_append, hk, lk_cons_self]⟩
      · exact next (by simp only [outObs, List.cons_append]; exact lk_cons_ne _ _ hk) fun _ _ _ _ => hk
    | v x => exact next (by simp only [outObs]) fun _ _ _ h => by cases h
    | vw b z xs => exact next (by simp only [outObs]) fun _ _ _ h => by cases h
    | mp es => exact next (by simp only [outObs]) fun _ _ _ h => by cases h

theorem CRel.st {en en' : En} {X : Nat → Prop} (hX : Chg X en.w en'.w) (hB : ∀ b, en.B b → ¬ X b) (hBe : en'.B = en.B) (hM : ∀ b, en'.M b → en.M b ∨ X b ∨ en.w.heap.size ≤ b)
    (hβ : ∀ k, (en.ob k).isSome = true → (en'.ob k).isSome = true ∧ en'.β k = en.β k) {c : C} {v : Value} (hs : stC c = true) (h : CRel en c v) : CRel en' c v := by
  cases c with
  | d x =>
    refine ⟨h.1, h.2.1, ?_⟩
    rw [hBe]; exact Rd.stA hX hB hM x v hs h.2.2
  | ob k => obtain ⟨h1, h2, h3⟩ := h; obtain ⟨a, b⟩ := hβ k h1; exact ⟨a, by rw [b]; exact h2, h3⟩
  | win k sz lo n => obtain ⟨h1, h2⟩ := h; obtain ⟨a, b⟩ := hβ k h1; exact ⟨a, by rw [b]; exact h2⟩
  | ref k off => obtain ⟨h1, h2⟩ := h; obtain ⟨a, b⟩ := hβ k h1; exact ⟨a, by rw [b]; exact h2⟩
  | re k sz i j => obtain ⟨h1, h2⟩ := h; obtain ⟨a, b⟩ := hβ k h1; exact ⟨a, by rw [b]; exact h2⟩
  | rd xs => simp [stC] at hs
theorem CsRel.st {en en' : En} (hc : ∀ c v, stC c = true → CRel en c v → CRel en' c v) : ∀ {cs : List C} {vs : List Value}, cs.all stC = true → CsRel en cs vs → CsRel en' cs vs
  | [], [], _, _ => trivial
  | [], _ :: _, _, h => h.elim
  | _ :: _, [], _, h => h.elim
  | c :: cs, v :: vs, hs, h => by
    simp only [List.all_cons, Bool.and_eq_true] at hs
    exact ⟨hc c v hs.1 h.1, CsRel.st hc hs.2 h.2⟩
mutual
theorem FVRel.st {en en' : En} (hc : ∀ c v, stC c = true → CRel en c v → CRel en' c v) : ∀ (f : FV) (v : Value), stF f = true → FVRel en f v → FVRel en' f v
  | .c x, v, hs, h => by simp only [FVRel] at h ⊢; exact hc x v hs h
  | .g xs, v, hs, h => by simp only [FVRel] at h ⊢; obtain ⟨vs, h1, h2⟩ := h; exact ⟨vs, h1, CsRel.st hc hs h2⟩
  | .t xs, v, hs, h => by simp only [FVRel] at h ⊢; obtain ⟨vs, h1, h2⟩ := h; exact ⟨vs, h1, FVsRel.st hc xs vs hs h2⟩
  | .und, v, _, h => by simpa only [FVRel] using h
theorem FVsRel.st {en en' : En} (hc : ∀ c v, stC c = true → CRel en c v → CRel en' c v) : ∀ (f : List FV) (v : List Value), stFs f = true → FVsRel en f v → FVsRel en' f v
  | [], v, _, h => by simpa only [FVsRel] using h
  | x :: xs, v, hs, h => by
    simp only [stFs, Bool.and_eq_true] at hs
    simp only [FVsRel] at h ⊢
    obtain ⟨u, r, h1, h2, h3⟩ := h
    exact ⟨u, r, h1, FVRel.st hc x u hs.1 h2, FVsRel.st hc xs r hs.2 h3⟩
end

theorem DsV.right {Q : D → Value → Prop} : ∀ {xs ys : List D} {us vs : List Value}, us.length = xs.length → DsV Q (xs ++ ys) (us ++ vs) → DsV Q ys vs
  | [], ys, [], vs, _, h => h
  | [], _, _ :: _, _, h, _ => by simp at h
  | _ :: _, _, [], _, h, _ => by simp at h
  | x :: xs, ys, u :: us, vs, hl, h => by
    obtain ⟨v, r, he, _, h⟩ := h
    simp only [List.cons_append, List.cons.injEq] at he
    obtain ⟨rfl, rfl⟩ := he
    exact DsV.right (by simpa using hl) h

theorem ownKeys_get : ∀ {cs : List C} {i k : Nat}, cs[i]? = some (.ob k) → k ∈ ownKeys cs
  | [], i, k, h => by simp at h
  | c :: cs, i, k, h => by
    cases i with
    | zero => simp at h; subst h; simp [ownKeys]
    | succ i =>
      have := ownKeys_get (cs := cs) (i := i) (k := k) (by simpa using h)
      cases c <;> simp [ownKeys, this]
theorem ownKeys_inj : ∀ {cs : List C} {i j k : Nat}, (ownKeys cs).Nodup → cs[i]? = some (.ob k) → cs[j]? = some (.ob k) → i = j
  | [], i, j, k, _, h, _ => by simp at h
  | c :: cs, i, j, k, hn, h, h' => by
    have hn' : (ownKeys cs).Nodup := by cases c <;> simp only [ownKeys, List.nodup_cons] at hn <;> first | exact hn.2 | exact hn
    cases i with
    | zero =>
      simp at h; subst h
      cases j with
      | zero => rfl
      | succ j =>
        simp only [ownKeys, List.nodup_cons] at hn
        exact absurd (ownKeys_get (cs := cs) (i := j) (by simpa using h')) hn.1
    | succ i =>
      cases j with
      | zero =>
        simp at h'; subst h'
        simp only [ownKeys, List.nodup_cons] at hn
        exact absurd (ownKeys_get (cs := cs) (i := i) (by simpa using h)) hn.1
      | succ j => exact congrArg (· + 1) (ownKeys_inj (cs := cs) (k := k) hn' (by simpa using h) (by simpa using h'))

/-- A call of a function that changes the arguments that are handed over. -/
theorem CallW.mut {Q : Exit → Act → World → Prop} {k : List It} {d f : Nat} {fs : List FV} {args : List RV} {q : RV} {outs : List (Nat × D)} (hc : CallX P f args ⟨q, outs⟩) (hd : d < N)
    (ha : argsX (ownKeys (cellsF fs)) (lk s.ob) fs = some args) (hko : keysOk (lk s.ob) (ownKeys (cellsF fs)) = true) (hkn : nodupB (ownKeys (cellsF fs)) = true) (hst : stTm s.tm = true) (hso : stObs (ownKeys (cellsF fs)) s.ob = true)
    (hfr : freshOs s.ob (impOs (d * 64) (cellsR q)) = true)
    (hj : J P N w0 Q k ⟨(d, impF (d * 64) q) :: s.tm, impOs (d * 64) (cellsR q) ++ (outObs (cellsF fs) outs ++ (deads (ownKeys (cellsF fs)) ++ s.ob))⟩) : CallW P N w0 Q k s d f fs := by
  refine ⟨hc.1, fun a w β R vs hv => ?_⟩
  generalize hks : ownKeys (cellsF fs) = ks at *
  have hk := keysOk_get hko
  have hknd := nodupB_iff hkn
  obtain ⟨us, u1, u2, u3⟩ := argsX_sound R hk ha hv
  obtain ⟨c1, c2, c3⟩ := argXCs_sound R hk u2 u3
  rw [hks] at c2
  generalize hcs : cellsF fs = cs at *
  let X := XOf (s.en w w0.arg β) ks
  refine Calls.mono (hc.2 w X vs us u1 (by rw [c2]; exact nodup_obFp R hknd)) fun e w' ⟨v, hve, ⟨us', vs', o1, o2, o3, o4, o5, o6⟩, hlow⟩ => ?_
  refine ⟨v, hve, ?_⟩
  -- what comes back
  have hul : us'.length = outs.length := by have := congrArg List.length o2; simpa using this
  have hX : Chg X w w' := ⟨hlow.size, fun b hb hx => hlow.block b ⟨hb, hx⟩, XOf.cells R hk⟩
  have hB : ∀ b, w0.arg b → ¬ X b := fun b hb hx => arg_not_mine hb (XOf.mine R hx)
  have hout : ∀ (j i : Nat) (e z : Nat) (xs : List (List D)), outs[j]? = some (i, .own e z xs) → ∃ ky, cs[i]? = some (.ob ky) ∧ keyAt cs i = ky ∧ us'[j]? = some (β ky) ∧ ky ∈ ks := by
    intro j i e z xs h
    have h1 : (us'.map some)[j]? = some (fixOf (args.flatMap cellsR) us i) := by rw [o2, List.getElem?_map, h]; rfl
    rw [List.getElem?_map] at h1
    cases hu : us'[j]? with
    | none => rw [hu] at h1; simp at h1
    | some u =>
      rw [hu] at h1
      simp only [Option.map_some, Option.some.injEq] at h1
      have h1 := h1.symm
      unfold fixOf at h1
      split at h1
      · rename_i e' z' xs' hdi
        obtain ⟨ky, k1, k2⟩ := c3 i e' z' xs' u hdi h1
        exact ⟨ky, k1, by simp [keyAt, k1], by rw [k2], hks ▸ ownKeys_get k1⟩
      · cases h1
  have hlkN : ∀ ky, ky ∈ (impOs (d * 64) (cellsR q)).map (·.1) → lk s.ob ky = none := fresh_lk s.ob _ hfr
  have hksome : ∀ ky ∈ ks, (lk s.ob ky).isSome = true := fun ky h => by obtain ⟨e, z, xs, h⟩ := hk ky h; rw [h]; rfl
  let β' := impB β (d * 64) (cellsR q) vs'
  let s' : St := ⟨s.tm, impOs (d * 64) (cellsR q) ++ (outObs cs outs ++ (deads ks ++ s.ob))⟩
  have hβold : ∀ ky, (lk s.ob ky).isSome = true → ownAt (cellsR q) (d * 64) ky = none := by
    intro ky h
    cases hq : ownAt (cellsR q) (d * 64) ky with
    | none => rfl
    | some x => rw [hlkN ky ((impOs_mem ky _ _).2 ⟨x, hq⟩)] at h; cases h
  have hβ' : ∀ ky, (lk s.ob ky).isSome = true → β' ky = β ky := fun ky h => by simp only [β', impB, hβold ky h]
  have hdv := DsV.right (by rw [hul, List.length_map]) o4
  -- the objects that are made or changed: their place among what comes back
  have hEnt : ∀ ky o, lk s'.ob ky = some o → o.live = true →
      (∃ (j e z : Nat) (xs : List (List D)), (outs.map (·.2) ++ cellsR q)[j]? = some (.own e z xs) ∧ (us' ++ vs')[j]? = some (β' ky) ∧ o = .arr e z xs ∧ ((∃ i, ky = d * 64 + i ∧ j = outs.length + i) ∨ (ky ∈ ks ∧ ∃ i, outs[j]? = some (i, .own e z xs) ∧ cs[i]? = some (.ob ky)))) ∨
      (ky ∉ ks ∧ lk s.ob ky = some o) := by
    intro ky o ho hl
    have ho' : lk (impOs (d * 64) (cellsR q) ++ (outObs cs outs ++ (deads ks ++ s.ob))) ky = some o := ho
    rw [impOs_lk] at ho'
    cases hq : ownAt (cellsR q) (d * 64) ky with
    | some x =>
      obtain ⟨e, z, xs⟩ := x
      rw [hq] at ho'
      simp only [Option.some.injEq] at ho'
      have hq' := hq
      unfold ownAt at hq'
      split at hq'
      · rename_i hle
        split at hq'
        · rename_i e' z' xs' hdi
          simp only [Option.some.injEq, Prod.mk.injEq] at hq'
          obtain ⟨rfl, rfl, rfl⟩ := hq'
          obtain ⟨u, hu, _⟩ := hdv.get _ _ hdi
          refine .inl ⟨outs.length + (ky - d * 64), e', z', xs', ?_, ?_, ho'.symm, .inl ⟨ky - d * 64, by omega, rfl⟩⟩
          · rw [List.getElem?_append_right (by simp), List.length_map, Nat.add_sub_cancel_left]; exact hdi
          · rw [List.getElem?_append_right (by omega), hul, Nat.add_sub_cancel_left]
            simp only [β', impB, hq, hu, Option.getD_some]
        · cases hq'
      · cases hq'
    | none =>
      rw [hq] at ho'
      simp only at ho'
      rcases outObs_lk cs (deads ks ++ s.ob) ky outs with ⟨j, i, e, z, xs, g1, g2, g3⟩ | ⟨g1, g2⟩
      · rw [g3] at ho'
        simp only [Option.some.injEq] at ho'
        obtain ⟨ky', k1, k2, k3, k4⟩ := hout j i e z xs g1
        have : ky' = ky := k2.symm.trans g2
        subst this
        have hjl := (List.getElem?_eq_some_iff.1 g1).1
        refine .inl ⟨j, e, z, xs, ?_, ?_, ho'.symm, .inr ⟨k4, i, g1, k1⟩⟩
        · rw [List.getElem?_append_left (by simpa using hjl), List.getElem?_map, g1]; rfl
        · rw [List.getElem?_append_left (by omega), k3, hβ' ky' (hksome ky' k4)]
      · rw [g2, deads_lk] at ho'
        split at ho'
        · simp only [Option.some.injEq] at ho'; subst ho'; simp [Ob.live] at hl
        · rename_i hn; exact .inr ⟨hn, ho'⟩
  have hnd := fun (j : Nat) (dd : D) (vv : Value) h1 h2 => fpDs_nd o4 o5 j dd vv h1 h2
  have hmem := fun (j : Nat) (dd : D) (vv : Value) (b : Nat) h1 h2 h3 => o6 b (fpDs_mem o4 j dd vv h1 h2 h3)
  have hrd := fun (j : Nat) (dd : D) h1 => o4.get j dd h1
  have hinj : ∀ {ky j e z xs j' e' z' xs'}, ((∃ i, ky = d * 64 + i ∧ j = outs.length + i) ∨ (ky ∈ ks ∧ ∃ i, outs[j]? = some (i, D.own e z xs) ∧ cs[i]? = some (.ob ky))) →
      ∀ {ky'}, ((∃ i, ky' = d * 64 + i ∧ j' = outs.length + i) ∨ (ky' ∈ ks ∧ ∃ i, outs[j']? = some (i, D.own e' z' xs') ∧ cs[i]? = some (.ob ky'))) → j = j' → ky = ky' := by
    intro ky j e z xs j' e' z' xs' h ky' h' hjj
    subst hjj
    rcases h with ⟨i, rfl, h1⟩ | ⟨_, i, h1, h2⟩
    · rcases h' with ⟨i', rfl, h1'⟩ | ⟨_, i', h1', h2'⟩
      · omega
      · have := (List.getElem?_eq_some_iff.1 h1').1; omega
    · rcases h' with ⟨i', rfl, h1'⟩ | ⟨_, i', h1', h2'⟩
      · have := (List.getElem?_eq_some_iff.1 h1).1; omega
      · rw [h1] at h1'
        simp only [Option.some.injEq, Prod.mk.injEq] at h1'
        rw [← h1'.1, h2] at h2'
        simp only [Option.some.injEq, C.ob.injEq] at h2'
        exact h2'
  have hhead : ∀ {dd : D} {u : Value} {b : Nat}, Rd w' (fun _ => False) (fun _ => False) dd u → (∃ e z xs, dd = .own e z xs) → blk u = some b → b ∈ fp w' dd u := by
    rintro dd u b hr ⟨e, z, xs, rfl⟩ hb
    simp only [Rd] at hr
    rcases hr with ⟨_, rfl⟩ | ⟨g, cap, cur, rfl, _⟩
    · simp [blk] at hb
    · simp [blk] at hb; subst hb; rw [fp_own_some]; simp
  have hsome' : ∀ ky, (lk s.ob ky).isSome = true → (lk s'.ob ky).isSome = true := by
    intro ky h
    show (lk (impOs (d * 64) (cellsR q) ++ (outObs cs outs ++ (deads ks ++ s.ob))) ky).isSome = true
    rw [lk_append, lk_append, lk_append]
    obtain ⟨o, ho⟩ := Option.isSome_iff_exists.1 h
    rw [ho]; simp
  have hold : ∀ ky o b, ky ∉ ks → lk s.ob ky = some o → b ∈ obFp (s.en w w0.arg β) ky → b < w.heap.size ∧ ¬ X b := by
    intro ky o b hn ho hb
    refine ⟨obFp_lt (en := s.en w w0.arg β) (fun o ho => R.ob ky o ho) b hb, ?_⟩
    rintro ⟨k2, hk2, hb2⟩
    exact R.dj ky k2 (fun e => hn (e ▸ hk2)) b hb hb2
  have hM : ∀ b, (s'.en w' w0.arg β').M b → (s.en w w0.arg β).M b ∨ X b ∨ w.heap.size ≤ b := by
    rintro b ⟨ky, o, ho, hl, hb⟩
    rcases hEnt ky o ho hl with ⟨j, e, z, xs, h1, h2, h3, _⟩ | ⟨hn, ho2⟩
    · obtain ⟨u, hu, hr⟩ := hrd j _ h1
      rw [h2] at hu
      simp only [Option.some.injEq] at hu
      have hb' : blk (β' ky) = some b := hb
      have := hmem j _ _ b h1 h2 (hhead (hu ▸ hr) ⟨e, z, xs, rfl⟩ hb')
      exact this.elim (fun h => .inr (.inr h)) (fun h => .inr (.inl h))
    · have hb' : blk (β' ky) = some b := hb
      rw [hβ' ky (by rw [ho2]; rfl)] at hb'
      exact .inl ⟨ky, o, ho2, hl, hb'⟩
  have hBe : (s'.en w' w0.arg β').B = (s.en w w0.arg β).B := rfl
  have hcst : ∀ c v, stC c = true → CRel (s.en w w0.arg β) c v → CRel (s'.en w' w0.arg β') c v := fun c v hs h =>
    CRel.st (en := s.en w w0.arg β) (en' := s'.en w' w0.arg β') (X := X) hX hB hBe hM (fun ky h => ⟨hsome' ky h, hβ' ky h⟩) hs h
  -- objects of old
  have hobOld : ∀ ky o, ky ∉ ks → lk s.ob ky = some o → ObRel (s'.en w' w0.arg β') ky o ∧ (∀ h : lk s'.ob ky = some o, obFp (s'.en w' w0.arg β') ky = obFp (s.en w w0.arg β) ky) := by
    intro ky o hn ho
    have hr := R.ob ky o ho
    have hs := stObs_lk hso ho hn
    have hbe := hβ' ky (by rw [ho]; rfl)
    cases o with
    | dead => exact ⟨trivial, fun h => by rw [obFp_dead (en := s'.en w' w0.arg β') h, obFp_dead (en := s.en w w0.arg β) ho]⟩
    | var vcs =>
      obtain ⟨g, cur, T, h1, h2, h3⟩ := hr
      have hb : g ∈ obFp (s.en w w0.arg β) ky := by rw [obFp_var (en := s.en w w0.arg β) ho, h1]; simp [blk]
      obtain ⟨hlt, hx⟩ := hold ky _ g hn ho hb
      refine ⟨⟨g, cur, T, hbe.trans h1, (hX.block g hlt hx).trans h2, CsRel.st hcst hs h3⟩, fun h => ?_⟩
      rw [obFp_var (en := s'.en w' w0.arg β') h, obFp_var (en := s.en w w0.arg β) ho]
      show (blk (β' ky)).toList = (blk (β ky)).toList
      rw [hbe]
    | mp es =>
      obtain ⟨r, ents, clock, h1, h2, h3⟩ := hr
      have hb : r ∈ obFp (s.en w w0.arg β) ky := by rw [obFp_mp (en := s.en w w0.arg β) ho, h1]; simp [blk]
      obtain ⟨hlt, hx⟩ := hold ky _ r hn ho hb
      refine ⟨⟨r, ents, clock, hbe.trans h1, (hX.block r hlt hx).trans h2, h3⟩, fun h => ?_⟩
      rw [obFp_mp (en := s'.en w' w0.arg β') h, obFp_mp (en := s.en w w0.arg β) ho]
      show (blk (β' ky)).toList = (blk (β ky)).toList
      rw [hbe]
    | it m rem last =>
      obtain ⟨g, r, since, seen, st, h1, h2, h3, h4⟩ := hr
      have hb : g ∈ obFp (s.en w w0.arg β) ky := by rw [obFp_it (en := s.en w w0.arg β) ho, h1]; simp [blk]
      obtain ⟨hlt, hx⟩ := hold ky _ g hn ho hb
      refine ⟨⟨g, r, since, seen, st, hbe.trans h1, (hX.block g hlt hx).trans h2, Rd.stA hX hB hM (.mp m) _ rfl h3, h4⟩, fun h => ?_⟩
      rw [obFp_it (en := s'.en w' w0.arg β') h, obFp_it (en := s.en w w0.arg β) ho]
      show (blk (β' ky)).toList = (blk (β ky)).toList
      rw [hbe]
    | arr e z xs =>
      have hfpo := obFp_arr (en := s.en w w0.arg β) ho
      have hr : OwnRel w w0.arg (s.en w w0.arg β).M e z xs (β ky) := hr
      rcases hr with ⟨rfl, h1⟩ | ⟨g, cap, cur, h1, h2, h3, h4, h5, h6⟩
      · refine ⟨.inl ⟨rfl, hbe.trans h1⟩, fun h => ?_⟩
        rw [obFp_arr (en := s'.en w' w0.arg β') h, hfpo]
        show fp w' _ (β' ky) = fp w _ (β ky)
        rw [hbe, h1, fp_own_nil, fp_own_nil]
      · have hfpe : obFp (s.en w w0.arg β) ky = g :: fpEs w z xs g 0 := by
          rw [hfpo]; show fp w _ (β ky) = _; rw [h1, fp_own_some]
        obtain ⟨hlt, hx⟩ := hold ky _ g hn ho (by rw [hfpe]; exact List.mem_cons_self ..)
        obtain ⟨r1, r2⟩ := RdEs.stO hX hB hM (fun _ => hX.cell hlt hx) xs 0 hs (fun y hy => (hold ky _ y hn ho (by rw [hfpe]; exact List.mem_cons_of_mem _ hy)).2) h6
        refine ⟨.inr ⟨g, cap, cur, hbe.trans h1, h2, (hX.block g hlt hx).trans h3, h4, h5, r1⟩, fun h => ?_⟩
        rw [obFp_arr (en := s'.en w' w0.arg β') h, hfpe]
        show fp w' _ (β' ky) = _
        rw [hbe, h1, fp_own_some, r2]
  -- objects that came back
  have hobNew : ∀ ky e z xs j, lk s'.ob ky = some (.arr e z xs) → (outs.map (·.2) ++ cellsR q)[j]? = some (.own e z xs) → (us' ++ vs')[j]? = some (β' ky) →
      ((∃ i, ky = d * 64 + i ∧ j = outs.length + i) ∨ (ky ∈ ks ∧ ∃ i, outs[j]? = some (i, .own e z xs) ∧ cs[i]? = some (.ob ky))) →
      ObRel (s'.en w' w0.arg β') ky (.arr e z xs) ∧ obFp (s'.en w' w0.arg β') ky = fp w' (.own e z xs) (β' ky) := by
    intro ky e z xs j ho h1 h2 h3
    refine ⟨?_, obFp_arr (en := s'.en w' w0.arg β') ho⟩
    obtain ⟨u, hu, hr⟩ := hrd j _ h1
    rw [h2] at hu
    simp only [Option.some.injEq] at hu
    subst hu
    show OwnRel w' w0.arg _ e z xs (β' ky)
    have hfi : freshEs xs = true := freshCs_get o3 j _ h1
    have hr0 := hr
    simp only [Rd] at hr
    rcases hr with hr | ⟨g, cap, cur, hβe, g1, g2, g3, g4, g5, g6⟩
    · exact .inl hr
    · refine .inr ⟨g, cap, cur, hβe, g1, g3, g4, g5, RdEs.free xs 0 hfi g6 fun b hb hMb => ?_⟩
      have hbF : b ∈ fp w' (.own e z xs) (β' ky) := by rw [hβe, fp_own_some]; exact List.mem_cons_of_mem _ hb
      obtain ⟨ky', o', ho', hl', hb'⟩ := hMb
      rcases hEnt ky' o' ho' hl' with ⟨j', e', z', xs', h1', h2', h3', h4'⟩ | ⟨hn, ho2⟩
      · obtain ⟨u', hu', hr'⟩ := hrd j' _ h1'
        rw [h2'] at hu'
        simp only [Option.some.injEq] at hu'
        subst hu'
        have hb2 := hhead hr' ⟨e', z', xs', rfl⟩ hb'
        by_cases hjj : j' = j
        · have hkk := hinj h4' h3 hjj
          subst hjj; subst hkk
          have := (hnd j' _ _ h1 h2).1
          rw [hβe, fp_own_some] at this
          have hb3 : blk (β' ky') = some b := hb'
          rw [hβe] at hb3
          simp [blk] at hb3; subst hb3
          exact (List.nodup_cons.1 this).1 hb
        · exact (hnd j _ _ h1 h2).2 j' _ _ hjj h1' h2' b hbF hb2
      · have hb3 : blk (β' ky') = some b := hb'
        rw [hβ' ky' (by rw [ho2]; rfl)] at hb3
        obtain ⟨hlt, hx⟩ := hold ky' o' b hn ho2 (R.live_block ho2 hl' hb3)
        exact (hmem j _ _ b h1 h2 hbF).elim (fun h => Nat.lt_irrefl _ (Nat.lt_of_lt_of_le hlt h)) hx
  have hdeadFp : ∀ ky, (∀ o, lk s'.ob ky = some o → o.live = false) → obFp (s'.en w' w0.arg β') ky = [] := by
    intro ky h
    unfold obFp
    show (match lk s'.ob ky with | some (.var _) => _ | some (.mp _) => _ | some (.it _ _ _) => _ | some (.arr e s xs) => _ | _ => []) = []
    cases ho : lk s'.ob ky with
    | none => rfl
    | some o =>
      have := h o ho
      cases o <;> simp [Ob.live] at this
      rfl
  -- each place: dead, back, or old
  have hcase : ∀ ky, obFp (s'.en w' w0.arg β') ky = [] ∨ (∃ (j e z : Nat) (xs : List (List D)), (outs.map (·.2) ++ cellsR q)[j]? = some (.own e z xs) ∧ (us' ++ vs')[j]? = some (β' ky) ∧ obFp (s'.en w' w0.arg β') ky = fp w' (.own e z xs) (β' ky) ∧
      ((∃ i, ky = d * 64 + i ∧ j = outs.length + i) ∨ (ky ∈ ks ∧ ∃ i, outs[j]? = some (i, .own e z xs) ∧ cs[i]? = some (.ob ky)))) ∨
      (ky ∉ ks ∧ (∃ o, lk s.ob ky = some o) ∧ obFp (s'.en w' w0.arg β') ky = obFp (s.en w w0.arg β) ky) := by
    intro ky
    cases ho : lk s'.ob ky with
    | none => exact .inl (hdeadFp ky fun o h => by rw [ho] at h; cases h)
    | some o =>
      cases hl : o.live with
      | false => exact .inl (hdeadFp ky fun o' h => by rw [ho] at h; simp only [Option.some.injEq] at h; subst h; exact hl)
      | true =>
        rcases hEnt ky o ho hl with ⟨j, e, z, xs, h1, h2, rfl, h4⟩ | ⟨hn, ho2⟩
        · exact .inr (.inl ⟨j, e, z, xs, h1, h2, (hobNew ky e z xs j ho h1 h2 h4).2, h4⟩)
        · exact .inr (.inr ⟨hn, ⟨o, ho2⟩, (hobOld ky o hn ho2).2 ho⟩)
  have R' : Rel N w0 s' a w' β' := by
    refine ⟨R.sz, R.df, ?_, ?_, ?_, ?_, ?_, R.low.trans ⟨hlow.os, hlow.tape, hlow.output, hlow.size, fun b hb => hX.block b (Nat.lt_of_lt_of_le hb.1 R.base_le) (hB b hb), hlow.drawn⟩, ?_⟩
    · intro t g hg
      exact FVRel.st hcst g _ (stTm_lk hst hg) (R.tm t g hg)
    · intro ky o ho
      cases hl : o.live with
      | false => cases o <;> simp [Ob.live] at hl; trivial
      | true =>
        rcases hEnt ky o ho hl with ⟨j, e, z, xs, h1, h2, rfl, h4⟩ | ⟨hn, ho2⟩
        · exact (hobNew ky e z xs j ho h1 h2 h4).1
        · exact (hobOld ky o hn ho2).1
    · intro ky
      rcases hcase ky with h | ⟨j, e, z, xs, h1, h2, h3, _⟩ | ⟨_, _, h⟩
      · rw [h]; exact List.nodup_nil
      · rw [h3]; exact (hnd j _ _ h1 h2).1
      · rw [h]; exact R.nd ky
    · intro ky ky' hne b hb hb'
      rcases hcase ky with h | ⟨j, e, z, xs, h1, h2, h3, h4⟩ | ⟨hn, ⟨o, ho⟩, h⟩
      · rw [h] at hb; cases hb
      · rcases hcase ky' with h' | ⟨j', e', z', xs', h1', h2', h3', h4'⟩ | ⟨hn', ⟨o', ho'⟩, h'⟩
        · rw [h'] at hb'; cases hb'
        · rw [h3] at hb; rw [h3'] at hb'
          exact (hnd j _ _ h1 h2).2 j' _ _ (fun e => hne (hinj h4 h4' e.symm)) h1' h2' b hb hb'
        · rw [h3] at hb; rw [h'] at hb'
          obtain ⟨hlt, hx⟩ := hold ky' o' b hn' ho' hb'
          exact (hmem j _ _ b h1 h2 hb).elim (fun h => Nat.lt_irrefl _ (Nat.lt_of_lt_of_le hlt h)) hx
      · rcases hcase ky' with h' | ⟨j', e', z', xs', h1', h2', h3', h4'⟩ | ⟨hn', ⟨o', ho'⟩, h'⟩
        · rw [h'] at hb'; cases hb'
        · rw [h] at hb; rw [h3'] at hb'
          obtain ⟨hlt, hx⟩ := hold ky o b hn ho hb
          exact (hmem j' _ _ b h1' h2' hb').elim (fun h => Nat.lt_irrefl _ (Nat.lt_of_lt_of_le hlt h)) hx
        · rw [h] at hb; rw [h'] at hb'; exact R.dj ky ky' hne b hb hb'
    · intro ky b hb
      rcases hcase ky with h | ⟨j, e, z, xs, h1, h2, h3, _⟩ | ⟨_, _, h⟩
      · rw [h] at hb; cases hb
      · rw [h3] at hb
        exact (hmem j _ _ b h1 h2 hb).elim (fun h => .inl (Nat.le_trans R.base_le h)) (fun h => XOf.mine R h)
      · rw [h] at hb; exact R.ge ky b hb
    · intro ky c hf
      obtain ⟨f2, f3⟩ := R.fx ky c hf
      exact ⟨hsome' ky f2, (hβ' ky f2).trans f3⟩
  refine ⟨⟨(d, impF (d * 64) q) :: s.tm, s'.ob⟩, β', R'.setTm hd (impF_rel o1 ?_), hj⟩
  refine impCs_rel (key0 := 0) (cellsR q) vs' (d * 64) (hdv.mono fun _ _ _ => trivial) fun i dd u hdi hui => ?_
  obtain ⟨u', hu', hr⟩ := hdv.get i dd hdi
  rw [hui] at hu'
  simp only [Option.some.injEq] at hu'; subst hu'
  have hone := hr.one
  have hfrd : dd.fresh = true := freshCs_get (by rw [freshCs_append] at o3; simp only [Bool.and_eq_true] at o3; exact o3.2) i dd hdi
  cases dd with
  | own e z xs =>
    have hq : ownAt (cellsR q) (d * 64) (d * 64 + i) = some (e, z, xs) := by
      unfold ownAt
      rw [if_pos (by omega), show d * 64 + i - d * 64 = i by omega, hdi]
    refine ⟨?_, ?_, hone⟩
    · show (lk (impOs (d * 64) (cellsR q) ++ (outObs cs outs ++ (deads ks ++ s.ob))) (d * 64 + i)).isSome = true
      rw [impOs_lk, hq]; rfl
    · show u = impB β (d * 64) (cellsR q) vs' (d * 64 + i)
      simp only [impB, hq, show d * 64 + i - d * 64 = i by omega, hui, Option.getD_some]
  | v x => exact ⟨rfl, hone, by simpa only [Rd] using hr⟩
  | vw aa z xs => simp [D.fresh] at hfrd
  | mp es => simp [D.fresh] at hfrd

end Go.Sm
