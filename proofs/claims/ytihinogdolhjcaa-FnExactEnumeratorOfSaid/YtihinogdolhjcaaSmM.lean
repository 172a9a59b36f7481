/- One operation in the symbolic state: the machine agrees, whichever it is. -/
import Derived.Test.YtihinogdolhjcaaSmL
namespace Go.Sm
open Go.RowKit

variable {P : Program} {N : Nat} {w0 : Base} {s : St} {a : Act} {w : World} {β : Nat → Value}

theorem DsV.ones {w : World} {B : Nat → Prop} {M : Nat → Prop} : ∀ {ds : List D} {vs : List Value}, DsV (Rd w B M) ds vs → ∀ u ∈ vs, u.oneCell' = true
  | [], vs, h, u, hu => by simp only [DsV] at h; subst h; cases hu
  | d :: ds, vs, h, u, hu => by
    obtain ⟨v, q, rfl, hv, hd⟩ := h
    rcases List.mem_cons.1 hu with rfl | hu
    · exact hv.one
    · exact hd.ones u hu

theorem RdEs.cellsV {w : World} {B : Nat → Prop} {M : Nat → Prop} {g off z : Nat} {ys : List (List D)} (h : RdEs w B M z ys g off) :
    ∃ news, EsV (Rd w B M) z ys news ∧ (∀ u ∈ news, u.oneCell' = true) ∧ ∀ j u, news[j]? = some u → w.cell? ((⟨g, off, none⟩ : Addr).add j) = some u := by
  obtain ⟨vs, h1, h2⟩ := h.vals
  refine ⟨vs, h1, ?_, fun j u hj => by rw [Addr.add_lit]; exact h2 j u hj⟩
  clear h2 h
  induction ys generalizing vs with
  | nil => simp only [EsV] at h1; subst h1; simp
  | cons y ys ih =>
    obtain ⟨x, r, rfl, hz, hd, hr⟩ := h1
    intro u hu
    rcases List.mem_append.1 hu with hu | hu
    · exact hd.ones u hu
    · exact ih r hr u hu

theorem evApp_sound {T : Tab} (hT : TabOk P T) (R : Rel N w0 s a w β) {k : Nat} {t t' ty : TypeId} {x y : FV} {p : Prop} {v : FV} {os : List (Nat × Ob)} {u u' : Value}
    (h : evApp T (lk s.ob) k t t' x y = .ef p v os) (hp : p) (hk : lk s.ob k = none) (hx : FVRel (s.en w w0.arg β) x u) (hy : FVRel (s.en w w0.arg β) y u') :
    ∃ val w' β', (Builtin.append_ #[t, t'] ty #[u, u']).run P w = .ok val w' ∧ Rel N w0 ⟨s.tm, os ++ s.ob⟩ a w' β' ∧ FVRel (St.en ⟨s.tm, os ++ s.ob⟩ w' w0.arg β') v val := by
  unfold evApp at h
  split at h
  · rename_i ti k1 htt hti
    obtain rfl := nat_beq htt
    split at h
    · rename_i e e' z xs hkk hob1
      have hu := (hT t ti hti).sl hkk
      split at h
      · rename_i te hte
        have hty := hT e te hte
        split at h
        · rename_i hez
          simp only [Bool.and_eq_true] at hez
          obtain rfl := nat_beq hez.1
          have hz := nat_beq hez.2
          simp only [FVRel, CRel] at hx
          obtain ⟨_, rfl, _⟩ := hx
          -- the end, the same on all ways
          have fin : ∀ (ys : List (List D)) (ks : List Nat) (x : Value) (news : List Value), EsV (Rd w w0.arg (s.en w w0.arg β).M) z ys news → (∀ u ∈ news, u.oneCell' = true) →
              ((x = nilV ∧ ys.length = 0) ∨ ∃ ad c, x = .slice (some ad) ys.length c ∧ ∀ j u, news[j]? = some u → w.cell? (ad.add j) = some u) →
              ((ks = [] ∧ fpVs w z ys news = []) ∨ ∃ k3, ks = [k3] ∧ k3 ≠ k1 ∧ (∃ o, lk s.ob k3 = some o) ∧ List.Sublist (fpVs w z ys news) (obFp (s.en w w0.arg β) k3)) →
              (xs.length + ys.length) * te.bytes ≤ 140737488355328 ∧ xs.length + ys.length ≤ 9223372036854775807 →
              ∃ val w' β', (Builtin.append_ #[t, t] ty #[(s.en w w0.arg β).β k1, x]).run P w = .ok val w' ∧ Rel N w0 ⟨s.tm, ((k, .arr e z (xs ++ ys)) :: (k1, .dead) :: deadOs ks) ++ s.ob⟩ a w' β' ∧
                FVRel (St.en ⟨s.tm, ((k, .arr e z (xs ++ ys)) :: (k1, .dead) :: deadOs ks) ++ s.ob⟩ w' w0.arg β') (.c (.ob k)) val := by
            intro ys ks x news h1 h2 h3 h4 h5
            obtain ⟨v', w', r1, r2, r3⟩ := R.append (ty := ty) hu hty hz hob1 hk h1 h2 h3 h4 (by simp only [maxLen]; exact h5.2) h5.1
            exact ⟨v', w', _, r1, r3, by simp only [FVRel, CRel]; exact ⟨by simp [St.en, lk_cons_self], by simp [St.en, upd_self], r2⟩⟩
          split at h
          · rename_i k3
            split at h
            · rename_i e3 z' ys hob3
              split at h
              · rename_i hzz
                simp only [Bool.and_eq_true, Bool.not_eq_true'] at hzz
                obtain rfl := nat_beq hzz.1
                have hne : k3 ≠ k1 := fun e => by subst e; simp at hzz
                simp only [FVRel, CRel] at hy
                obtain ⟨_, rfl, _⟩ := hy
                have hr3 : OwnRel w w0.arg (s.en w w0.arg β).M e3 z ys (β k3) := R.ob k3 _ hob3
                have hsrc : ∃ news, EsV (Rd w w0.arg (s.en w w0.arg β).M) z ys news ∧ (∀ u ∈ news, u.oneCell' = true) ∧
                    ((β k3 = nilV ∧ ys.length = 0) ∨ ∃ ad c, β k3 = .slice (some ad) ys.length c ∧ ∀ j u, news[j]? = some u → w.cell? (ad.add j) = some u) ∧
                    List.Sublist (fpVs w z ys news) (obFp (s.en w w0.arg β) k3) := by
                  rcases hr3 with ⟨rfl, hβ⟩ | ⟨g, cap, cur, hβ, q1, q2, q3, q4, q5⟩
                  · exact ⟨[], rfl, by simp, .inl ⟨hβ, rfl⟩, by simp [fpVs]⟩
                  · obtain ⟨news, n1, n2, n3⟩ := q5.cellsV
                    refine ⟨news, n1, n2, .inr ⟨_, _, hβ, n3⟩, ?_⟩
                    rw [obFp_arr (en := s.en w w0.arg β) hob3]
                    show List.Sublist _ (fp w (.own e3 z ys) (β k3))
                    rw [hβ, fp_own_some, fpEs_vals ys news 0 n1 (fun j u hj => by have := n3 j u hj; rwa [Addr.add_lit] at this)]
                    exact List.sublist_cons_self _ _
                obtain ⟨news, n1, n2, n3, n4⟩ := hsrc
                split at h
                · rename_i hno
                  simp only [Ev.ef.injEq] at h
                  obtain ⟨rfl, rfl, rfl⟩ := h
                  rw [okNo_all] at hno
                  exact fin ys [] _ news n1 n2 n3 (.inl ⟨rfl, fpVs_noOwn _ hno⟩) hp
                · simp only [Ev.ef.injEq] at h
                  obtain ⟨rfl, rfl, rfl⟩ := h
                  exact fin ys [k3] _ news n1 n2 n3 (.inr ⟨k3, rfl, hne, ⟨_, hob3⟩, n4⟩) hp
              · cases h
            · cases h
          · rename_i b z' ys
            split at h
            · rename_i hzz
              simp only [Bool.and_eq_true] at hzz
              obtain rfl := nat_beq hzz.1
              have hno := hzz.2
              rw [okNo_all] at hno
              simp only [Ev.ef.injEq] at h
              obtain ⟨rfl, rfl, rfl⟩ := h
              simp only [FVRel, CRel, Rd] at hy
              rcases hy.2.2 with ⟨rfl, rfl⟩ | ⟨b, off, cap, rfl, q1, q2, q3, q4, q5⟩
              · exact fin [] [] _ [] rfl (by simp) (.inl ⟨rfl, rfl⟩) (.inl ⟨rfl, by simp [fpVs]⟩) hp
              · obtain ⟨news, n1, n2, n3⟩ := q5.cellsV
                exact fin ys [] _ news n1 n2 (.inr ⟨_, _, rfl, n3⟩) (.inl ⟨rfl, fpVs_noOwn _ hno⟩) hp
            · cases h
          · cases h
        · cases h
      · cases h
    · cases h
  · cases h

theorem getElem?_FVs {en : En} : ∀ {xs : List FV} {vs : List Value} {i : Nat} {f : FV}, FVsRel en xs vs → xs[i]? = some f → ∃ v, vs[i]? = some v ∧ FVRel en f v
  | [], _, i, f, _, h => by simp at h
  | x :: xs, vs, i, f, hr, h => by
    simp only [FVsRel] at hr
    obtain ⟨v, r, rfl, h1, h2⟩ := hr
    cases i with
    | zero => simp at h; subst h; exact ⟨v, rfl, h1⟩
    | succ i => simpa using getElem?_FVs h2 (by simpa using h)

/-- A quiet operation. -/
theorem ev_q {T : Tab} {E : List (Nat × Nat)} (hT : TabOk P T) (hE : ∀ t n, lk E t = some n → EqOk P t n) (R : Rel N w0 s a w β) {o : Oper} {k : Nat} {p : Prop} {v : FV} {os : List (Nat × Ob)}
    (h : ev T E s.opd (lk s.ob) k o.type o.op = .q p v os) (hp : p) (hf : freshOs s.ob os = true) : QOk P N w0 s a w o v os := by
  cases ho : o.op with
  | move x => rw [ho] at h; exact evAssign_sound (.inl ho) R h hf
  | assign x => rw [ho] at h; exact evAssign_sound (.inr ho) R h hf
  | pick c x y =>
    rw [ho] at h; simp only [ev] at h
    split at h
    · rename_i hc
      obtain ⟨h', rfl⟩ := optF_q h
      refine QOk.same R ?_ (R.opd h')
      simp [execOp, ho, bool_rel (R.opd hc), asBool]
    · rename_i hc
      obtain ⟨h', rfl⟩ := optF_q h
      refine QOk.same R ?_ (R.opd h')
      simp [execOp, ho, bool_rel (R.opd hc), asBool]
    · cases h
  | alloc t =>
    rw [ho] at h; simp only [ev] at h
    split at h
    · rename_i ti hti
      simp only [Ev.q.injEq] at h
      obtain ⟨_, rfl, rfl⟩ := h
      have hty := hT t ti hti
      simp only [freshOs, Bool.and_eq_true, Option.isNone_iff_eq_none] at hf
      obtain ⟨β', h1, h2, h3⟩ := R.addZeros ti.zero (k + 1) hf.1 hty.ones
      obtain ⟨z, hz, hzc⟩ := hty.zeroValue w
      rw [← hzc] at h2
      obtain ⟨β'', r1, r2, r3⟩ := h1.allocVar (P := P) (T := t) hf.2 h2
      refine ⟨_, _, β'', ?_, r2, by simp only [FVRel]; exact r3⟩
      have r1' := r1
      simp only [Sem.run_bind] at r1'
      simp [execOp, ho, Instr.alloc, hz, newVar, newRow]
    · cases h
  | box t x =>
    rw [ho] at h; simp only [ev] at h
    split at h
    · rename_i f hx
      split at h
      · rename_i cs hcs
        simp only [Ev.q.injEq] at h
        obtain ⟨_, rfl, rfl⟩ := h
        simp only [freshOs, Bool.and_eq_true, Option.isNone_iff_eq_none] at hf
        obtain ⟨β'', r1, r2, r3⟩ := R.allocVar (P := P) (T := t) (v := a.eval x) hf.2 (FV.cells_rel hcs (R.opd hx))
        exact ⟨.pointer (some ⟨w.heap.size, 0, none⟩), _, β'', by simp [execOp, ho, Instr.box, newVar, newRow], r2, by simp only [FVRel]; exact r3⟩
      · cases h
    · cases h
  | build t ps =>
    rw [ho] at h; simp only [ev] at h
    split at h
    · rename_i qs hq
      split at h
      · rename_i cs os' hb
        simp only [Ev.q.injEq] at h
        obtain ⟨_, rfl, rfl⟩ := h
        obtain ⟨val, β', r1, r2, r3⟩ := evBuild_sound hT R hb (partsC_rel R hq) hf
        refine ⟨val, w, β', ?_, r2, r3⟩
        have : ps.map (fun (x : Nat × Operand) => (x.1, a.eval x.2)) = (ps.toList.map fun x => (x.1, a.eval x.2)).toArray := by apply Array.ext'; simp
        simp only [execOp, ho, Sem.run_bind, this]
        simp [r1]
      · cases h
    · cases h
  | buildSlice t len ps =>
    rw [ho] at h; simp only [ev] at h
    split at h
    · rename_i qs hq
      split at h
      · rename_i o' hb
        simp only [Ev.q.injEq] at h
        obtain ⟨_, rfl, rfl⟩ := h
        simp only [freshOs, Bool.and_eq_true, Option.isNone_iff_eq_none] at hf
        obtain ⟨val, w', β', r1, r2, r3⟩ := evBS_sound hT R hb (partsC_rel R hq) hf.2
        refine ⟨val, w', β', ?_, r2, by simp only [FVRel]; exact r3⟩
        have : ps.map (fun (x : Nat × Operand) => (x.1, a.eval x.2)) = (ps.toList.map fun x => (x.1, a.eval x.2)).toArray := by apply Array.ext'; simp
        simp only [execOp, ho, Sem.run_bind, this]
        simp [r1]
      · cases h
    · cases h
  | load t x =>
    rw [ho] at h; simp only [ev] at h
    split at h
    · split at h
      · split at h <;> cases h
      · cases h
    · rename_i f hnot hx
      obtain ⟨h', rfl⟩ := optF_q h
      obtain ⟨val, r1, r2⟩ := evLoad_sound (P := P) hT R h' (R.opd hx)
      exact QOk.same R (by simp [execOp, ho, r1]) r2
    · cases h
  | store t x y =>
    rw [ho] at h; simp only [ev] at h
    split at h
    · split at h <;> cases h
    · cases h
  | fieldAddr t x i =>
    rw [ho] at h; simp only [ev] at h
    split at h
    · rename_i f hx
      obtain ⟨h', rfl⟩ := optF_q h
      obtain ⟨val, r1, r2⟩ := evFA_sound (P := P) (w := w) hT h' (R.opd hx)
      exact QOk.same R (by simp [execOp, ho, r1]) r2
    · cases h
  | indexAddr t x i =>
    rw [ho] at h; simp only [ev] at h
    split at h
    · rename_i f g hx hi
      split at h
      · rename_i p' v' hia
        simp only [Ev.q.injEq] at h
        obtain ⟨rfl, rfl, rfl⟩ := h
        obtain ⟨val, r1, r2⟩ := evIA_at (P := P) hT R hia hp (R.opd hx) (R.opd hi)
        exact QOk.same R (by simp [execOp, ho, r1]) r2
      · cases h
      · cases h
    · cases h
  | binOp op t x y yt =>
    rw [ho] at h; simp only [ev] at h
    split at h
    · rename_i f g hx hy
      split at h
      · rename_i p' v' hb
        simp only [Ev.q.injEq] at h
        obtain ⟨rfl, rfl, rfl⟩ := h
        obtain ⟨val, r1, r2⟩ := evBin_sound (P := P) (w := w) hT hE hb hp (R.opd hx) (R.opd hy) x y
        refine QOk.same R ?_ r2
        simp only [execOp, ho, Sem.run_bind] at r1 ⊢
        rw [r1]; rfl
      · cases h
    · cases h
  | unOp op t x =>
    rw [ho] at h; simp only [ev] at h
    split at h
    · rename_i f hx
      obtain ⟨h', rfl⟩ := optF_q h
      obtain ⟨val, r1, r2⟩ := evUn_sound (P := P) (w := w) h' (R.opd hx)
      exact QOk.same R (by simp [execOp, ho, r1]) r2
    · cases h
  | convert src dst x =>
    rw [ho] at h; simp only [ev] at h
    split at h
    · rename_i f hx
      obtain ⟨h', rfl⟩ := optF_q h
      obtain ⟨val, r1, r2⟩ := evConv_sound (P := P) (w := w) hT h' (R.opd hx)
      exact QOk.same R (by simp [execOp, ho, r1]) r2
    · cases h
  | extract x i =>
    rw [ho] at h; simp only [ev] at h
    split at h
    · rename_i xs hx
      obtain ⟨h', rfl⟩ := optF_q h
      have hr := R.opd hx
      simp only [FVRel] at hr
      obtain ⟨vs, he, hvs⟩ := hr
      obtain ⟨u, h1, h2⟩ := getElem?_FVs hvs h'
      exact QOk.same R (by simp [execOp, ho, Instr.extract, he, h1]) h2
    · cases h
  | makeSlice t l c =>
    rw [ho] at h; simp only [ev] at h
    split at h
    · rename_i f g hx hy
      split at h
      · rename_i p' o' hm
        simp only [Ev.q.injEq] at h
        obtain ⟨rfl, rfl, rfl⟩ := h
        simp only [freshOs, Bool.and_eq_true, Option.isNone_iff_eq_none] at hf
        obtain ⟨val, w', β', r1, r2, r3⟩ := evMake_sound hT R hm hp (R.opd hx) (R.opd hy) hf.2
        exact ⟨val, w', β', by simp [execOp, ho, r1], r2, by simp only [FVRel]; exact r3⟩
      · cases h
    · cases h
  | slice t x lo hi mx =>
    rw [ho] at h
    cases mx with
    | none =>
      simp only [ev] at h
      split at h
      · rename_i f hx
        exact evSlice_sound hT R ho hx h hp
      · cases h
    | some m => simp [ev] at h
  | nilCheck x =>
    rw [ho] at h; simp only [ev] at h
    split at h
    · rename_i hx
      simp only [Ev.q.injEq] at h
      obtain ⟨_, rfl, rfl⟩ := h
      have hr := R.opd hx
      refine QOk.same R ?_ hr
      simp only [FVRel, CRel] at hr
      obtain ⟨_, g, _, he⟩ := hr
      simp [execOp, ho, he]
    · rename_i hx
      simp only [Ev.q.injEq] at h
      obtain ⟨_, rfl, rfl⟩ := h
      have hr := R.opd hx
      refine QOk.same R ?_ hr
      simp only [FVRel, CRel] at hr
      obtain ⟨_, g, _, _, _, he⟩ := hr
      simp [execOp, ho, he]
    · rename_i hx
      simp only [Ev.q.injEq] at h
      obtain ⟨_, rfl, rfl⟩ := h
      have hr := R.opd hx
      refine QOk.same R ?_ hr
      simp only [FVRel, CRel] at hr
      obtain ⟨b, off, he, _⟩ := hr
      simp [execOp, ho, he]
    · cases h
  | call c =>
    rw [ho] at h; simp only [ev] at h
    split at h
    · rename_i x t hc hargs hts
      split at h
      · rename_i f hx
        obtain ⟨h', rfl⟩ := optF_q h
        obtain ⟨val, r1, r2⟩ := evLen_sound (P := P) (ty := o.type) hT R h' (R.opd hx)
        refine QOk.same R ?_ r2
        have e1 : c.args = #[x] := by rw [← Array.toArray_toList (xs := c.args), hargs]
        have e2 : c.argTypes = #[t] := by rw [← Array.toArray_toList (xs := c.argTypes), hts]
        simp [execOp, ho, resolve, hc, e1, e2, invoke, builtin, r1]
      · cases h
    · split at h
      · unfold evApp at h
        split at h
        · split at h
          · split at h
            · split at h
              · split at h
                · split at h
                  · split at h
                    · split at h <;> cases h
                    · cases h
                  · cases h
                · split at h <;> cases h
                · cases h
              · cases h
            · cases h
          · cases h
        · cases h
      · cases h
    · rename_i x y hc hargs
      split at h
      · rename_i f g hx hy
        obtain ⟨h', rfl⟩ := optF_q h
        obtain ⟨val, r1, r2⟩ := evMM_sound (P := P) (w := w) (ts := c.argTypes) (t := o.type) h' (R.opd hx) (R.opd hy)
        refine QOk.same R ?_ r2
        have e1 : c.args = #[x, y] := by rw [← Array.toArray_toList (xs := c.args), hargs]
        simp only at r1
        simp [execOp, ho, resolve, hc, e1, invoke, builtin, r1]
      · cases h
    · rename_i x y hc hargs
      split at h
      · rename_i f g hx hy
        obtain ⟨h', rfl⟩ := optF_q h
        obtain ⟨val, r1, r2⟩ := evMM_sound (P := P) (w := w) (ts := c.argTypes) (t := o.type) h' (R.opd hx) (R.opd hy)
        refine QOk.same R ?_ r2
        have e1 : c.args = #[x, y] := by rw [← Array.toArray_toList (xs := c.args), hargs]
        simp only at r1
        simp [execOp, ho, resolve, hc, e1, invoke, builtin, r1]
      · cases h
    · split at h
      · split at h
        · split at h <;> cases h
        · cases h
      · cases h
    · cases h
  | makeMap t r =>
    rw [ho] at h
    cases r with
    | none =>
      simp only [ev] at h
      split at h
      · rename_i m hm
        simp only [Ev.q.injEq] at h
        obtain ⟨_, rfl, rfl⟩ := h
        simp only [freshOs, Bool.and_eq_true, Option.isNone_iff_eq_none] at hf
        have hx : m.xs = [] := by
          unfold evMM' at hm
          split at hm
          · split at hm
            · simp only [Option.some.injEq] at hm; subst hm; rfl
            · cases hm
          · cases hm
        obtain ⟨val, w', β', r1, r2, r3⟩ := makeMap_sound (P := P) R hx hf.2 t
        exact ⟨val, w', β', by simp [execOp, ho, r1], r2, r3⟩
      · cases h
    | some r => simp [ev] at h
  | lookup t x i co =>
    rw [ho] at h; simp only [ev] at h
    split at h
    · rename_i f g hx hi
      obtain ⟨h', rfl⟩ := optF_q h
      obtain ⟨val, r1, r2⟩ := evLk_sound (P := P) hT hE R h' (R.opd hx) (R.opd hi)
      exact QOk.same R (by simp [execOp, ho, r1]) r2
    · cases h
  | mapUpdate t m i x =>
    rw [ho] at h; simp only [ev] at h
    repeat' split at h
    all_goals cases h
  | insert t m i x =>
    rw [ho] at h; simp only [ev] at h
    repeat' split at h
    all_goals cases h
  | mapEntry t m i =>
    rw [ho] at h; simp only [ev] at h
    repeat' split at h
    all_goals cases h
  | entryStore t m i x =>
    rw [ho] at h; simp only [ev] at h
    repeat' split at h
    all_goals cases h
  | range t x =>
    rw [ho] at h; simp only [ev] at h
    split at h
    · rename_i f hx
      split at h
      · rename_i m hm
        simp only [Ev.q.injEq] at h
        obtain ⟨_, rfl, rfl⟩ := h
        simp only [freshOs, Bool.and_eq_true, Option.isNone_iff_eq_none] at hf
        obtain ⟨val, w', β', r1, r2, r3⟩ := evRg_sound (P := P) hT hE R hm (R.opd hx) hf.2
        exact ⟨val, w', β', by simp [execOp, ho, r1], r2, r3⟩
      · cases h
    · cases h
  | entry x =>
    rw [ho] at h; simp only [ev] at h
    split at h
    · rename_i f hx
      obtain ⟨h', rfl⟩ := optF_q h
      obtain ⟨val, r1, r2⟩ := evEn_sound (P := P) R h' (R.opd hx)
      exact QOk.same R (by simp [execOp, ho, r1]) r2
    · cases h
  | _ => rw [ho] at h; simp [ev] at h

end Go.Sm
