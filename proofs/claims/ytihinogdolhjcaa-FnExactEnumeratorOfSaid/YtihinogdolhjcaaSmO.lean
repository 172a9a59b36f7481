/- The conditions suffice: from them the contract follows. -/
import Derived.Test.YtihinogdolhjcaaSmN
namespace Go.Sm
open Go.RowKit

variable {P : Program} {N : Nat} {w0 : Base} {s : St} {a : Act} {w : World} {β : Nat → Value}

/-! ### the rest of the code -/

theorem cont_then {Q : Exit → Act → World → Prop} (y : Code) (k : List It) (e : Exit) (a : Act) (w : World) (h : cont P N w0 Q (.code y :: k) e a w) :
    Exit.then (y.wp P (cont P N w0 Q k)) (cont P N w0 Q k) e a w := by
  cases e <;> simpa only [cont, Exit.then] using h

theorem cont_seq {Q : Exit → Act → World → Prop} {x y : Code} {k : List It} {a : Act} {w : World} (h : cont P N w0 Q (.code x :: .code y :: k) .normal a w) : cont P N w0 Q (.code (.seq x y) :: k) .normal a w := by
  simp only [cont] at h ⊢
  exact wp_seq (wp_mono h fun e a w h => cont_then y k e a w h)

theorem cont_block {Q : Exit → Act → World → Prop} {c : Code} {id : Nat} {k : List It} {a : Act} {w : World} (h : cont P N w0 Q (.code c :: .blk id :: k) .normal a w) : cont P N w0 Q (.code (.block id c) :: k) .normal a w := by
  simp only [cont] at h ⊢
  refine wp_block (wp_mono h fun e a w h => ?_)
  cases e <;> simpa only [cont, Exit.inBlock] using h

theorem cont_unw {Q : Exit → Act → World → Prop} {id : Nat} {a : Act} {w : World} : ∀ {k k' : List It}, unw id k = some k' → cont P N w0 Q k' .normal a w → cont P N w0 Q k (.exit id) a w
  | [], k', h, _ => by simp [unw] at h
  | .blk id' :: k, k', h, hc => by
    simp only [unw] at h
    simp only [cont]
    split at h
    · rename_i hb
      simp only [Option.some.injEq] at h; subst h
      rw [if_pos (nat_beq hb)]; exact hc
    · rename_i hb
      rw [if_neg (fun e => by rw [e] at hb; simp at hb)]
      exact cont_unw h hc
  | .code c :: k, k', h, hc => by simp only [unw] at h; simp only [cont]; exact cont_unw h hc
  | .ops a l :: k, k', h, hc => by simp only [unw] at h; simp only [cont]; exact cont_unw h hc
  | .inv p :: k, k', h, hc => by simp only [unw] at h; simp only [cont]; exact cont_unw h hc

/-! ### the results -/

theorem expC_sound (R : Rel N w0 s a w β) {c : C} {d : D} {ks : List Nat} {v : Value} (h : expC (lk s.ob) c = some (d, ks)) (hv : CRel (s.en w w0.arg β) c v) (hf : d.fresh = true) :
    Rd w (fun _ => False) (fun _ => False) d v ∧ fp w d v = ks.flatMap (obFp (s.en w w0.arg β)) := by
  unfold expC at h
  split at h
  · simp only [Option.some.injEq, Prod.mk.injEq] at h
    obtain ⟨rfl, rfl⟩ := h
    have := hv.2.2
    simp only [Rd] at this ⊢
    exact ⟨this, by simp [fp]⟩
  · rename_i k
    split at h
    · rename_i e z xs hob
      simp only [Option.some.injEq, Prod.mk.injEq] at h
      obtain ⟨rfl, rfl⟩ := h
      obtain ⟨_, rfl, _⟩ := hv
      have hr : OwnRel w w0.arg (s.en w w0.arg β).M e z xs (β k) := R.ob k _ hob
      refine ⟨?_, ?_⟩
      · show Rd w (fun _ => False) _ _ (β k)
        simp only [Rd]
        rcases hr with hr | ⟨b, cap, cur, h1, h2, h3, h4, h5, h6⟩
        · exact .inl hr
        · exact .inr ⟨b, cap, cur, h1, h2, not_false, h3, h4, h5, RdEs.free xs 0 hf h6 fun _ _ => not_false⟩
      · simp only [List.flatMap_cons, List.flatMap_nil, List.append_nil]
        rw [obFp_arr (en := s.en w w0.arg β) hob]; rfl
    · cases h
  · cases h

theorem expCs_sound (R : Rel N w0 s a w β) : ∀ {cs : List C} {ds : List D} {ks : List Nat} {vs : List Value}, expCs (lk s.ob) cs = some (ds, ks) → CsRel (s.en w w0.arg β) cs vs → freshCs ds = true →
    DsV (Rd w (fun _ => False) fun _ => False) ds vs ∧ fpDs w ds vs = ks.flatMap (obFp (s.en w w0.arg β))
  | [], ds, ks, [], h, _, _ => by simp [expCs] at h; obtain ⟨rfl, rfl⟩ := h; exact ⟨rfl, rfl⟩
  | [], _, _, _ :: _, _, h, _ => h.elim
  | _ :: _, _, _, [], _, h, _ => h.elim
  | c :: cs, ds, ks, v :: vs, h, hv, hf => by
    simp only [expCs] at h
    split at h
    · rename_i d k ds' ks' h1 h2
      simp only [Option.some.injEq, Prod.mk.injEq] at h
      obtain ⟨rfl, rfl⟩ := h
      simp only [freshCs, Bool.and_eq_true] at hf
      obtain ⟨a1, a2⟩ := expC_sound R h1 hv.1 hf.1
      obtain ⟨b1, b2⟩ := expCs_sound R h2 hv.2 hf.2
      exact ⟨⟨v, vs, rfl, a1, b1⟩, by simp only [fpDs, List.headD_cons, List.tail_cons]; rw [a2, b2, List.flatMap_append]⟩
    · cases h

theorem expF_sound (R : Rel N w0 s a w β) {f : FV} {p : Bool × List D} {ks : List Nat} {v : Value} (h : expF (lk s.ob) f = some (p, ks)) (hv : FVRel (s.en w w0.arg β) f v) (hf : freshCs p.2 = true) :
    ∃ x, x.length = p.2.length ∧ (match p.1 with | true => v = .agg x.toArray | false => x = [v]) ∧ DsV (Rd w (fun _ => False) fun _ => False) p.2 x ∧ fpDs w p.2 x = ks.flatMap (obFp (s.en w w0.arg β)) := by
  unfold expF at h
  split at h
  · split at h
    · rename_i d k hd
      simp only [Option.some.injEq, Prod.mk.injEq] at h
      obtain ⟨rfl, rfl⟩ := h
      simp only [freshCs, Bool.and_true] at hf
      simp only [FVRel] at hv
      obtain ⟨a1, a2⟩ := expC_sound R hd hv hf
      exact ⟨[v], rfl, rfl, ⟨v, [], rfl, a1, rfl⟩, by simp [fpDs, a2]⟩
    · cases h
  · split at h
    · rename_i ds k hd
      simp only [Option.some.injEq, Prod.mk.injEq] at h
      obtain ⟨rfl, rfl⟩ := h
      simp only [FVRel] at hv
      obtain ⟨vs, rfl, hv⟩ := hv
      obtain ⟨a1, a2⟩ := expCs_sound R hd hv hf
      exact ⟨vs, a1.length, rfl, a1, a2⟩
    · cases h
  · cases h

def resultOne (tmps : Array Value) : ResultVar → Sem Value
  | .tmp t => pure (tmps.getD t undef)
  | .cell x t => do loadVar t (← asAddr (tmps.getD x undef))

theorem freshCs_append : ∀ (xs ys : List D), freshCs (xs ++ ys) = (freshCs xs && freshCs ys)
  | [], ys => by simp [freshCs]
  | x :: xs, ys => by simp [freshCs, freshCs_append xs ys, Bool.and_assoc]

theorem expRs_sound {T : Tab} (hT : TabOk P T) (R : Rel N w0 s a w β) : ∀ {rs : List ResultVar} {ps : List (Bool × List D)} {ks : List Nat}, expRs T s rs = some (ps, ks) → freshCs (ps.flatMap (·.2)) = true →
    ∃ us vs, (rs.mapM (resultOne a.tmps)).run P w = .ok us w ∧ CompShape ps us vs ∧ DsV (Rd w (fun _ => False) fun _ => False) (ps.flatMap (·.2)) vs ∧
      fpDs w (ps.flatMap (·.2)) vs = ks.flatMap (obFp (s.en w w0.arg β)) ∧ us.length = ps.length
  | [], ps, ks, h, _ => by simp [expRs] at h; obtain ⟨rfl, rfl⟩ := h; exact ⟨[], [], by simp, ⟨rfl, rfl⟩, rfl, rfl, rfl⟩
  | r :: rs, ps, ks, h, hf => by
    simp only [expRs] at h
    split at h
    · rename_i f hres
      split at h
      · rename_i p k ps' ks' h1 h2
        simp only [Option.some.injEq, Prod.mk.injEq] at h
        obtain ⟨rfl, rfl⟩ := h
        simp only [List.flatMap_cons, freshCs_append, Bool.and_eq_true] at hf
        obtain ⟨us, vs, q1, q2, q3, q4, q5⟩ := expRs_sound hT R h2 hf.2
        have hone : ∃ u, (resultOne a.tmps r).run P w = .ok u w ∧ FVRel (s.en w w0.arg β) f u := by
          cases r with
          | tmp t => exact ⟨_, rfl, R.tm t f hres⟩
          | cell x ty =>
            simp only [resC] at hres
            split at hres
            · rename_i g hx
              split at hres
              · have hr := R.tm x _ hx
                obtain ⟨val, l1, l2⟩ := evLoad_sound (P := P) hT R hres hr
                refine ⟨val, ?_, l2⟩
                simp only [FVRel, CRel] at hr
                obtain ⟨_, g, _, he⟩ := hr
                rw [he] at l1
                simp [Instr.loadAt, Instr.sureAddr] at l1
                simp only [resultOne, he]
                simp [asAddr, l1]
              · cases hres
            · cases hres
        obtain ⟨u, u1, u2⟩ := hone
        obtain ⟨x, x1, x2, x3, x4⟩ := expF_sound R h1 u2 hf.1
        refine ⟨u :: us, x ++ vs, by simp [List.mapM_cons, u1, q1], ⟨u, us, x, vs, rfl, rfl, x1, ?_, q2⟩, ?_, ?_, by simp [q5]⟩
        · exact x2
        · simp only [List.flatMap_cons]; exact x3.append q3
        · simp only [List.flatMap_cons, List.flatMap_append]
          rw [fpDs_app x3, x4, q4]
      · cases h
    · cases h

theorem results_run (fn : Func) (tmps : Array Value) {us : List Value} (h : (fn.results.toList.mapM (resultOne tmps)).run P w = .ok us w) :
    (results fn tmps).run P w = .ok (match us with | [u] => u | us => .tuple us.toArray) w := by
  have e : (fn.results.mapM (resultOne tmps)).run P w = .ok us.toArray w := by
    rw [← Array.toArray_toList (xs := fn.results), List.mapM_toArray]
    simp only [Sem.run_map, h, Result.andThen_ok]
  have hres : results fn tmps = (do
      let vs ← fn.results.mapM (resultOne tmps)
      pure (if h : vs.size = 1 then vs[0] else .tuple vs)) := by
    unfold results
    congr 1

  rw [hres]
  simp only [Sem.run_bind]
  rw [e]
  simp only [Result.andThen_ok, Sem.run_pure]
  match us with
  | [] => simp
  | [u] => simp
  | u :: v :: r => simp

theorem nodup_obFp (R : Rel N w0 s a w β) : ∀ {ks : List Nat}, ks.Nodup → (ks.flatMap (obFp (s.en w w0.arg β))).Nodup
  | [], _ => by simp
  | k :: ks, h2 => by
    obtain ⟨n1, n2⟩ := List.nodup_cons.1 h2
    rw [List.flatMap_cons]
    refine List.nodup_append.2 ⟨R.nd k, nodup_obFp R n2, ?_⟩
    intro x hx y hy e
    subst e
    obtain ⟨k', hk', hy'⟩ := List.mem_flatMap.1 hy
    exact R.dj k k' (fun e => n1 (by subst e; exact hk')) x hx hy'

theorem expOs_sound (R : Rel N w0 s a w β) : ∀ {os : List (Nat × D)} {ds : List D}, expOs (lk s.ob) os = some ds → freshCs ds = true →
    DsV (Rd w (fun _ => False) fun _ => False) ds (os.map fun p => β p.1) ∧ fpDs w ds (os.map fun p => β p.1) = (os.map (·.1)).flatMap (obFp (s.en w w0.arg β)) ∧ ∀ p ∈ os, (lk s.ob p.1).isSome = true
  | [], ds, h, _ => by simp [expOs] at h; subst h; exact ⟨rfl, rfl, fun _ h => nomatch h⟩
  | (k, d0) :: os, ds, h, hf => by
    simp only [expOs] at h
    split at h
    · rename_i e z xs ds' hk hds
      simp only [Option.some.injEq] at h; subst h
      simp only [freshCs, Bool.and_eq_true] at hf
      obtain ⟨h1, h2, h3⟩ := expOs_sound R hds hf.2
      have hr : OwnRel w w0.arg (s.en w w0.arg β).M e z xs (β k) := R.ob k _ hk
      have hone : (β k).oneCell' = true := by rcases hr with ⟨_, h⟩ | ⟨b, cap, cur, h, _⟩ <;> rw [h] <;> rfl
      obtain ⟨g1, g2⟩ := expC_sound R (c := .ob k) (d := .own e z xs) (ks := [k]) (v := β k) (by simp only [expC, hk]) ⟨by simp [St.en, hk], rfl, hone⟩ hf.1
      refine ⟨⟨β k, _, rfl, g1, h1⟩, ?_, ?_⟩
      · simp only [List.map_cons, fpDs, List.headD_cons, List.tail_cons, List.flatMap_cons]
        rw [g2, h2]; simp
      · intro p hp
        rcases List.mem_cons.1 hp with rfl | hp
        · simp [hk]
        · exact h3 p hp
    · cases h

theorem ret_sound {T : Tab} (hT : TabOk P T) (R : Rel N w0 s a w β) {rs : List ResultVar} {r : Res} (hfix : ∀ p ∈ r.outs, (w0.fix p.1).isSome = true) (h : RetVC T rs r s) (fn : Func) (hfn : fn.results.toList = rs) :
    a.defers = [] ∧ ∃ v, (results fn a.tmps).run P w = .ok v w ∧ ∃ v', Ending.returned v = .returned v' ∧ OwnR w w0 r v' ∧ Low w0 w0.toWorld w := by
  unfold RetVC at h
  split at h
  · rename_i ps ks ds h1 ho
    obtain ⟨h2, hfd, h3, hr, hds⟩ := h
    obtain ⟨us, vs, q1, q2, q3, q4, q5⟩ := expRs_sound hT R h1 h3
    obtain ⟨o1, o2, o3⟩ := expOs_sound R ho hfd
    subst hfn
    refine ⟨R.df, _, results_run fn a.tmps q1, _, rfl, ⟨r.outs.map fun p => β p.1, vs, ?_, ?_, ?_, ?_, ?_⟩, R.low⟩
    · rw [← hr]
      match ps, us, q2, q5 with
      | [], [], q2, _ => exact ⟨[], rfl, q2⟩
      | [(b, ds)], [u], q2, _ =>
        obtain ⟨u', r', x, c, hu, rfl, hx, hb, hr, rfl⟩ := q2
        simp only [List.cons.injEq] at hu
        obtain ⟨rfl, rfl⟩ := hu
        cases b with
        | true => simp only [toRV, RShape, List.append_nil]; exact hb
        | false =>
          simp only at hb
          subst hb
          match ds, hx with
          | [d], _ => simp [toRV, RShape]
      | p1 :: p2 :: ps, u1 :: u2 :: us, q2, _ =>
        simp only [toRV, RShape]
        exact ⟨_, rfl, q2⟩
    · simp only [List.map_map]
      refine List.map_congr_left fun p hp => ?_
      obtain ⟨c, hc⟩ := Option.isSome_iff_exists.1 (hfix p hp)
      simp only [Function.comp, hc, (R.fx _ _ hc).2]
    all_goals
      have hc : cellsR r.r = ps.flatMap (·.2) := by
        rw [← hr]
        match ps with
        | [] => rfl
        | [(true, ds)] => simp [toRV, cellsR]
        | [(false, [])] => simp [toRV, cellsR]
        | [(false, [d])] => simp [toRV, cellsR]
        | [(false, d :: e :: ds)] => simp [toRV, cellsR]
        | p1 :: p2 :: ps => simp [toRV, cellsR]
      rw [hc, ← hds]
    · rw [freshCs_append, hfd, h3]; rfl
    · exact o1.append q3
    · rw [fpDs_app o1, o2, q4, ← List.flatMap_append]
      refine ⟨nodup_obFp R h2, ?_⟩
      intro b hb
      obtain ⟨k, _, hb⟩ := List.mem_flatMap.1 hb
      exact R.ge k b hb
  · exact h.elim

end Go.Sm
