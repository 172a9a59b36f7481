/- The conditions suffice: code, calls, loops, and a function as a whole. -/
import Derived.Test.YtihinogdolhjcaaSmP
namespace Go.Sm
open Go.RowKit

variable {P : Program} {N : Nat} {w0 : Base} {s : St} {a : Act} {w : World} {β : Nat → Value}

theorem impCs_append : ∀ (xs ys : List D) (k : Nat), impCs k (xs ++ ys) = impCs k xs ++ impCs (k + xs.length) ys
  | [], ys, k => by simp [impCs]
  | x :: xs, ys, k => by
    have := impCs_append xs ys (k + 1)
    rw [show k + 1 + xs.length = k + (xs.length + 1) by omega] at this
    cases x <;> simp [impCs, this]
theorem impCs_length : ∀ (xs : List D) (k : Nat), (impCs k xs).length = xs.length
  | [], k => rfl
  | x :: xs, k => by cases x <;> simp [impCs, impCs_length xs]

theorem CsRel.split {en : En} : ∀ {cs ds : List C} {vs us : List Value}, cs.length = vs.length → CsRel en (cs ++ ds) (vs ++ us) → CsRel en cs vs ∧ CsRel en ds us
  | [], ds, [], us, _, h => ⟨trivial, by simpa using h⟩
  | [], _, _ :: _, _, h, _ => by simp at h
  | _ :: _, _, [], _, h, _ => by simp at h
  | c :: cs, ds, v :: vs, us, hl, h => by
    obtain ⟨h1, h2⟩ := h
    obtain ⟨a, b⟩ := CsRel.split (cs := cs) (vs := vs) (by simpa using hl) h2
    exact ⟨⟨h1, a⟩, b⟩

theorem impOne_rel {en : En} {k : Nat} {x : D} {v : Value} (h : CsRel en (impCs k [x]) [v]) : FVRel en (match impCs k [x] with | [c] => .c c | _ => .und) v := by
  cases x <;> simp only [impCs] at h ⊢ <;> simp only [FVRel] <;> exact h.1

theorem impPs_rel {en : En} : ∀ {ps : List (Bool × List D)} {us vs : List Value} {k : Nat}, CompShape ps us vs → CsRel en (impCs k (ps.flatMap (·.2))) vs → FVsRel en (impPs k ps) us
  | [], us, vs, k, h, _ => by obtain ⟨rfl, _⟩ := h; simp [impPs, FVsRel]
  | (b, ds) :: ps, us, vs, k, h, hc => by
    obtain ⟨u, r, x, c, rfl, rfl, hx, hb, hr⟩ := h
    rw [List.flatMap_cons, impCs_append] at hc
    obtain ⟨h1, h2⟩ := CsRel.split (by rw [impCs_length, hx]) hc
    have ih := impPs_rel hr h2
    cases b with
    | true =>
      simp only at hb
      simp only [impPs, FVsRel]
      exact ⟨u, r, rfl, by simp only [FVRel]; exact ⟨x, hb, h1⟩, ih⟩
    | false =>
      simp only at hb
      subst hb
      match ds, hx with
      | [d], _ =>
        simp only [impPs, FVsRel]
        exact ⟨u, r, rfl, impOne_rel h1, by simpa using ih⟩

theorem impF_rel {en : En} {k : Nat} {q : RV} {v : Value} {vs : List Value} (h : RShape q v vs) (hc : CsRel en (impCs k (cellsR q)) vs) : FVRel en (impF k q) v := by
  cases q with
  | one x =>
    simp only [RShape] at h; subst h
    exact impOne_rel hc
  | agg xs => simp only [RShape] at h; simp only [impF, FVRel]; exact ⟨vs, h, hc⟩
  | tup ps =>
    obtain ⟨us, rfl, h⟩ := h
    simp only [impF, FVRel]
    exact ⟨us, rfl, impPs_rel h hc⟩

theorem Rel.retm (R : Rel N w0 s a w β) {d : Nat} {f : FV} (h : FVRel (s.en w w0.arg β) f (a.tmps.getD d undef)) : Rel N w0 ⟨(d, f) :: s.tm, s.ob⟩ a w β := by
  refine ⟨R.sz, R.df, ?_, R.ob, R.nd, R.dj, R.ge, R.low, R.fx⟩
  intro j g hj
  rw [lk_cons] at hj
  split at hj
  · rename_i e; subst e; simp only [Option.some.injEq] at hj; subst hj; exact h
  · exact R.tm j g hj

theorem Rel.putUnd (R : Rel N w0 s a w β) (d : Option Tmp) : Rel N w0 (s.put d .und) (a.put d undef) w β := by
  cases d with
  | none => exact R
  | some d =>
    by_cases hd : d < N
    · exact R.setTm hd (by simp only [FVRel])
    · have hd' : a.tmps.size ≤ d := by rw [R.sz]; exact Nat.le_of_not_lt hd
      have e : a.put (some d) undef = a := by
        simp only [Act.put]
        rw [Array.setIfInBounds_eq_of_size_le hd']
      rw [e]
      exact R.retm (by simp only [FVRel]; simp [hd'])

theorem yielded_bool {all : Array Oper} {j d : Nat} {b : Bool} {tmps : Array Value} (hj : (all[j]?).bind (·.dst) = some d) (h : tmps.getD d undef = .bool b) : yielded all tmps j = some b := by
  unfold yielded
  rw [hj]
  simp only [Option.bind_some]
  by_cases hd : d < tmps.size
  · simp [hd] at h ⊢
    rw [h]
  · simp [hd, undef] at h
theorem yielded_undef {all : Array Oper} {j d : Nat} {tmps : Array Value} (hj : (all[j]?).bind (·.dst) = some d) (h : tmps.getD d undef = undef) : yielded all tmps j = none := by
  unfold yielded
  rw [hj]
  simp only [Option.bind_some]
  by_cases hd : d < tmps.size
  · simp [hd] at h ⊢
    rw [h]; rfl
  · simp [hd]

structure FnOk (F : Fn) : Prop where
  T : TabOk F.P F.T
  E : ∀ t n, lk F.E t = some n → EqOk F.P t n

/-- One operation that is carried out. -/
theorem go_sound {F : Fn} (hF : FnOk F) {Q : Exit → Act → World → Prop} {all : Array Oper} {o : Oper} {os : List Oper} {k : List It}
    (R : Rel F.N w0 s a w β)
    (h : match o.dst with
      | some d => Nat.blt d F.N = true ∧ match ev F.T F.E s.opd (lk s.ob) (base s.ob d) o.type o.op with
        | .q p v ns => p ∧ freshOs s.ob ns = true ∧ J F.P F.N w0 Q (.ops all os :: k) ⟨(d, v) :: s.tm, ns ++ s.ob⟩
        | .el xs i => (0 ≤ i ∧ i < xs.length) ∧ ∀ e, xs[i.toNat]? = some e → J F.P F.N w0 Q (.ops all os :: k) ⟨(d, .c (.rd e)) :: s.tm, s.ob⟩
        | .ld xs i j size agg => i < xs.length ∧ ∀ e, xs[i]? = some e → J F.P F.N w0 Q (.ops all os :: k) ⟨(d, ldV e j size agg) :: s.tm, s.ob⟩
        | .call f fs => CallW F.P F.N w0 Q (.ops all os :: k) s d f fs
        | .bs t len qs => BsW F.P F.N w0 Q (.ops all os :: k) s d t len qs
        | .ef p v ns => p ∧ (lk s.ob (base s.ob d)).isNone = true ∧ J F.P F.N w0 Q (.ops all os :: k) ⟨(d, v) :: s.tm, ns ++ s.ob⟩
        | .fail => OpW F.P F.N w0 Q all os k s o
      | none => match ev F.T F.E s.opd (lk s.ob) 0 o.type o.op with
        | .ef p .und ns => p ∧ J F.P F.N w0 Q (.ops all os :: k) ⟨s.tm, ns ++ s.ob⟩
        | _ => OpW F.P F.N w0 Q all os k s o) :
    o.wp F.P a w (wpList F.P all (cont F.P F.N w0 Q k) os) (cont F.P F.N w0 Q k) := by
  have use : ∀ {s' : St} {a' : Act} {w' : World} {β' : Nat → Value}, J F.P F.N w0 Q (.ops all os :: k) s' → Rel F.N w0 s' a' w' β' → wpList F.P all (cont F.P F.N w0 Q k) os a' w' := by
    intro s' a' w' β' hj hr
    have := hj a' w' β' hr
    simpa only [cont] using this
  unfold Oper.wp
  cases hd : o.dst with
  | some d =>
    rw [hd] at h
    obtain ⟨hlt, h⟩ := h
    have hlt : d < F.N := by simpa [Nat.blt_eq] using hlt
    split at h
    · rename_i p v ns he
      obtain ⟨hp, hfr, hj⟩ := h
      obtain ⟨val, w', β', r1, r2, r3⟩ := ev_q hF.T hF.E R he hp hfr
      rw [r1, Oper.upon_value, hd]
      exact use hj (r2.setTm hlt r3)
    · rename_i xs i he
      obtain ⟨hi, hj⟩ := h
      obtain ⟨val, r1, r2⟩ := ev_el hF.T R he hi
      rw [r1, Oper.upon_value, hd]
      have hx : xs[i.toNat]? = some (xs[i.toNat]'(by omega)) := by simp
      exact use (hj _ hx) (R.setTm hlt (r2 _ hx))
    · rename_i xs i j size agg he
      obtain ⟨hi, hj⟩ := h
      have hx : xs[i]? = some (xs[i]'hi) := by simp
      obtain ⟨val, r1, r2⟩ := ev_ld hF.T R he hx
      rw [r1, Oper.upon_value, hd]
      exact use (hj _ hx) (R.setTm hlt r2)
    · rename_i f fs he
      obtain ⟨hent, hcall⟩ := h
      obtain ⟨vs, r1, r2⟩ := ev_call R he hent
      rw [r1, Oper.upon_enter]
      refine Calls.mono (hcall a w β R vs r2) fun e w' ⟨v, hv, s', β', hR, hj⟩ => ?_
      subst hv
      rw [hd]
      exact use hj hR
    · rename_i t len qs he
      obtain ⟨vs, r1, r2⟩ := ev_bs (P := F.P) R he
      obtain ⟨val, w', s', β', q1, q2, q3⟩ := h a w β R vs r1
      rw [r2 val w' q1, Oper.upon_value, hd]
      exact use q3 q2
    · rename_i p v ns he
      obtain ⟨hp, hfr, hj⟩ := h
      simp only [Option.isNone_iff_eq_none] at hfr
      rcases ev_ef hF.T hF.E R he hp with ⟨w', β', r1, rfl, r2⟩ | ⟨_, hval⟩
      · rw [r1, Oper.upon_skip, hd]
        exact use hj (r2.setTm hlt (by simp only [FVRel]))
      · obtain ⟨val, w', β', r1, r2, r3⟩ := hval hfr
        rw [r1, Oper.upon_value, hd]
        exact use hj (r2.setTm hlt r3)
    · have := h a w β R
      unfold Oper.wp at this
      exact this
  | none =>
    rw [hd] at h
    simp only at h
    split at h
    · rename_i p ns he
      obtain ⟨hp, hj⟩ := h
      rcases ev_ef hF.T hF.E R he hp with ⟨w', β', r1, _, r2⟩ | ⟨hne, _⟩
      · rw [r1, Oper.upon_skip, hd]
        exact use hj r2
      · exact absurd rfl hne
    · have := h a w β R
      unfold Oper.wp at this
      exact this

/-- A call of a function that changes no argument. -/
theorem CallW.ok {Q : Exit → Act → World → Prop} {k : List It} {d f : Nat} {fs : List FV} {args : List RV} {q : RV} (hd : d < N) (ha : argsR (lk s.ob) fs = some args) (hc : CallOK P f args q)
    (hfr : freshOs s.ob (impOs (d * 64) (cellsR q)) = true) (hj : J P N w0 Q k ⟨(d, impF (d * 64) q) :: s.tm, impOs (d * 64) (cellsR q) ++ s.ob⟩) : CallW P N w0 Q k s d f fs := by
  refine ⟨hc.1, fun a w β R vs hv => ?_⟩
  refine Calls.mono (hc.2 w vs (argsR_sound R ha hv)) fun e w' ⟨v, hv, hown, hb⟩ => ?_
  obtain ⟨us, q1, q2, q3, q4, q5⟩ := hown
  obtain ⟨β', g1, g2⟩ := R.import hb hfr q2 q3 q4 q5
  exact ⟨v, hv, _, β', g1.setTm hd (impF_rel q1 g2), hj⟩

/-- THE CONDITIONS SUFFICE. -/
theorem vc_sound {F : Fn} (hF : FnOk F) {r : Res} {fn : Func} (hfn : fn.results.toList = F.rs) (hfix : ∀ p ∈ r.outs, (w0.fix p.1).isSome = true) : ∀ (n : Nat) (k : List It) (s : St), vc F w0 (F.post w0 r fn) r n k s → J F.P F.N w0 (F.post w0 r fn) k s
  | 0, k, s, h => h
  | n + 1, [], s, h => by
    intro a w β R
    simp only [vc] at h
    exact ret_sound hF.T R hfix h fn hfn
  | n + 1, .code c :: k, s, h => by
    intro a w β R
    cases c with
    | skip => simp only [vc] at h; simp only [cont]; exact wp_skip (vc_sound hF hfn hfix n _ _ h a w β R)
    | seq x y => simp only [vc] at h; exact cont_seq (vc_sound hF hfn hfix n _ _ h a w β R)
    | block id c => simp only [vc] at h; exact cont_block (vc_sound hF hfn hfix n _ _ h a w β R)
    | exit id =>
      simp only [vc] at h
      split at h
      · rename_i k' hk; simp only [cont]; exact wp_exit (cont_unw hk (vc_sound hF hfn hfix n _ _ h a w β R))
      · exact h.elim
    | cond c x y =>
      simp only [vc] at h
      split at h
      · rename_i b hc
        obtain ⟨h1, h2⟩ := h
        have hb := bool_rel (R.opd hc)
        simp only [cont]
        exact wp_cond_split hb (fun e => by have := vc_sound hF hfn hfix n _ _ (h1 e) a w β R; simpa only [cont] using this)
          (fun e => by have := vc_sound hF hfn hfix n _ _ (h2 e) a w β R; simpa only [cont] using this)
      · exact h.elim
    | region id ops draw =>
      cases draw with
      | false =>
        simp only [vc] at h
        have := vc_sound hF hfn hfix n _ _ h a w β R
        simp only [cont] at this ⊢
        exact wp_region_list this
      | true => simp only [vc] at h; exact h a w β R
    | ret => simp only [vc] at h; simp only [cont]; exact wp_ret (by
        have : ∀ k : List It, cont F.P F.N w0 (F.post w0 r fn) k .ret a w := by
          intro k
          induction k with
          | nil => exact ret_sound hF.T R hfix h fn hfn
          | cons x k ih => cases x <;> simpa only [cont] using ih
        exact this k)
    | loop c => simp only [vc] at h; exact h a w β R
    | _ => simp only [vc] at h; exact h a w β R
  | n + 1, .blk id :: k, s, h => by
    intro a w β R
    simp only [vc] at h
    have := vc_sound hF hfn hfix n _ _ h a w β R
    simpa only [cont] using this
  | n + 1, .inv p :: k, s, h => by
    intro a w β R
    simp only [vc] at h
    simp only [cont]
    exact ⟨s, β, h, R⟩
  | n + 1, .ops all [] :: k, s, h => by
    intro a w β R
    simp only [vc] at h
    simp only [cont]
    exact wpList_nil (vc_sound hF hfn hfix n _ _ h a w β R)
  | n + 1, .ops all (o :: os) :: k, s, h => by
    intro a w β R
    have ih : ∀ k s, vc F w0 (F.post w0 r fn) r n k s → J F.P F.N w0 (F.post w0 r fn) k s := fun k s h => vc_sound hF hfn hfix n k s h
    simp only [vc] at h
    simp only [cont]
    unfold wpList
    -- one operation, carried out, in whatever state
    have go : ∀ {s' : St}, Rel F.N w0 s' a w β → (match o.dst with
      | some d => Nat.blt d F.N = true ∧ match ev F.T F.E s'.opd (lk s'.ob) (base s'.ob d) o.type o.op with
        | .q p v ns => p ∧ freshOs s'.ob ns = true ∧ vc F w0 (F.post w0 r fn) r n (.ops all os :: k) ⟨(d, v) :: s'.tm, ns ++ s'.ob⟩
        | .el xs i => (0 ≤ i ∧ i < xs.length) ∧ ∀ e, xs[i.toNat]? = some e → vc F w0 (F.post w0 r fn) r n (.ops all os :: k) ⟨(d, .c (.rd e)) :: s'.tm, s'.ob⟩
        | .ld xs i j size agg => i < xs.length ∧ ∀ e, xs[i]? = some e → vc F w0 (F.post w0 r fn) r n (.ops all os :: k) ⟨(d, ldV e j size agg) :: s'.tm, s'.ob⟩
        | .call f fs => CallW F.P F.N w0 (F.post w0 r fn) (.ops all os :: k) s' d f fs
        | .bs t len qs => BsW F.P F.N w0 (F.post w0 r fn) (.ops all os :: k) s' d t len qs
        | .ef p v ns => p ∧ (lk s'.ob (base s'.ob d)).isNone = true ∧ vc F w0 (F.post w0 r fn) r n (.ops all os :: k) ⟨(d, v) :: s'.tm, ns ++ s'.ob⟩
        | .fail => OpW F.P F.N w0 (F.post w0 r fn) all os k s' o
      | none => match ev F.T F.E s'.opd (lk s'.ob) 0 o.type o.op with
        | .ef p .und ns => p ∧ vc F w0 (F.post w0 r fn) r n (.ops all os :: k) ⟨s'.tm, ns ++ s'.ob⟩
        | _ => OpW F.P F.N w0 (F.post w0 r fn) all os k s' o) → o.wp F.P a w (wpList F.P all (cont F.P F.N w0 (F.post w0 r fn) k) os) (cont F.P F.N w0 (F.post w0 r fn) k) := by
      intro s' R' h'
      refine go_sound hF R' ?_
      cases hd : o.dst with
      | some d =>
        rw [hd] at h'
        simp only at h' ⊢
        refine ⟨h'.1, ?_⟩
        have h'' := h'.2
        split at h''
        · exact ⟨h''.1, h''.2.1, ih _ _ h''.2.2⟩
        · exact ⟨h''.1, fun e he => ih _ _ (h''.2 e he)⟩
        · exact ⟨h''.1, fun e he => ih _ _ (h''.2 e he)⟩
        · exact h''
        · exact h''
        · exact ⟨h''.1, h''.2.1, ih _ _ h''.2.2⟩
        · exact h''
      | none =>
        rw [hd] at h'
        simp only at h' ⊢
        split at h'
        · exact ⟨h'.1, ih _ _ h'.2⟩
        · exact h'
    have skip : ∀ {s' : St}, Rel F.N w0 s' a w β → vc F w0 (F.post w0 r fn) r n (.ops all os :: k) (s'.put o.dst .und) →
        wpList F.P all (cont F.P F.N w0 (F.post w0 r fn) k) os (a.put o.dst undef) w := by
      intro s' R' h'
      have := ih _ _ h' _ w β (R'.putUnd o.dst)
      simpa only [cont] using this
    cases hg : o.guard with
    | none =>
      rw [hg] at h
      have hw : Region.wanted o (yielded all a.tmps) = true := by simp [Region.wanted, hg]
      rw [if_pos hw]
      exact .inl (go R h)
    | some g =>
      obtain ⟨j, want⟩ := g
      rw [hg] at h
      simp only at h
      split at h
      · rename_i d hj
        split at h
        · rename_i b hb
          have hv := bool_rel (R.tm d _ hb)
          have hy := yielded_bool hj hv
          have hwt : Region.wanted o (yielded all a.tmps) = (b == want) := by
            simp only [Region.wanted, hg, hy]
            cases b <;> cases want <;> rfl
          have hre : ∀ c, b = c → Rel F.N w0 ⟨(d, .c (.d (.v (.bool c)))) :: s.tm, s.ob⟩ a w β := fun c e => R.retm (by rw [hv, e]; exact rel_bool _)
          by_cases hbw : b = want
          · rw [if_pos (by rw [hwt, hbw]; cases want <;> rfl)]
            exact .inl (go (hre want hbw) (h.1 hbw))
          · have hbn : b = (!want) := by cases b <;> cases want <;> first | rfl | exact absurd rfl hbw
            rw [if_neg (by rw [hwt, hbn]; cases want <;> exact fun h => nomatch h)]
            exact skip (hre _ hbn) (h.2 hbn)
        · rename_i hb
          have hv := R.tm d _ hb
          simp only [FVRel] at hv
          have hy := yielded_undef hj hv
          rw [if_neg (by simp [Region.wanted, hg, hy])]
          exact skip R h
        · exact h.elim
      · exact h.elim

end Go.Sm
