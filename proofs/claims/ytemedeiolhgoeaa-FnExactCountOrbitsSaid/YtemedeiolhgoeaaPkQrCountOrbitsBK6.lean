/- Towards the rows of this seat: what the functions do, as contracts over plain data. -/
import Derived.Test.YtemedeiolhgoeaaPkQrCountOrbitsBK5
namespace Go.Sm
open Go.RowKit

variable {P : Program} {N : Nat} {w0 : Base} {s : St} {a : Act} {w : World} {β : Nat → Value}

/-- A function that is run on these objects and leaves them as they are; it returns x. -/
def ClosV (P : Program) (w0 : Base) (f : FuncId) (fs : List FV) (ob : List (Nat × Ob)) (x : Value) : Prop :=
  Entered P f ∧ ∀ w β, RelO w0 ob w β → ∀ vs, FVsV (St.en ⟨[], ob⟩ w w0.arg β) fs vs → Calls P f vs.toArray w fun e w' => e = .returned x ∧ ∃ β', RelO w0 ob w' β'

def CVQ (P : Program) (w0 : Base) (fn : Func) (ob : List (Nat × Ob)) (x : Value) : Exit → Act → World → Prop := bodyPost P fn fun e w' => e = .returned x ∧ ∃ β', RelO w0 ob w' β'
/-- The end of such a body. -/
def EndsV (ob : List (Nat × Ob)) (t : Nat) (x : Value) (s : St) : Prop := Fit (autoRn s ⟨[(t, .c (.d (.v x)))], ob⟩) s ⟨[(t, .c (.d (.v x)))], ob⟩

theorem closV_ret (hw : w0.ok64) {fn : Func} {t : Nat} (hrs : fn.results = #[.tmp t]) {ob : List (Nat × Ob)} {x : Value} (s : St) (a : Act) (w : World) (β : Nat → Value) (R : Rel N w0 s a w β) (h : EndsV ob t x s) : CVQ P w0 fn ob x .normal a w ∧ CVQ P w0 fn ob x .ret a w := by
  have hR := Fit.rel hw h R
  have hv : a.tmps.getD t undef = x := val_rel (hR.tm t _ (lk_cons_self _ _ _))
  have h1 : RelO w0 ob w _ := hR.toO
  have h2 : (results fn a.tmps).run P w = .ok x w := by rw [results_tmp hrs, hv]
  exact ⟨⟨R.df, _, h2, rfl, _, h1⟩, ⟨R.df, _, h2, rfl, _, h1⟩⟩

theorem ClosV.of {F : Fn} {f : FuncId} {fn : Func} {c : Code} {fs : List FV} {ob : List (Nat × Ob)} {x : Value} (hf : F.P.funcs[f]? = some fn) (hb : fn.body = some c) (hN : fn.ntmps = F.N)
    (hname : (fn.name == "runtime.NumGoroutine") = false) (hle : fs.length ≤ F.N) (h : J F.P F.N w0 (CVQ F.P w0 fn ob x) [.code c] ⟨fsTm 0 fs, ob⟩) : ClosV F.P w0 f fs ob x := by
  refine ⟨⟨fn, hf, hname, by rw [hb]; rfl⟩, fun w β R vs hv => ?_⟩
  refine calls_of_wp hf hb ?_
  have hl := hv.length
  have R' : Rel F.N w0 ⟨fsTm 0 fs, ob⟩ { tmps := vs.toArray ++ Array.replicate (fn.ntmps - vs.toArray.size) undef, defers := [] } w β := by
    refine ⟨by simp; omega, rfl, ?_, R.ob, R.nd, R.dj, R.ge, R.low, R.fx⟩
    intro t f h
    obtain ⟨v, h1, h2, h3⟩ := fsTm_rel hv t f h
    simp only [Nat.sub_zero] at h1
    have hlt := (List.getElem?_eq_some_iff.1 h1).1
    have : (vs.toArray ++ Array.replicate (fn.ntmps - vs.toArray.size) undef).getD t undef = v := by
      rw [Array.getD_eq_getD_getElem?, Array.getElem?_append_left (by simpa using hlt)]
      simp [h1]
    rw [this]; exact h3
  have := h _ w β R'
  simp only [cont] at this
  exact this

/-- The call of such a closure. The slots sl stay. -/
theorem OpW.closV (hw : w0.ok64) {Q : Exit → Act → World → Prop} {all : Array Oper} {os : List Oper} {k : List It} {o : Oper} {d : Nat} {g : FuncId} {c : Call} {x : Operand} {vs : List Value} {rs : List FV} {ob : List (Nat × Ob)} {y : Value} (hy : y.oneCell' = true) (ks sl : List Nat)
    (ho : o.op = .call c) (hc : c.callee = .value x) (hd : o.dst = some d) (hlt : d < N) (hx : s.opd x = some (.c (.d (.v (.func (.func g) #[] vs.toArray)))))
    (ha : argsV s.opd c.args.toList = some rs) (hrs : rs.all (FV.stable []) = true) (hks : vs.map some = ks.map w0.fix) (hvar : ks.all (fun K => isVar (lk ob K)) = true)
    (hcl : ClosV P w0 g (rs ++ ks.map fun K => .c (.ref K 0)) ob y) (hfit : Fit (autoRn s ⟨[], ob⟩) s ⟨[], ob⟩)
    (hst : (s.tm.filter fun p => sl.elem p.1).all (fun p => p.2.stable ks) = true)
    (h : J P N w0 Q (.ops all os :: k) ⟨(d, .c (.d (.v y))) :: s.tm.filter (fun p => sl.elem p.1), ob⟩) : OpW P N w0 Q all os k s o := by
  intro a w β R
  have R0 : RelO w0 ob w _ := (Fit.rel hw hfit R).toO
  have hfn := val_rel (R.opd hx)
  obtain ⟨⟨fn, f1, f2, f3⟩, hcall⟩ := hcl
  have f2' : ¬ fn.name = "runtime.NumGoroutine" := by simpa using f2
  have f3' : ¬ fn.body = none := fun e => by rw [e] at f3; simp at f3
  have r1 : (execOp a.eval o).run P w = .ok (.enter g (c.args.toList.map a.eval ++ vs).toArray) w := by
    simp [execOp, ho, resolve, hc, hfn, Deferred.ofValue, invoke, callFunc, f1, f2', f3']
  have hargs : FVsV (St.en ⟨[], ob⟩ w w0.arg (fun k => β (ren (autoRn s ⟨[], ob⟩) k))) (rs ++ ks.map fun K => .c (.ref K 0)) (c.args.toList.map a.eval ++ vs) :=
    FVsV.append (scal_rel hrs (argsV_sound R ha)) (caps_rel R0 hks hvar)
  unfold Oper.wp
  rw [r1, Oper.upon_enter]
  refine Calls.mono (hcall w _ R0 _ hargs) fun e w' ⟨he, β', R'⟩ => ?_
  subst he
  rw [hd]
  have hks' : ∀ K ∈ ks, (w0.fix K).isSome = true := by
    intro K hK
    have : w0.fix K ∈ vs.map some := by rw [hks]; exact List.mem_map_of_mem hK
    obtain ⟨v, _, hv⟩ := List.mem_map.1 this
    rw [← hv]; rfl
  have R2 : Rel N w0 ⟨s.tm.filter (fun p => sl.elem p.1), ob⟩ a w' β' := by
    refine ⟨R.sz, R.df, ?_, R'.ob, R'.nd, R'.dj, R'.ge, R'.low, R'.fx⟩
    intro t f hf
    have hlk : ∀ {l : List (Nat × FV)}, lk (l.filter fun p => sl.elem p.1) t = some f → lk l t = some f ∧ (t, f) ∈ l.filter fun p => sl.elem p.1 := by
      intro l
      induction l with
      | nil => intro h; simp [lk] at h
      | cons p l ih =>
        intro h
        obtain ⟨i, g⟩ := p
        by_cases hi : sl.elem i = true
        · rw [List.filter_cons_of_pos (by simpa using hi)] at h ⊢
          rw [lk_cons] at h ⊢
          split at h
          · rename_i e; subst e
            simp only [Option.some.injEq] at h; subst h
            exact ⟨by simp, by simp⟩
          · rename_i e
            rw [if_neg e]
            exact ⟨(ih h).1, List.mem_cons_of_mem _ (ih h).2⟩
        · rw [List.filter_cons_of_neg (by simpa using hi)] at h ⊢
          have hit : i ≠ t := by
            intro e; subst e
            have hm := lk_mem h
            simp only [List.mem_map, List.mem_filter] at hm
            obtain ⟨q, ⟨_, hq⟩, e⟩ := hm
            rw [e] at hq; exact hi hq
          rw [lk_cons, if_neg hit]
          exact ih h
    obtain ⟨h1, h2⟩ := hlk hf
    exact FV.stable_rel hks' R R' (List.all_eq_true.1 hst _ h2) (R.tm t f h1)
  have h3 := h _ w' β' (R2.setTm hlt (rel_val hy))
  simpa only [cont] using h3

end Go.Sm
