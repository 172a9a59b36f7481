/- Rules for single operations and for loops of few rounds. -/
import Derived.Test.YtihinogdolhjcaaSnE
import Derived.LoopN
namespace Go.Sm
open Go.RowKit

variable {P : Program} {N : Nat} {w0 : Base} {s : St} {a : Act} {w : World} {β : Nat → Value}

theorem OpW.val {Q : Exit → Act → World → Prop} {all : Array Oper} {os : List Oper} {k : List It} {o : Oper} {d : Nat} (hd : o.dst = some d)
    (h : ∀ a w β, Rel N w0 s a w β → ∃ val w' s' β', (execOp a.eval o).run P w = .ok (.value val) w' ∧ Rel N w0 s' (a.put (some d) val) w' β' ∧ J P N w0 Q (.ops all os :: k) s') : OpW P N w0 Q all os k s o := by
  intro a w β R
  obtain ⟨val, w', s', β', h1, h2, h3⟩ := h a w β R
  unfold Oper.wp
  rw [h1, Oper.upon_value, hd]
  have := h3 _ _ _ h2
  simpa only [cont] using this

theorem Rel.drew (R : Rel N w0 s a w β) : Rel N w0 s a w.drew β := R.world ⟨⟨rfl, rfl, rfl, Nat.le_refl _, fun _ _ => rfl⟩, Nat.le_succ _⟩

/-- The next step of a walk over a map. -/
theorem OpW.next {Q : Exit → Act → World → Prop} {all : Array Oper} {os : List Oper} {k : List It} {o : Oper} {d key : Nat} {x : Operand} {m : MD} {rem : List (List Int × Value)} {last : Option (List Int × Value)} (ho : o.op = .next x false) (hd : o.dst = some d) (hlt : d < N)
    (hx : s.opd x = some (.c (.ref key 0))) (hk : lk s.ob key = some (.it m rem last)) (h0 : rem = [] → J P N w0 Q (.ops all os :: k) ⟨(d, .t [.c (.d (.v (.bool false)))]) :: s.tm, s.ob⟩)
    (h1 : ∀ i e, rem[i]? = some e → J P N w0 Q (.ops all os :: k) ⟨(d, .t [.c (.d (.v (.bool true))), keyFV m.kk e.1, .c (.d (.v e.2))]) :: s.tm, (key, .it m (rem.eraseIdx i) (some e)) :: s.ob⟩) : OpW P N w0 Q all os k s o := by
  refine OpW.val hd fun a w β R => ?_
  have hr := R.opd hx
  simp only [FVRel, CRel] at hr
  obtain ⟨_, g', hg, he⟩ := hr
  obtain ⟨g, r, since, seen, st, q1, q2, q3, q4⟩ := R.ob key _ hk
  have hg' : β key = .pointer (some ⟨g', 0, none⟩) := hg
  have q1' : β key = .pointer (some ⟨g, 0, none⟩) := q1
  rw [hg'] at q1'
  simp only [Value.pointer.injEq, Option.some.injEq, Addr.mk.injEq, and_true] at q1'
  subst q1'
  have hr3 := q3
  simp only [Rd, Value.map.injEq, Option.some.injEq] at hr3
  obtain ⟨r', es, clock, rfl, q5, q6, q7⟩ := hr3
  rcases run_next (P := P) (ty := o.type) q2 q6 q7 q4 with ⟨rfl, hrun⟩ | ⟨i, e, seen', w1, p1, p2, p3, hrun⟩
  · have hrun : (Instr.next (.pointer (some ⟨g', 0, none⟩)) false o.type).run P w = .ok (.tuple #[.bool false]) w := hrun
    refine ⟨_, w, _, β, by simp [execOp, ho, he, hrun]; rfl, R.setTm hlt ?_, h0 rfl⟩
    simp only [FVRel, FVsRel]
    exact ⟨_, rfl, _, _, rfl, rel_bool _, rfl⟩
  · have hrun : (Instr.next (.pointer (some ⟨g', 0, none⟩)) false o.type).run P w = .ok (.tuple #[.bool true, MD.keyV m.kk e.1, e.2]) (World.setOb w1 g' (.mapIter (some r) since seen' clock)) := hrun
    have p3 : w1 = w ∨ w1 = w.drew := p3
    have R1 : Rel N w0 s a w1 β := by
      rcases p3 with rfl | rfl
      · exact R
      · exact R.drew
    have q2' : w1.heap[g']? = some (.mapIter (some r) since seen st) := by rcases p3 with rfl | rfl <;> exact q2
    have q3' : Rd w1 w0.arg (s.en w1 w0.arg β).M (.mp m) (.map (some r)) := by rcases p3 with rfl | rfl <;> exact q3
    have R2 : Rel N w0 ⟨s.tm, (key, .it m (rem.eraseIdx i) (some e)) :: s.ob⟩ a (World.setOb w1 g' (.mapIter (some r) since seen' clock)) β := by
      refine R1.setObj hk rfl (by rw [hg']; rfl) ?_ fun S => ⟨g', r, since, seen', clock, hg', setOb_self w1 g' _ (lt_of_heap q2'), Rd.keep S.K _ _ q3', p2⟩
      rw [obFp_it (lk_cons_self _ _ _)]
      show (blk (β key)).toList = _
      rw [hg']; rfl
    refine ⟨_, _, _, β, by simp [execOp, ho, he, hrun]; rfl, R2.setTm hlt ?_, h1 i e p1⟩
    obtain ⟨j, _, hx⟩ := p2.2.2.2 e rfl
    simp only [FVRel, FVsRel]
    exact ⟨_, rfl, _, _, rfl, rel_bool _, _, _, rfl, keyFV_rel _ _ _, _, _, rfl, rel_val (q7.2.2 _ (List.mem_of_getElem? hx)).2, rfl⟩

theorem exec_binOp {o : Oper} {op : BinOp} {t t' : Nat} {x y : Operand} (ho : o.op = .binOp op t x y t') (u v : Value) (hx : a.eval x = u) (hy : a.eval y = v) {val : Value} {w' : World}
    (h : (do eqGuard op t x y u v; binOp op t u v : Sem Value).run P w = .ok val w') : (execOp a.eval o).run P w = .ok (.value val) w' := by
  subst hx; subst hy
  simp only [execOp, ho, Sem.run_bind] at h ⊢
  rw [h]; rfl

theorem run_eql_nil {t e : TypeId} (ad : Option Addr) (l c : Nat) (ht : P.underlying t = some (.slice e)) (ox oy : Operand) (w : World) :
    (do eqGuard .eql t ox oy (.slice ad l c) (.slice none 0 0); binOp .eql t (.slice ad l c) (.slice none 0 0) : Sem Value).run P w = .ok (.bool ad.isNone) w := by
  have h1 : (eqGuard .eql t ox oy (.slice ad l c) (.slice none 0 0)).run P w = .ok () w := rfl
  have h2 : binOp .eql t (.slice ad l c) (.slice none 0 0) = (do pure (.bool (← Op.equal t (.slice ad l c) (.slice none 0 0))) : Sem Value) := rfl
  rw [Sem.run_bind, h1, Result.andThen_ok, h2, Sem.run_bind]
  have h3 : ∀ d, (Op.equalIn (d + 1) t (.slice ad l c) (.slice none 0 0)).run P w = .ok ad.isNone w := by
    intro d
    cases ad <;> simp [Op.equalIn, run_underlying ht]
  have h4 : (Op.equal t (.slice ad l c) (.slice none 0 0)).run P w = .ok ad.isNone w := h3 9999
  rw [h4]; rfl

/-- A view compared with nil: only an empty one can be nil. -/
theorem OpW.eqNil {Q : Exit → Act → World → Prop} {all : Array Oper} {os : List Oper} {k : List It} {o : Oper} {d t t' e z : Nat} {x : Operand} {b : Bool} {xs : List (List D)} (ho : o.op = .binOp .eql t x (.const (.slice none 0 0)) t') (hd : o.dst = some d) (hlt : d < N)
    (ht : P.underlying t = some (.slice e)) (hx : s.opd x = some (.c (.d (.vw b z xs)))) (h : ∀ c : Bool, (c = true → xs = []) → J P N w0 Q (.ops all os :: k) ⟨(d, .c (.d (.v (.bool c)))) :: s.tm, s.ob⟩) : OpW P N w0 Q all os k s o := by
  refine OpW.val hd fun a w β R => ?_
  have hr := R.opd hx
  simp only [FVRel, CRel, Rd] at hr
  have fin : ∀ (ad : Option Addr) (l c : Nat), a.eval x = .slice ad l c → (execOp a.eval o).run P w = .ok (.value (.bool ad.isNone)) w := by
    intro ad l c he
    have r1 := run_eql_nil (P := P) ad l c ht x (.const (.slice none 0 0)) w
    exact exec_binOp ho _ _ he rfl r1
  rcases hr.2.2 with ⟨rfl, he⟩ | ⟨g, off, cap, he, _⟩
  · exact ⟨.bool true, w, _, β, fin none 0 0 he, R.setTm hlt (rel_bool _), h true fun _ => rfl⟩
  · exact ⟨.bool false, w, _, β, fin _ _ _ he, R.setTm hlt (rel_bool _), h false fun h => by cases h⟩

/-- Slots that are not wanted any more are forgotten. -/
theorem J.keep {Q : Exit → Act → World → Prop} {k : List It} (ks : List Nat) (h : J P N w0 Q k ⟨s.tm.filter (fun p => ks.elem p.1), s.ob⟩) : J P N w0 Q k s := by
  intro a w β R
  refine h a w β ⟨R.sz, R.df, fun t f hf => ?_, R.ob, R.nd, R.dj, R.ge, R.low, R.fx⟩
  have := lk_filter (fun x => ks.elem x) s.tm t
  have hf' : lk (s.tm.filter fun p => ks.elem p.1) t = some f := hf
  rw [this] at hf'
  split at hf'
  · exact R.tm t f hf'
  · cases hf'

@[simp] theorem freshEs_append : ∀ (xs ys : List (List D)), freshEs (xs ++ ys) = (freshEs xs && freshEs ys)
  | [], ys => by simp [freshEs]
  | x :: xs, ys => by simp [freshEs, freshEs_append xs ys, Bool.and_assoc]
@[simp] theorem argEs_append : ∀ (xs ys : List (List D)), argEs (xs ++ ys) = argEs xs ++ argEs ys
  | [], ys => rfl
  | x :: xs, ys => by simp [argEs, argEs_append xs ys]
@[simp] theorem locEs_append : ∀ (xs ys : List (List D)), locEs (xs ++ ys) = locEs xs ++ locEs ys
  | [], ys => rfl
  | x :: xs, ys => by simp [locEs, locEs_append xs ys]
@[simp] theorem stOEs_append : ∀ (xs ys : List (List D)), stOEs (xs ++ ys) = (stOEs xs && stOEs ys)
  | [], ys => by simp [stOEs]
  | x :: xs, ys => by simp [stOEs, stOEs_append xs ys, Bool.and_assoc]
@[simp] theorem okNo_append : ∀ (xs ys : List (List D)), okNo (xs ++ ys) = (okNo xs && okNo ys)
  | [], ys => by simp [okNo]
  | x :: xs, ys => by simp [okNo, okNo_append xs ys, Bool.and_assoc]

/-! ### loops of few rounds -/
def LpW (P : Program) (N : Nat) (w0 : Base) (Q : Exit → Act → World → Prop) (c : Code) (k : List It) (n : Nat) (s : St) : Prop :=
  ∀ a w β, Rel N w0 s a w β → Code.rounds P c (cont P N w0 Q k) n a w

/-- A loop of at most n rounds, the last of which leaves it. -/
theorem J.rounds {Q : Exit → Act → World → Prop} {c : Code} {k : List It} (n : Nat) (h : LpW P N w0 Q c k n s) : J P N w0 Q (.code (.loop c) :: k) s := by
  intro a w β R
  simp only [cont]
  exact wp_loop_rounds n (h a w β R)

theorem LpW.step {Q : Exit → Act → World → Prop} {c : Code} {k : List It} {n : Nat} (h : J P N w0 Q (.code c :: .inv (LpW P N w0 Q c k n) :: k) s) : LpW P N w0 Q c k (n + 1) s := by
  intro a w β R
  rw [rounds_succ]
  have := h a w β R
  simp only [cont] at this
  refine wp_mono this fun e a w h => ?_
  have h' := cont_loop h
  cases e with
  | normal =>
    obtain ⟨s, β, h1, h2⟩ := h'
    exact h1 a w β h2
  | _ => exact h'

theorem LpW.inv {Q : Exit → Act → World → Prop} {c : Code} {k : List It} {n : Nat} (h : LpW P N w0 Q c k n s) : InvW (LpW P N w0 Q c k n) s := h

end Go.Sm
