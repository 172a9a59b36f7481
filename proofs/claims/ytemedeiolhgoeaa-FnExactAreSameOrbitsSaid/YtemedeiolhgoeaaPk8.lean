/- Towards the rows of this seat: what the functions do, as contracts over plain data. -/
import Derived.Test.YtemedeiolhgoeaaPk2
namespace Go.Sm
open Go.RowKit

variable {P : Program} {N : Nat} {w0 : Base} {s : St} {a : Act} {w : World} {β : Nat → Value}

theorem J.op {Q : Exit → Act → World → Prop} {all : Array Oper} {os : List Oper} {k : List It} {o : Oper} (hg : o.guard = none) (h : OpW P N w0 Q all os k s o) : J P N w0 Q (.ops all (o :: os) :: k) s := by
  intro a w β R
  have := h a w β R
  simp only [cont, wpList]
  rw [if_pos (by unfold Region.wanted; rw [hg])]
  exact .inl this

/-- A slot is set to nil. -/
theorem J.nil {Q : Exit → Act → World → Prop} {all : Array Oper} {os : List Oper} {k : List It} {o : Oper} {d : Nat} (hg : o.guard = none) (ho : o.op = .assign (.const (.slice none 0 0))) (hd : o.dst = some d) (hlt : d < N)
    (h : J P N w0 Q (.ops all os :: k) ⟨(d, .c (.d (.v nilV))) :: s.tm, s.ob⟩) : J P N w0 Q (.ops all (o :: os) :: k) s := by
  refine J.op hg (OpW.val hd fun a w β R => ⟨nilV, w, _, β, by simp [execOp, ho, Act.eval], R.setTm hlt ?_, h⟩)
  exact ⟨rfl, rfl, rfl, rfl⟩

/-- Nil compared with nil. -/
theorem OpW.nilNil {Q : Exit → Act → World → Prop} {all : Array Oper} {os : List Oper} {k : List It} {o : Oper} {d t t' e : Nat} {x : Operand} (ho : o.op = .binOp .eql t x (.const (.slice none 0 0)) t') (hd : o.dst = some d) (hlt : d < N)
    (ht : P.underlying t = some (.slice e)) (hx : s.opd x = some (.c (.d (.v nilV)))) (h : J P N w0 Q (.ops all os :: k) ⟨(d, .c (.d (.v (.bool true)))) :: s.tm, s.ob⟩) : OpW P N w0 Q all os k s o := by
  refine OpW.val hd fun a w β R => ?_
  have hr := R.opd hx
  simp only [FVRel, CRel, Rd] at hr
  have he : a.eval x = .slice none 0 0 := hr.2.2.1
  have r1 := run_eql_nil (P := P) none 0 0 ht x (.const (.slice none 0 0)) w
  exact ⟨.bool true, w, _, β, exec_binOp ho _ _ he rfl r1, R.setTm hlt (rel_bool _), h⟩

end Go.Sm
