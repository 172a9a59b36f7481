/- Towards the rows of this seat: what the functions do, as contracts over plain data. -/
import Derived.Test.YtemedeiolhgoeaaPkQrCountOrbitsBK2
namespace Go.Sm
open Go.RowKit

variable {P : Program} {N : Nat} {w0 : Base} {s : St} {a : Act} {w : World} {β : Nat → Value}

theorem J.op {Q : Exit → Act → World → Prop} {all : Array Oper} {os : List Oper} {k : List It} {o : Oper} (hg : o.guard = none) (h : OpW P N w0 Q all os k s o) : J P N w0 Q (.ops all (o :: os) :: k) s := by
  intro a w β R
  have := h a w β R
  simp only [cont, wpList]
  rw [if_pos (by unfold Region.wanted; rw [hg])]
  exact .inl this

/-- A slot is set to nil. -/
theorem J.nil {Q : Exit → Act → World → Prop} {all : Array Oper} {os : List Oper} {k : List It} {o : Oper} {d : Nat} (hg : o.guard = none) (ho : o.op = .assign (.const (.slice none 0 0))) (hd : o.dst = some d) (hlt : d < N)
    (h : J P N w0 Q (.ops all os :: k) ⟨(d, .c (.d (.v nilV))) :: s.tm, s.ob⟩) : J P N w0 Q (.ops all (o :: os) :: k) s := by
  refine J.op hg (OpW.val hd fun a w β R => ⟨nilV, w, _, β, by simp [execOp, ho, Act.eval], R.setTm hlt ?_, h⟩)
  exact ⟨rfl, rfl, rfl, rfl⟩

end Go.Sm
