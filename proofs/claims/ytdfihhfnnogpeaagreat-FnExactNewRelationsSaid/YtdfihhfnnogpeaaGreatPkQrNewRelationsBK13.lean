/- Towards the rows of this seat: what the functions do, as contracts over plain data. -/
import Derived.Test.YtdfihhfnnogpeaaGreatPkQrNewRelationsBK2
namespace Go.Sm
open Go.RowKit

variable {P : Program} {N : Nat} {w0 : Base} {s : St} {a : Act} {w : World} {β : Nat → Value}

/-! ### a variable's cells, told by less -/
theorem CsRel.mono {en : En} : ∀ {cs cs' : List C} {vs : List Value}, cs'.length = cs.length → (∀ (i : Nat) (c c' : C) (v : Value), cs[i]? = some c → cs'[i]? = some c' → CRel en c v → CRel en c' v) → CsRel en cs vs → CsRel en cs' vs
  | [], [], [], _, _, _ => trivial
  | [], _ :: _, _, hl, _, _ => by simp at hl
  | _ :: _, [], _, hl, _, _ => by simp at hl
  | [], [], _ :: _, _, _, h => h.elim
  | _ :: _, _ :: _, [], _, _, h => h.elim
  | c :: cs, c' :: cs', v :: vs, hl, hc, h => ⟨hc 0 c c' v rfl rfl h.1, CsRel.mono (by simpa using hl) (fun i x x' u h1 h2 => hc (i + 1) x x' u (by simpa using h1) (by simpa using h2)) h.2⟩

/-- A view of an argument is a view. -/
theorem CRel.loc {en : En} {z : Nat} {xs : List (List D)} {v : Value} (h : CRel en (.d (.vw true z xs)) v) : CRel en (.d (.vw false z xs)) v := by
  simp only [CRel, Rd] at h ⊢
  refine ⟨rfl, h.2.1, ?_⟩
  rcases h.2.2 with h | ⟨b, off, cap, q1, q2, q3, q4, q5, q6⟩
  · exact .inl h
  · exact .inr ⟨b, off, cap, q1, q2, q3, q4, fun h => (nomatch h), q6⟩

end Go.Sm
