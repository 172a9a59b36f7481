/- Towards the rows of this seat: what the functions do, as contracts over plain data. -/
import Derived.Test.YtemedeiolhgoeaaPkQrCountOrbitsBK9
import Derived.Test.YtemedeiolhgoeaaPkQrCountOrbitsBK4
namespace Go.Sm
open Go.RowKit

variable {P : Program} {N : Nat} {w0 : Base} {s : St} {a : Act} {w : World} {β : Nat → Value}

theorem rdEs_vals {w : World} {B M : Nat → Prop} {b : Nat} : ∀ (us : List Value) (off : Nat), (∀ u ∈ us, u.oneCell' = true) → (∀ n u, us[n]? = some u → w.cell? ⟨b, off + n, none⟩ = some u) → RdEs w B M 1 (us.map fun u => [D.v u]) b off
  | [], _, _, _ => by simp [RdEs]
  | u :: us, off, h1, h => by
    simp only [List.map_cons, RdEs, RdCs, Rd]
    refine ⟨rfl, ⟨⟨u, by simpa using h 0 u rfl, rfl, h1 u (by simp)⟩, trivial⟩, rdEs_vals us (off + 1) (fun x hx => h1 x (by simp [hx])) fun n x hx => ?_⟩
    have := h (n + 1) x (by simpa using hx)
    rw [show off + 1 + n = off + (n + 1) by omega]; exact this
theorem csRel_vals {en : En} : ∀ {us : List Value} {vs : List Value}, CsRel en ((us.map D.v).map C.d) vs → vs = us ∧ ∀ u ∈ us, u.oneCell' = true
  | [], [], _ => ⟨rfl, by simp⟩
  | [], _ :: _, h => h.elim
  | _ :: _, [], h => h.elim
  | u :: us, v :: vs, h => by
    simp only [List.map_cons, CsRel, CRel, Rd] at h
    obtain ⟨h1, h2⟩ := csRel_vals (us := us) (vs := vs) h.2
    refine ⟨by rw [h.1.2.2.1, h1], fun x hx => ?_⟩
    rcases List.mem_cons.1 hx with rfl | hx
    · exact h.1.2.2.2
    · exact h2 x hx

end Go.Sm

namespace Go.Sm
open Go.RowKit

variable {P : Program} {N : Nat} {w0 : Base} {s : St} {a : Act} {w w' : World} {β : Nat → Value} {X : Nat → Prop} {B M M' : Nat → Prop}

def argLC (ks : List Nat) (ob : Nat → Option Ob) : C → Option D
  | .d x => match stA x with
    | true => some x
    | false => none
  | .ob k => match ob k, ks.elem k with
    | some (.arr e z xs), true => match freshEs xs with
      | true => some (.own e z xs)
      | false => none
    | _, _ => none
  | .win k z 0 n => match ob k, ks.elem k with
    | some (.arr _ z' xs), false => match Nat.beq z z' && Nat.beq n xs.length && stAEs xs with
      | true => some (.vw true z xs)
      | false => none
    | _, _ => none
  | _ => none
def argLCs (ks : List Nat) (ob : Nat → Option Ob) : List C → Option (List D)
  | [] => some []
  | c :: cs => match argLC ks ob c, argLCs ks ob cs with
    | some d, some ds => some (d :: ds)
    | _, _ => none
def argLF (ks : List Nat) (ob : Nat → Option Ob) : FV → Option RV
  | .c x => match argLC ks ob x with
    | some d => some (.one d)
    | none => none
  | .g xs => match argLCs ks ob xs with
    | some ds => some (.agg ds)
    | none => none
  | _ => none
def argsL (ks : List Nat) (ob : Nat → Option Ob) : List FV → Option (List RV)
  | [] => some []
  | f :: r => match argLF ks ob f, argsL ks ob r with
    | some d, some ds => some (d :: ds)
    | _, _ => none
attribute [simp] argLC argLCs argLF argsL
end Go.Sm
