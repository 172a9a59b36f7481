/- Towards the rows of this seat: what the functions do, as contracts over plain data. -/
import Derived.Test.YtnpeodnepableaaGreatPkQrIsDeskAK8
import Derived.Test.YtnpeodnepableaaGreatPkQrIsDeskAK1
namespace Go.Sm
open Go.RowKit

theorem snocInd {α : Type} {motive : List α → Prop} (nil : motive []) (snoc : ∀ xs x, motive xs → motive (xs ++ [x])) (xs : List α) : motive xs := by
  have h : ∀ n, ∀ xs : List α, xs.length = n → motive xs := by
    intro n
    induction n with
    | zero => intro xs h; rw [List.length_eq_zero_iff.1 h]; exact nil
    | succ n ih =>
      intro xs h
      have hne : xs ≠ [] := fun e => by rw [e] at h; simp at h
      rw [← List.dropLast_concat_getLast hne]
      exact snoc _ _ (ih _ (by simp [h]))
  exact h _ xs rfl

/-! ### products -/
def addE (x y : Ex) : Ex := ⟨by8 ((x.a.toNat : Int) + y.a.toNat), by8 ((x.b.toNat : Int) + y.b.toNat), by8 ((x.c.toNat : Int) + y.c.toNat)⟩
def mulRow (p : Int) (a : Tm) (out us : List Tm) : List Tm := us.foldl (fun o b => putT p o (addE a.e b.e) (a.v * b.v)) out
def mulT (p : Int) (ts us : List Tm) : List Tm := ts.foldl (fun o a => mulRow p a o us) []
def mulRowS (p : Int) (a : Tm) (l : List (Ex × Int)) (us : List Tm) : List (Ex × Int) := us.foldl (fun l b => sput l (addE a.e b.e) ((sget l (addE a.e b.e) + a.v * b.v).tmod p)) l
def mulS (p : Int) (ts us : List Tm) : List (Ex × Int) := ts.foldl (fun l a => mulRowS p a l us) []
theorem mulRow_snoc (p : Int) (a : Tm) (out us : List Tm) (b : Tm) : mulRow p a out (us ++ [b]) = putT p (mulRow p a out us) (addE a.e b.e) (a.v * b.v) := by simp [mulRow]
theorem mulT_snoc (p : Int) (ts us : List Tm) (a : Tm) : mulT p (ts ++ [a]) us = mulRow p a (mulT p ts us) us := by simp [mulT]
theorem mulRowS_snoc (p : Int) (a : Tm) (l : List (Ex × Int)) (us : List Tm) (b : Tm) : mulRowS p a l (us ++ [b]) = sput (mulRowS p a l us) (addE a.e b.e) ((sget (mulRowS p a l us) (addE a.e b.e) + a.v * b.v).tmod p) := by simp [mulRowS]
theorem mulS_snoc (p : Int) (ts us : List Tm) (a : Tm) : mulS p (ts ++ [a]) us = mulRowS p a (mulS p ts us) us := by simp [mulS]

/-- The map and the terms tell the same. -/
def Tell (p : Int) (n : Nat) (l : List (Ex × Int)) (ts : List Tm) : Prop :=
  (l.map (·.1)).Nodup ∧ l.length ≤ n ∧ Can p ts ∧ ts.length ≤ n ∧ ∀ e, sget l e = coef ts e
theorem Tell.nil (p : Int) : Tell p 0 [] [] := ⟨by simp, by simp, can_nil p, by simp, fun e => by simp [sget, coef]⟩
theorem Tell.step {p : Int} {n : Nat} {l : List (Ex × Int)} {ts : List Tm} (hp : 0 < p) (h : Tell p n l ts) (e : Ex) {v : Int} (hv : 0 ≤ v) :
    Tell p (n + 1) (sput l e ((sget l e + v).tmod p)) (putT p ts e v) := by
  obtain ⟨h1, h2, h3, h4, h5⟩ := h
  obtain ⟨k1, k2⟩ := putT_can hp h3 e v
  have hb := coef_bound hp h3 e
  have hl := sput_length l e ((sget l e + v).tmod p)
  have hl2 := putT_length p ts e v
  refine ⟨sput_nodup h1 _ _, by omega, k1, by omega, fun e' => ?_⟩
  rw [sget_sput, k2]
  split
  · rw [h5, Int.tmod_eq_emod_of_nonneg (by omega), Int.add_comm]
  · exact h5 e'
theorem Tell.row {p : Int} {l : List (Ex × Int)} {ts : List Tm} {n : Nat} (hp : 0 < p) (a : Tm) (ha : 0 ≤ a.v) (h : Tell p n l ts) : ∀ us : List Tm, (∀ u ∈ us, 0 ≤ u.v) → Tell p (n + us.length) (mulRowS p a l us) (mulRow p a ts us) := by
  intro us
  induction us using snocInd with
  | nil => intro _; exact h
  | snoc us u ih =>
    intro hu
    rw [mulRow_snoc, mulRowS_snoc, List.length_append]
    exact Tell.step hp (ih fun x hx => hu x (by simp [hx])) _ (Int.mul_nonneg ha (hu u (by simp)))
theorem Tell.mul {p : Int} (hp : 0 < p) (us : List Tm) (hu : ∀ u ∈ us, 0 ≤ u.v) : ∀ ts : List Tm, (∀ t ∈ ts, 0 ≤ t.v) → Tell p (ts.length * us.length) (mulS p ts us) (mulT p ts us) := by
  intro ts
  induction ts using snocInd with
  | nil => intro _; simpa [mulS, mulT] using Tell.nil p
  | snoc ts t ih =>
    intro ht
    rw [mulT_snoc, mulS_snoc, List.length_append, List.length_singleton, Nat.succ_mul]
    exact Tell.row hp t (ht t (by simp)) (ih fun x hx => ht x (by simp [hx])) us hu
theorem Tell.eq {p : Int} {n : Nat} {l : List (Ex × Int)} {ts : List Tm} (hp : 0 < p) (h : Tell p n l ts) : ofSum p l = ts := by
  obtain ⟨h1, _, h3, _, h5⟩ := h
  obtain ⟨k1, k2⟩ := ofSum_can hp h1
  refine can_ext k1 h3 fun e => ?_
  have := coef_bound hp h3 e
  rw [k2, h5, Int.emod_eq_of_lt (by omega) (by omega)]
/-! ### sums -/
/-! ### entries of a map, added to -/
end Go.Sm

namespace Go.Sm
open Go.RowKit

end Go.Sm

namespace Go.Sm
open Go.RowKit

end Go.Sm

namespace Go.Sm
open Go.RowKit

end Go.Sm

namespace Go.Sm
open Go.RowKit

@[simp] theorem argEs_take {α : Type} (f : α → List D) (xs : List α) (n : Nat) : argEs ((xs.map f).take n) = (xs.map fun x => argCs (f x)).take n := by rw [← List.map_take, argEs_map, List.map_take]
@[simp] theorem locEs_take {α : Type} (f : α → List D) (xs : List α) (n : Nat) : locEs ((xs.map f).take n) = (xs.map fun x => locCs (f x)).take n := by rw [← List.map_take, locEs_map, List.map_take]
@[simp] theorem freshEs_take {α : Type} (f : α → List D) (xs : List α) (n : Nat) : freshEs ((xs.map f).take n) = (xs.take n).all fun x => freshCs (f x) := by rw [← List.map_take, freshEs_map]
@[simp] theorem stOEs_take {α : Type} (f : α → List D) (xs : List α) (n : Nat) : stOEs ((xs.map f).take n) = (xs.take n).all fun x => stOCs (f x) := by rw [← List.map_take, stOEs_map]
@[simp] theorem okNo_take {α : Type} (f : α → List D) (xs : List α) (n : Nat) : okNo ((xs.map f).take n) = (xs.take n).all fun x => okNoC (f x) := by rw [← List.map_take, okNo_map]
@[simp] theorem argEs_drop {α : Type} (f : α → List D) (xs : List α) (n : Nat) : argEs ((xs.map f).drop n) = (xs.map fun x => argCs (f x)).drop n := by rw [← List.map_drop, argEs_map, List.map_drop]
@[simp] theorem locEs_drop {α : Type} (f : α → List D) (xs : List α) (n : Nat) : locEs ((xs.map f).drop n) = (xs.map fun x => locCs (f x)).drop n := by rw [← List.map_drop, locEs_map, List.map_drop]
@[simp] theorem freshEs_drop {α : Type} (f : α → List D) (xs : List α) (n : Nat) : freshEs ((xs.map f).drop n) = (xs.drop n).all fun x => freshCs (f x) := by rw [← List.map_drop, freshEs_map]
@[simp] theorem stOEs_drop {α : Type} (f : α → List D) (xs : List α) (n : Nat) : stOEs ((xs.map f).drop n) = (xs.drop n).all fun x => stOCs (f x) := by rw [← List.map_drop, stOEs_map]
@[simp] theorem okNo_drop {α : Type} (f : α → List D) (xs : List α) (n : Nat) : okNo ((xs.map f).drop n) = (xs.drop n).all fun x => okNoC (f x) := by rw [← List.map_drop, okNo_map]
@[simp] theorem drop_rest {α : Type} (f : α → List D) (xs : List α) (n : Nat) : ((xs.map f).drop n).take (xs.length - n) = (xs.map f).drop n := List.take_of_length_le (by simp)

/-! ### the program's -/
end Go.Sm

namespace Go.Sm
open Go.RowKit

/-! ### the reference's -/
end Go.Sm

namespace Go.Sm
open Go.RowKit

end Go.Sm
