/- Towards the rows of this seat: what the functions do, as contracts over plain data. -/
import Derived.Test.YtdfihhfnnogpeaaGreatPk19
import Derived.Test.YtdfihhfnnogpeaaGreatPk2
import Derived.Test.YtdfihhfnnogpeaaGreatPk3
namespace Go.Sm
open Go.RowKit

/-- How monomials are ordered: by their exponents alone, or by the degree first. -/
def wL (e : Ex) : Nat := (e.a.toNat * 1000 + e.b.toNat) * 1000 + e.c.toNat
def wG (e : Ex) : Nat := ((e.a.toNat + e.b.toNat + e.c.toNat) * 1000 + e.a.toNat) * 1000 + e.b.toNat

def cmp8 (x y : UInt8) : Int := if (x.toNat : Int) < y.toNat then -1 else if (y.toNat : Int) < x.toNat then 1 else 0
def cmpL (x y : Ex) : Int := if x.a.toNat ≠ y.a.toNat then cmp8 x.a y.a else if x.b.toNat ≠ y.b.toNat then cmp8 x.b y.b else cmp8 x.c y.c
theorem cmpL_pos (x y : Ex) : 0 < cmpL x y ↔ wL y < wL x := by
  have := u8_lt x.a; have := u8_lt x.b; have := u8_lt x.c; have := u8_lt y.a; have := u8_lt y.b; have := u8_lt y.c
  unfold cmpL cmp8 wL
  split
  · split
    · omega
    · split <;> omega
  · split
    · split
      · omega
      · split <;> omega
    · split
      · omega
      · split <;> omega
theorem cmp8_eq {x y : UInt8} : cmp8 x y = 0 ↔ x.toNat = y.toNat := by
  unfold cmp8
  split
  · omega
  · split <;> omega

abbrev vEx (x : Ex) : D := .vw true 1 [[u8 x.a], [u8 x.b], [u8 x.c]]
abbrev Tm.ds (t : Tm) : List D := [u8 t.e.a, u8 t.e.b, u8 t.e.c, i64 t.v]
abbrev fnD1 (f : Nat) : D := .v (.func (.func f) #[] #[])
/-- The first term whose exponents are the greatest. -/
def maxT (m : Tm) : List Tm → Tm
  | [] => m
  | t :: ts => maxT (if wL m.e < wL t.e then t else m) ts
theorem maxT_mem : ∀ (ts : List Tm) (m : Tm), maxT m ts ∈ m :: ts
  | [], m => by simp [maxT]
  | t :: ts, m => by
    have := maxT_mem ts (if wL m.e < wL t.e then t else m)
    unfold maxT
    by_cases h : wL m.e < wL t.e
    · rw [if_pos h] at this ⊢
      exact List.mem_cons_of_mem _ this
    · rw [if_neg h] at this ⊢
      rcases List.mem_cons.1 this with h | h
      · rw [h]; exact List.mem_cons_self ..
      · exact List.mem_cons_of_mem _ (List.mem_cons_of_mem _ h)
theorem maxT_max : ∀ (ts : List Tm) (m : Tm), ∀ u ∈ m :: ts, wL u.e ≤ wL (maxT m ts).e
  | [], m => by simp [maxT]
  | t :: ts, m => by
    intro u hu
    have ih := maxT_max ts (if wL m.e < wL t.e then t else m)
    unfold maxT
    have h0 := ih _ (List.mem_cons_self ..)
    have h1 : wL m.e ≤ wL (if wL m.e < wL t.e then t else m).e ∧ wL t.e ≤ wL (if wL m.e < wL t.e then t else m).e := by
      split <;> omega
    rcases List.mem_cons.1 hu with rfl | hu
    · exact Nat.le_trans h1.1 h0
    · rcases List.mem_cons.1 hu with rfl | hu
      · exact Nat.le_trans h1.2 h0
      · exact ih u (List.mem_cons_of_mem _ hu)
theorem maxT_take {m : Tm} {ts : List Tm} {i : Nat} {t : Tm} (h : ts[i]? = some t) : maxT m (ts.take (i + 1)) = if wL (maxT m (ts.take i)).e < wL t.e then t else maxT m (ts.take i) := by
  induction ts generalizing m i with
  | nil => simp at h
  | cons x ts ih =>
    cases i with
    | zero =>
      simp only [List.getElem?_cons_zero, Option.some.injEq] at h
      subst h
      rfl
    | succ i =>
      simp only [List.take_succ_cons, maxT]
      exact ih (by simpa using h)

end Go.Sm
