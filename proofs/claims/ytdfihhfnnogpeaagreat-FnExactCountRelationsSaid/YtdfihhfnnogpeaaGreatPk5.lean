/- Towards the rows of this seat: what the functions do, as contracts over plain data. -/
import Derived.Test.YtdfihhfnnogpeaaGreatPk4
import Derived.Test.YtdfihhfnnogpeaaGreatPk3
namespace Go.Sm
open Go.RowKit

/-- The error of a code and a place. -/
def placeN (p l : Int) (rows : List (List Int)) (i : Int) : Int := if GoodC p l rows then (if 0 ≤ i ∧ i < l then (if l = 1 then 5 else 0) else 2) else 1

end Go.Sm

namespace Go.Sm
open Go.RowKit

theorem argEs_takeN : ∀ (xs : List (List D)) (i : Nat), argEs (xs.take i) = (argEs xs).take i
  | [], i => by simp [argEs]
  | x :: xs, 0 => by simp [argEs]
  | x :: xs, i + 1 => by simp [argEs, argEs_takeN xs i]
theorem argEs_dropN : ∀ (xs : List (List D)) (i : Nat), argEs (xs.drop i) = (argEs xs).drop i
  | [], i => by simp [argEs]
  | x :: xs, 0 => by simp [argEs]
  | x :: xs, i + 1 => by simp [argEs, argEs_dropN xs i]
theorem okNo_dropN : ∀ (xs : List (List D)) (i : Nat), okNo xs = true → okNo (xs.drop i) = true
  | [], i, h => by simp [okNo]
  | x :: xs, 0, h => by simpa using h
  | x :: xs, i + 1, h => by
    simp only [okNo, Bool.and_eq_true] at h
    simpa using okNo_dropN xs i h.2

theorem goodRows_cut {p l : Int} {rows : List (List Int)} {i : Nat} (hg : GoodRows p l rows) (hi : (i : Int) < l) (h2 : 2 ≤ l) : GoodRows p (l - 1) (rows.map (cutR i)) := by
  have h10 := hg.1.2
  refine ⟨⟨hg.1.1, by omega, by omega⟩, fun r hr => ?_⟩
  obtain ⟨q, hq, rfl⟩ := List.mem_map.1 hr
  have := cut_row (i := i) (n := l.toNat) (by omega) (hg.rows q hq)
  exact ⟨by rw [this.1]; omega, this.2⟩

end Go.Sm

namespace Go.Sm
open Go.RowKit

theorem placeN_zero {p l : Int} {rows : List (List Int)} {i : Int} (h : placeN p l rows i = 0) : GoodC p l rows ∧ 0 ≤ i ∧ i < l ∧ 2 ≤ l := by
  unfold placeN at h
  split at h
  · rename_i hg
    split at h
    · rename_i h1
      split at h
      · omega
      · have := hg.1.1.2; exact ⟨hg, h1.1, h1.2, by omega⟩
    · omega
  · omega

theorem placeN_range (p l : Int) (rows : List (List Int)) (i : Int) : 0 ≤ placeN p l rows i ∧ placeN p l rows i ≤ 5 := by
  unfold placeN
  repeat' split
  all_goals omega

/-- The punctured code. -/
def punR (p l : Int) (rows : List (List Int)) (i : Int) : (Int × Int × List (List Int)) × Int := if placeN p l rows i = 0 then ((p, l - 1, echL p (rows.map (cutR i.toNat))), 0) else ((0, 0, []), placeN p l rows i)

theorem small_ech {p l : Int} {rows : List (List Int)} (hg : GoodRows p l rows) (hl : rows.length ≤ 100) : (echL p rows).length ≤ 100 ∧ total (echL p rows) ≤ 1000 ∧ ∀ r ∈ echL p rows, r.length ≤ 10 := by
  obtain ⟨h1, h2⟩ := ech_facts hg.1.1 hg.rows
  have h10 := hg.1.2
  have h3 : ∀ r ∈ echL p rows, r.length ≤ 10 := fun r hr => by rw [(h2 r hr).1]; omega
  have := total_bound h3
  exact ⟨by omega, by omega, h3⟩

theorem small_none : ([] : List (List Int)).length ≤ 100 ∧ total [] ≤ 1000 ∧ ∀ r ∈ ([] : List (List Int)), r.length ≤ 10 := ⟨by simp, by simp [total], fun r hr => by cases hr⟩

theorem punR_small (p l : Int) (rows : List (List Int)) (i : Int) : ∃ p' l' E e, punR p l rows i = ((p', l', E), e) ∧ E.length ≤ 100 ∧ total E ≤ 1000 ∧ ∀ r ∈ E, r.length ≤ 10 := by
  unfold punR
  split
  · rename_i h
    obtain ⟨hg, h0, h1, h2⟩ := placeN_zero h
    have hL := hg.2.1
    have h10 := hg.1.1.2
    exact ⟨_, _, _, _, rfl, small_ech (goodRows_cut hg.1 (i := i.toNat) (by omega) h2) (by simp; omega)⟩
  · exact ⟨_, _, _, _, rfl, small_none⟩

end Go.Sm

namespace Go.Sm
open Go.RowKit

/-- The columns of rows. -/
def colsR (n : Nat) (rows : List (List Int)) : List (List Int) := (List.range n).map fun k => rows.map fun r => gt r k

theorem colsR_length (n : Nat) (rows : List (List Int)) : (colsR n rows).length = n := by simp [colsR]
theorem colsR_take {n k : Nat} {rows : List (List Int)} (h : k < n) : (colsR n rows).take (k + 1) = (colsR n rows).take k ++ [rows.map fun r => gt r k] := by
  rw [List.take_add_one, List.getElem?_eq_getElem (by rw [colsR_length]; exact h)]
  simp [colsR]
theorem colsR_row {p : Int} {n : Nat} (hp : 0 < p) {rows : List (List Int)} (hr : ∀ r ∈ rows, RowOk p n r) : ∀ r ∈ colsR n rows, RowOk p rows.length r := by
  intro r h
  obtain ⟨k, -, rfl⟩ := List.mem_map.1 h
  refine ⟨by simp, fun x hx => ?_⟩
  obtain ⟨q, hq, rfl⟩ := List.mem_map.1 hx
  exact gt_range hp (hr q hq) k

end Go.Sm

namespace Go.Sm
open Go.RowKit

theorem good_rws {p l : Int} {rows : List (List Int)} (h : GoodC p l rows) : Rws p l.toNat rows := (ech_good h.1.1.1 h.1.rows h.2.2).1.rws
theorem word_row {p l : Int} {v : List Int} (h : RowP p l v) : RowOk p l.toNat v := ⟨by have := h.1; omega, h.2⟩

/-- Is it a word. -/
def wordOf (p l : Int) (rows : List (List Int)) (v : List Int) : Bool × Int := if GoodC p l rows then (if RowP p l v then (decide (¬ Led (lessL p rows v)), 0) else (false, 2)) else (false, 1)
abbrev wres (r : Bool × Int) : RV := .tup [(false, [bo r.1]), (false, [i64 r.2])]

end Go.Sm
