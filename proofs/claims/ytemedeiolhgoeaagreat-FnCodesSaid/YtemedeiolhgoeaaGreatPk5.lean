/- Towards the rows of this seat: what the functions do, as contracts over plain data. -/
import Derived.Test.YtemedeiolhgoeaaGreatPk4
import Derived.Test.YtemedeiolhgoeaaGreatPk3
namespace Go.Sm
open Go.RowKit

/-- The error of a code and a place. -/
def placeN (p l : Int) (rows : List (List Int)) (i : Int) : Int := if GoodC p l rows then (if 0 ≤ i ∧ i < l then (if l = 1 then 5 else 0) else 2) else 1

theorem placeCode_ok (p l : Int) (rows : List (List Int)) (i : Int) (hl : rows.length ≤ 1048576) (hr : ∀ r ∈ rows, r.length ≤ 1048576) : CallOK Go.Proofs.Tryz.prog 109 [vCode p l rows, .one (i64 i)] (.one (i64 (placeN p l rows i))) := by
  have hF := fnOk 22 [.tmp 4]
  refine callOK hF 60 Go.Proofs.Tryz.func109 rfl rfl rfl (by decide) (by simp) rfl ?_
  intro w0 hw
  have S := @vc_sound w0 _ hF ⟨(.one (i64 (placeN p l rows i))), []⟩ Go.Proofs.Tryz.f109 rfl (by simp)
  have c1 := IsCode_ok p l rows hl hr
  by_cases hg : GoodC p l rows
  · rw [decide_eq_true hg] at c1
    by_cases h0 : 0 ≤ i
    · have b0 : decide (i < 0) = false := decide_eq_false (by omega)
      by_cases h1 : i < l
      · have b1 : decide (l ≤ i) = false := decide_eq_false (by omega)
        have e : placeN p l rows i = if l = 1 then 5 else 0 := by unfold placeN; rw [if_pos hg, if_pos ⟨h0, h1⟩]
        rw [e] at S ⊢
        by_cases h2 : l = 1
        · rw [if_pos h2] at S ⊢
          simp
          refine CallW.ok (by decide) (by simp) c1 (by simp) (S 60 _ _ ?_)
          simp [b0, h2]
          exact (by omega : i < 1)
        · rw [if_neg h2] at S ⊢
          simp
          refine CallW.ok (by decide) (by simp) c1 (by simp) (S 60 _ _ ?_)
          simp [b0, b1, h2]
          try omega
      · have b1 : decide (l ≤ i) = true := decide_eq_true (by omega)
        have e : placeN p l rows i = 2 := by unfold placeN; rw [if_pos hg, if_neg fun h => h1 h.2]
        rw [e] at S ⊢
        simp
        refine CallW.ok (by decide) (by simp) c1 (by simp) (S 60 _ _ ?_)
        simp [b0, b1]
        try omega
    · have b0 : decide (i < 0) = true := decide_eq_true (by omega)
      have e : placeN p l rows i = 2 := by unfold placeN; rw [if_pos hg, if_neg fun h => h0 h.1]
      rw [e] at S ⊢
      simp
      refine CallW.ok (by decide) (by simp) c1 (by simp) (S 60 _ _ ?_)
      simp [b0]
      try omega
  · rw [decide_eq_false hg] at c1
    have e : placeN p l rows i = 1 := by unfold placeN; rw [if_neg hg]
    rw [e] at S ⊢
    simp
    refine CallW.ok (by decide) (by simp) c1 (by simp) (S 60 _ _ ?_)
    simp

theorem l10Place_ok (p l : Int) (rows : List (List Int)) (i : Int) (hl : rows.length ≤ 1048576) (hr : ∀ r ∈ rows, r.length ≤ 1048576) : CallOK Go.Proofs.Tryz.prog 113 [vCode p l rows, .one (i64 i)] (.one (i64 (placeN p l rows i))) := by
  have hF := fnOk 20 [.tmp 4]
  refine callOK hF 60 Go.Proofs.Tryz.func113 rfl rfl rfl (by decide) (by simp) rfl ?_
  intro w0 hw
  have S := @vc_sound w0 _ hF ⟨(.one (i64 (placeN p l rows i))), []⟩ Go.Proofs.Tryz.f113 rfl (by simp)
  have c1 := l10Is_ok p l rows hl hr
  by_cases hg : GoodC p l rows
  · rw [decide_eq_true hg] at c1
    have h10 := hg.1.1.2
    have hw1 : IntKind.i64.wrap (l - 1) = l - 1 := wrap64 (by omega) (by omega)
    have c2 := l01In_ok i 0 (l - 1)
    by_cases h0 : 0 ≤ i ∧ i < l
    · rw [decide_eq_true (show 0 ≤ i ∧ i ≤ l - 1 by omega)] at c2
      have e : placeN p l rows i = if l = 1 then 5 else 0 := by unfold placeN; rw [if_pos hg, if_pos h0]
      rw [e] at S ⊢
      by_cases h2 : l = 1
      · rw [if_pos h2] at S ⊢
        simp
        refine CallW.ok (by decide) (by simp) c1 (by simp) (S 60 _ _ ?_)
        simp [hw1]
        refine CallW.ok (by decide) (by simp) c2 (by simp) (S 60 _ _ ?_)
        simp [h2]
      · rw [if_neg h2] at S ⊢
        simp
        refine CallW.ok (by decide) (by simp) c1 (by simp) (S 60 _ _ ?_)
        simp [hw1]
        refine CallW.ok (by decide) (by simp) c2 (by simp) (S 60 _ _ ?_)
        simp [h2]
    · rw [decide_eq_false (show ¬ (0 ≤ i ∧ i ≤ l - 1) by omega)] at c2
      have e : placeN p l rows i = 2 := by unfold placeN; rw [if_pos hg, if_neg h0]
      rw [e] at S ⊢
      simp
      refine CallW.ok (by decide) (by simp) c1 (by simp) (S 60 _ _ ?_)
      simp [hw1]
      refine CallW.ok (by decide) (by simp) c2 (by simp) (S 60 _ _ ?_)
      simp
  · rw [decide_eq_false hg] at c1
    have e : placeN p l rows i = 1 := by unfold placeN; rw [if_neg hg]
    rw [e] at S ⊢
    simp
    refine CallW.ok (by decide) (by simp) c1 (by simp) (S 60 _ _ ?_)
    simp

end Go.Sm

namespace Go.Sm
open Go.RowKit

theorem argEs_takeN : ∀ (xs : List (List D)) (i : Nat), argEs (xs.take i) = (argEs xs).take i
  | [], i => by simp [argEs]
  | x :: xs, 0 => by simp [argEs]
  | x :: xs, i + 1 => by simp [argEs, argEs_takeN xs i]
theorem argEs_dropN : ∀ (xs : List (List D)) (i : Nat), argEs (xs.drop i) = (argEs xs).drop i
  | [], i => by simp [argEs]
  | x :: xs, 0 => by simp [argEs]
  | x :: xs, i + 1 => by simp [argEs, argEs_dropN xs i]
theorem okNo_dropN : ∀ (xs : List (List D)) (i : Nat), okNo xs = true → okNo (xs.drop i) = true
  | [], i, h => by simp [okNo]
  | x :: xs, 0, h => by simpa using h
  | x :: xs, i + 1, h => by
    simp only [okNo, Bool.and_eq_true] at h
    simpa using okNo_dropN xs i h.2

set_option maxHeartbeats 1000000 in
theorem without_ok (n i : Nat) (rows : List (List Int)) (hl : rows.length ≤ 1000000) (hn : n ≤ 1048576) (hi : i < n) (hr : ∀ r ∈ rows, r.length = n) : CallOK Go.Proofs.Tryz.prog 112 [.one (vIntss rows), .one (i64 i)] (.one (oIntss (rows.map (cutR i)))) := by
  have hF := fnOk 29 [.tmp 4]
  refine callOK hF 60 Go.Proofs.Tryz.func112 rfl rfl rfl (by decide) (by simp) rfl ?_
  intro w0 hw
  have S := @vc_sound w0 _ hF ⟨(.one (oIntss (rows.map (cutR i)))), []⟩ Go.Proofs.Tryz.f112 rfl (by simp)
  simp
  refine J.loop hw (fun k : Nat => ⟨[(1, .c (.d (i64 i))), (5, .c (.ob 64005)), (9, .c (.d (vIntss rows))), (10, .c (.d (i64 rows.length))), (11, .c (.d (i64 k)))], [(64005, .arr 43 1 (((rows.take k).map (cutR i)).map fun xs => [oInts xs]))]⟩)
    (fun k => k ≤ rows.length) (fun k => rows.length - k) 0 (by simp) (by simp) ?_
  intro k hk
  have hal : ((rows.take k).map (cutR i)).length = k := by simp; omega
  have hst := fun r (h : rows[k]? = some r) => (show (rows.take (k + 1)).map (cutR i) = (rows.take k).map (cutR i) ++ [cutR i r] by rw [List.take_add_one, h]; simp)
  generalize hac : (rows.take k).map (cutR i) = acc at hal hst
  refine S 8 _ _ ?_
  simp
  refine ⟨fun hlt => ?_, fun hge => ?_⟩
  · obtain ⟨r, hr'⟩ : ∃ r, rows[k]? = some r := ⟨rows[k], List.getElem?_eq_getElem hlt⟩
    have hrl := hr r (List.mem_of_getElem? hr')
    have hst := hst r hr'
    have c1 := Clone_ok (r.take i) (by simp; omega)
    refine S 7 _ _ ?_
    simp
    refine ⟨hlt, fun r' hr'' => ?_⟩
    obtain rfl : r = r' := Option.some.inj (hr'.symm.trans hr'')
    refine S 60 _ _ ?_
    simp
    have hwi : IntKind.i64.wrap ((i : Int) + 1) = ((i + 1 : Nat) : Int) := by rw [wrap64] <;> omega
    have a1 : argEs (List.take i (ints r)) = ints (r.take i) := by rw [argEs_takeN]; simp
    have a3 : okNo (List.drop (i + 1) (List.map (fun i => [D.v (Value.int IntKind.i64 i)]) r)) = true := okNo_dropN _ _ (by simp)
    have a2 : List.take (n - (i + 1)) (List.drop (i + 1) (ints r)) = ints (r.drop (i + 1)) := by
      rw [show List.drop (i + 1) (ints r) = ints (r.drop (i + 1)) by simp, List.take_of_length_le (by simp; omega)]
    refine J.dr3 hF mixed 11 [[], [], [], [1, 2], [1, 2, 3], [], [], [6], [5, 6, 7], [1, 2, 3, 4, 5, 6, 7, 8], [1, 2, 3, 4, 5, 6, 7, 8, 9], [0, 1, 2, 3, 4, 5, 6, 7, 8, 9, 10], [0, 1, 2, 3, 4, 5, 6, 7, 8, 9, 10, 11]] [[15, 16, 17, 18, 19, 20, 21, 22, 23, 24, 25], [15, 16, 17, 18, 19, 20, 21, 22, 23, 24, 25], [15, 16, 17, 18, 19, 20, 21, 22, 23, 24, 25], [15, 18, 19, 20, 21, 22, 23, 24, 25], [15, 19, 20, 21, 22, 23, 24, 25], [15, 16, 17, 18, 19, 20, 21, 22, 23, 24, 25], [15, 16, 17, 18, 19, 20, 21, 22, 23, 24, 25], [15, 16, 17, 18, 19, 20, 22, 23, 24, 25], [15, 16, 17, 18, 19, 23, 24, 25], [15, 24, 25], [15, 25]] [[], [], [], [], [], [], [], [], [], [1216], [1536]] [[1216, 1536], [], [], [], [], [], [], [], [], [], []] [] [] (by decide) ?_
    simp
    have c1 : CallOK Go.Proofs.Tryz.prog 110 [.one (vInts (r.take i))] (.one (oInts (r.take i))) := c1
    refine ⟨by omega, DrC3.ok hF (by rfl) (by simp [a1]) c1 (by simp) (by simp) ?_⟩
    simp [hwi, hrl, a2, a3]
    refine ⟨⟨by omega, by omega⟩, ⟨by omega, by omega⟩, ?_⟩
    refine DrB3.move hF (by rfl) (e := 43) (es := [[oInts (cutR i r)]]) (ks := [1536]) (by decide) rfl rfl rfl (by simp [cutR]) (by simp) rfl (by decide) (by decide) (by simp) (by simp) ?_
    simp
    refine S 60 _ _ ?_
    simp [hal]
    refine ⟨⟨by omega, by omega⟩, ?_⟩
    have hst2 : List.take (k + 1) (List.map ((fun xs => [oInts xs]) ∘ cutR i) rows) = acc.map (fun xs => [oInts xs]) ++ [[oInts (cutR i r)]] := by
      rw [← List.map_take, ← List.map_map, hst]; simp
    exact Nxt.mk (k + 1) hlt (by simp [wrapS (i := k) (n := rows.length) hlt (by omega), hst2]) (by omega)
  · have e : rows.take k = rows := List.take_of_length_le hge
    rw [e] at hac
    subst hac
    refine S 60 _ _ ?_
    simp

theorem goodRows_cut {p l : Int} {rows : List (List Int)} {i : Nat} (hg : GoodRows p l rows) (hi : (i : Int) < l) (h2 : 2 ≤ l) : GoodRows p (l - 1) (rows.map (cutR i)) := by
  have h10 := hg.1.2
  refine ⟨⟨hg.1.1, by omega, by omega⟩, fun r hr => ?_⟩
  obtain ⟨q, hq, rfl⟩ := List.mem_map.1 hr
  have := cut_row (i := i) (n := l.toNat) (by omega) (hg.rows q hq)
  exact ⟨by rw [this.1]; omega, this.2⟩

set_option maxHeartbeats 1000000 in
theorem l10CutF_ok (p l : Int) (i : Nat) (rows : List (List Int)) (hg : GoodRows p l rows) (hl : rows.length ≤ 1000000) (hi : (i : Int) < l) (h2 : 2 ≤ l) : CallOK Go.Proofs.Tryz.prog 114 [vCode p l rows, .one (i64 i), .one (bo false)] (oCode p (l - 1) (echL p (rows.map (cutR i)))) := by
  have hF := fnOk 130 [.cell 6 26]
  refine callOK hF 60 Go.Proofs.Tryz.func114 rfl rfl rfl (by decide) (by simp) rfl ?_
  intro w0 hw
  have S := @vc_sound w0 _ hF ⟨(oCode p (l - 1) (echL p (rows.map (cutR i)))), []⟩ Go.Proofs.Tryz.f114 rfl (by simp)
  have h10 := hg.1.2
  have c9 := l10Of_ok p (l - 1) (rows.map (cutR i)) (goodRows_cut hg hi h2) (by simpa using hl)
  have hwl : IntKind.i64.wrap (l - 1) = l - 1 := wrap64 (by omega) (by omega)
  simp
  refine J.loop hw (fun k : Nat => ⟨[(1, .c (.d (i64 i))), (3, .c (.ref 64003 0)), (6, .c (.ref 64006 0)), (7, .c (.d (vIntss rows))), (16, .c (.ob 64016)), (17, .c (.d (i64 k)))],
      [(64003, .var [.d (i64 p), .d (i64 l), .d (vIntss rows)]), (64006, .var [.d (i64 0), .d (i64 0), .ob 64007]), (64007, .arr 43 1 []), (64016, .arr 43 1 (((rows.take k).map (cutR i)).map fun xs => [oInts xs]))]⟩)
    (fun k => k ≤ rows.length) (fun k => rows.length - k) 0 (by simp) (by simp) ?_
  intro k hk
  have hal : ((rows.take k).map (cutR i)).length = k := by simp; omega
  have hst := fun r (h : rows[k]? = some r) => (show (rows.take (k + 1)).map (cutR i) = (rows.take k).map (cutR i) ++ [cutR i r] by rw [List.take_add_one, h]; simp)
  generalize hac : (rows.take k).map (cutR i) = acc at hal hst
  refine S 12 _ _ ?_
  simp
  refine ⟨fun hlt => ?_, fun hge => ?_⟩
  · obtain ⟨r, hr'⟩ : ∃ r, rows[k]? = some r := ⟨rows[k], List.getElem?_eq_getElem hlt⟩
    have hrl := (hg.rows r (List.mem_of_getElem? hr')).1
    have hst := hst r hr'
    have c1 := l01Own_ok (r.take i) (by simp; omega)
    have hwi : IntKind.i64.wrap ((i : Int) + 1) = ((i + 1 : Nat) : Int) := by rw [wrap64] <;> omega
    have a1 : argEs (List.take i (ints r)) = ints (r.take i) := by rw [argEs_takeN]; simp
    have a3 : okNo (List.drop (i + 1) (List.map (fun i => [D.v (Value.int IntKind.i64 i)]) r)) = true := okNo_dropN _ _ (by simp)
    have a2 : List.take (l.toNat - (i + 1)) (List.drop (i + 1) (ints r)) = ints (r.drop (i + 1)) := by
      rw [show List.drop (i + 1) (ints r) = ints (r.drop (i + 1)) by simp, List.take_of_length_le (by simp; omega)]
    refine S 60 _ _ ?_
    simp
    refine J.dr3 hF mixed 17 [[], [], [], [1, 2], [1, 2, 3], [], [1, 2, 3, 4, 5], [1, 2, 3, 4, 5, 6], [], [], [8, 9], [8, 9, 10], [], [12], [8, 9, 10, 11, 12, 13], [1, 2, 3, 4, 5, 6, 7, 8, 9, 10, 11, 12, 13, 14], [1, 2, 3, 4, 5, 6, 7, 8, 9, 10, 11, 12, 13, 14, 15], [0, 1, 2, 3, 4, 5, 6, 7, 8, 9, 10, 11, 12, 13, 14, 15, 16], [0, 1, 2, 3, 4, 5, 6, 7, 8, 9, 10, 11, 12, 13, 14, 15, 16, 17]] [[105, 106, 107, 108, 109, 110, 111, 112, 113, 114, 115, 116, 117, 118, 119, 120, 121], [105, 106, 107, 108, 109, 110, 111, 112, 113, 114, 115, 116, 117, 118, 119, 120, 121], [105, 106, 107, 108, 109, 110, 111, 112, 113, 114, 115, 116, 117, 118, 119, 120, 121], [105, 108, 109, 110, 111, 112, 113, 114, 115, 116, 117, 118, 119, 120, 121], [105, 109, 110, 111, 112, 113, 114, 115, 116, 117, 118, 119, 120, 121], [105, 106, 107, 108, 109, 110, 111, 112, 113, 114, 115, 116, 117, 118, 119, 120, 121], [105, 111, 112, 113, 114, 115, 116, 117, 118, 119, 120, 121], [105, 112, 113, 114, 115, 116, 117, 118, 119, 120, 121], [105, 106, 107, 108, 109, 110, 111, 112, 113, 114, 115, 116, 117, 118, 119, 120, 121], [105, 106, 107, 108, 109, 110, 111, 112, 113, 114, 115, 116, 117, 118, 119, 120, 121], [105, 106, 107, 108, 109, 110, 111, 112, 115, 116, 117, 118, 119, 120, 121], [105, 106, 107, 108, 109, 110, 111, 112, 116, 117, 118, 119, 120, 121], [105, 106, 107, 108, 109, 110, 111, 112, 113, 114, 115, 116, 117, 118, 119, 120, 121], [105, 106, 107, 108, 109, 110, 111, 112, 113, 114, 115, 116, 118, 119, 120, 121], [105, 106, 107, 108, 109, 110, 111, 112, 119, 120, 121], [105, 120, 121], [105, 121]] [[], [], [], [], [], [], [], [], [], [], [], [], [], [], [], [7168], [7680]] [[7168, 7680], [], [], [], [], [], [], [], [], [], [], [], [], [], [], [], []] [] [] (by decide) ?_
    rw [← List.take_append_drop 5 (List.take _ _)]
    generalize htl : List.drop 5 (List.take _ _) = tl
    simp
    refine ⟨hlt, fun r' hr'' => ?_⟩
    obtain rfl : r = r' := Option.some.inj (hr'.symm.trans hr'')
    subst htl
    simp
    refine ⟨by omega, DrC3.ok hF (by rfl) (by simp [a1]) c1 (by simp) (by simp) ?_⟩
    simp [hwi]
    refine ⟨hlt, fun r' hr'' => ?_⟩
    obtain rfl : r = r' := Option.some.inj (hr'.symm.trans hr'')
    have hrl2 : r.length = l.toNat := by omega
    simp [hrl2, a2, a3]
    refine ⟨⟨by omega, by omega⟩, ⟨by omega, by omega⟩, ?_, ?_⟩
    · rintro a b (⟨rfl, -⟩ | ⟨rfl, -⟩) <;> simp
    refine DrB3.move hF (by rfl) (e := 43) (es := [[oInts (cutR i r)]]) (ks := [7680]) (by decide) rfl rfl rfl (by simp [cutR]) (by simp) rfl (by decide) (by decide) (by simp) (by simp) ?_
    simp
    refine S 60 _ _ ?_
    simp [hal]
    refine ⟨⟨by omega, by omega⟩, ?_⟩
    have hst2 : List.take (k + 1) (List.map ((fun xs => [oInts xs]) ∘ cutR i) rows) = acc.map (fun xs => [oInts xs]) ++ [[oInts (cutR i r)]] := by
      rw [← List.map_take, ← List.map_map, hst]; simp
    exact Nxt.mk (k + 1) hlt (by simp [wrapS (i := k) (n := rows.length) hlt (by omega), hst2]) (by omega)
  · have e : rows.take k = rows := List.take_of_length_le hge
    rw [e] at hac
    subst hac
    refine S 60 _ _ ?_
    simp [hwl]
    refine CallW.ok (by decide) (by simp) c9 (by simp) (S 60 _ _ ?_)
    simp

end Go.Sm

namespace Go.Sm
open Go.RowKit

theorem placeN_zero {p l : Int} {rows : List (List Int)} {i : Int} (h : placeN p l rows i = 0) : GoodC p l rows ∧ 0 ≤ i ∧ i < l ∧ 2 ≤ l := by
  unfold placeN at h
  split at h
  · rename_i hg
    split at h
    · rename_i h1
      split at h
      · omega
      · have := hg.1.1.2; exact ⟨hg, h1.1, h1.2, by omega⟩
    · omega
  · omega

theorem placeN_range (p l : Int) (rows : List (List Int)) (i : Int) : 0 ≤ placeN p l rows i ∧ placeN p l rows i ≤ 5 := by
  unfold placeN
  repeat' split
  all_goals omega

/-- The punctured code. -/
def punR (p l : Int) (rows : List (List Int)) (i : Int) : (Int × Int × List (List Int)) × Int := if placeN p l rows i = 0 then ((p, l - 1, echL p (rows.map (cutR i.toNat))), 0) else ((0, 0, []), placeN p l rows i)

theorem small_ech {p l : Int} {rows : List (List Int)} (hg : GoodRows p l rows) (hl : rows.length ≤ 100) : (echL p rows).length ≤ 100 ∧ total (echL p rows) ≤ 1000 ∧ ∀ r ∈ echL p rows, r.length ≤ 10 := by
  obtain ⟨h1, h2⟩ := ech_facts hg.1.1 hg.rows
  have h10 := hg.1.2
  have h3 : ∀ r ∈ echL p rows, r.length ≤ 10 := fun r hr => by rw [(h2 r hr).1]; omega
  have := total_bound h3
  exact ⟨by omega, by omega, h3⟩

theorem small_none : ([] : List (List Int)).length ≤ 100 ∧ total [] ≤ 1000 ∧ ∀ r ∈ ([] : List (List Int)), r.length ≤ 10 := ⟨by simp, by simp [total], fun r hr => by cases hr⟩

theorem punR_small (p l : Int) (rows : List (List Int)) (i : Int) : ∃ p' l' E e, punR p l rows i = ((p', l', E), e) ∧ E.length ≤ 100 ∧ total E ≤ 1000 ∧ ∀ r ∈ E, r.length ≤ 10 := by
  unfold punR
  split
  · rename_i h
    obtain ⟨hg, h0, h1, h2⟩ := placeN_zero h
    have hL := hg.2.1
    have h10 := hg.1.1.2
    exact ⟨_, _, _, _, rfl, small_ech (goodRows_cut hg.1 (i := i.toNat) (by omega) h2) (by simp; omega)⟩
  · exact ⟨_, _, _, _, rfl, small_none⟩

theorem PunctureCode_ok (p l : Int) (rows : List (List Int)) (i : Int) (hl : rows.length ≤ 1048576) (hr : ∀ r ∈ rows, r.length ≤ 1048576) : CallOK Go.Proofs.Tryz.prog 20 [vCode p l rows, .one (i64 i)] (cres (punR p l rows i)) := by
  have hF := fnOk 24 [.cell 4 26, .tmp 5]
  refine callOK hF 60 Go.Proofs.Tryz.func20 rfl rfl rfl (by decide) (by simp) rfl ?_
  intro w0 hw
  have S := @vc_sound w0 _ hF ⟨(cres (punR p l rows i)), []⟩ Go.Proofs.Tryz.f20 rfl (by simp)
  have c1 := placeCode_ok p l rows i hl hr
  have hR := placeN_range p l rows i
  by_cases h : placeN p l rows i = 0
  · obtain ⟨hg, h0, h1, h2⟩ := placeN_zero h
    have hL := hg.2.1
    have h10 := hg.1.1.2
    obtain ⟨k, rfl⟩ : ∃ k : Nat, i = k := ⟨i.toNat, by omega⟩
    have e : punR p l rows k = ((p, l - 1, echL p (rows.map (cutR k))), 0) := by unfold punR; rw [if_pos h]; simp
    rw [e] at S ⊢
    rw [h] at c1
    have c2 := without_ok l.toNat k rows (by omega) (by omega) (by omega) (fun r hr => (hg.1.rows r hr).1)
    have c3 := code_ok p (l - 1) (rows.map (cutR k)) (goodRows_cut hg.1 (by omega) h2) (by simp; omega)
    have hwl : IntKind.i64.wrap (l - 1) = l - 1 := wrap64 (by omega) (by omega)
    simp
    refine CallW.ok (by decide) (by simp) c1 (by simp) (S 60 _ _ ?_)
    simp
    refine J.dr hF mixed 9 [[], [0], [], [2], [2, 3], [], [5], [], [5, 6, 7], [0, 1, 2, 3, 4, 5, 6, 7, 8], [0, 1, 2, 3, 4, 5, 6, 7, 8, 9], [0, 1, 2, 3, 4, 5, 6, 7, 8, 9, 10]] [[14, 15, 16, 17, 18, 19, 20, 21, 22], [15, 16, 17, 18, 19, 20, 21, 22], [14, 15, 16, 17, 18, 19, 20, 21, 22], [14, 15, 17, 18, 19, 20, 21, 22], [14, 15, 18, 19, 20, 21, 22], [14, 15, 16, 17, 18, 19, 20, 21, 22], [14, 15, 16, 17, 18, 20, 21, 22], [14, 15, 16, 17, 18, 19, 20, 21, 22], [14, 15, 16, 17, 18, 22]] (by decide) ?_
    simp [hwl]
    refine DrC.ok hF (by rfl) (by simp) c2 (by simp) (by simp) ?_
    simp
    refine S 60 _ _ ?_
    simp
    refine CallW.ok (by decide) (by simp) c3 (by simp) (S 60 _ _ ?_)
    simp
  · have e : punR p l rows i = ((0, 0, []), placeN p l rows i) := by unfold punR; rw [if_neg h]
    rw [e] at S ⊢
    generalize placeN p l rows i = n at h hR c1 S ⊢
    simp
    refine CallW.ok (by decide) (by simp) c1 (by simp) (S 60 _ _ ?_)
    simp [h]

theorem specPunctureCode_ok (p l : Int) (rows : List (List Int)) (i : Int) (hl : rows.length ≤ 1048576) (hr : ∀ r ∈ rows, r.length ≤ 1048576) : CallOK Go.Proofs.Tryz.prog 21 [vCode p l rows, .one (i64 i)] (cres (punR p l rows i)) := by
  have hF := fnOk 17 [.cell 4 26, .tmp 5]
  refine callOK hF 60 Go.Proofs.Tryz.func21 rfl rfl rfl (by decide) (by simp) rfl ?_
  intro w0 hw
  have S := @vc_sound w0 _ hF ⟨(cres (punR p l rows i)), []⟩ Go.Proofs.Tryz.f21 rfl (by simp)
  have c1 := l10Place_ok p l rows i hl hr
  have hR := placeN_range p l rows i
  by_cases h : placeN p l rows i = 0
  · obtain ⟨hg, h0, h1, h2⟩ := placeN_zero h
    have hL := hg.2.1
    have h10 := hg.1.1.2
    obtain ⟨k, rfl⟩ : ∃ k : Nat, i = k := ⟨i.toNat, by omega⟩
    have e : punR p l rows k = ((p, l - 1, echL p (rows.map (cutR k))), 0) := by unfold punR; rw [if_pos h]; simp
    rw [e] at S ⊢
    rw [h] at c1
    have c2 := l10CutF_ok p l k rows hg.1 (by omega) h1 h2
    simp
    refine CallW.ok (by decide) (by simp) c1 (by simp) (S 60 _ _ ?_)
    simp
    refine CallW.ok (by decide) (by simp) c2 (by simp) (S 60 _ _ ?_)
    simp
  · have e : punR p l rows i = ((0, 0, []), placeN p l rows i) := by unfold punR; rw [if_neg h]
    rw [e] at S ⊢
    generalize placeN p l rows i = n at h hR c1 S ⊢
    simp
    refine CallW.ok (by decide) (by simp) c1 (by simp) (S 60 _ _ ?_)
    simp [h]

end Go.Sm

namespace Go.Sm
open Go.RowKit

/-- The columns of rows. -/
def colsR (n : Nat) (rows : List (List Int)) : List (List Int) := (List.range n).map fun k => rows.map fun r => gt r k

theorem colsR_length (n : Nat) (rows : List (List Int)) : (colsR n rows).length = n := by simp [colsR]
theorem colsR_take {n k : Nat} {rows : List (List Int)} (h : k < n) : (colsR n rows).take (k + 1) = (colsR n rows).take k ++ [rows.map fun r => gt r k] := by
  rw [List.take_add_one, List.getElem?_eq_getElem (by rw [colsR_length]; exact h)]
  simp [colsR]
theorem colsR_row {p : Int} {n : Nat} (hp : 0 < p) {rows : List (List Int)} (hr : ∀ r ∈ rows, RowOk p n r) : ∀ r ∈ colsR n rows, RowOk p rows.length r := by
  intro r h
  obtain ⟨k, -, rfl⟩ := List.mem_map.1 h
  refine ⟨by simp, fun x hx => ?_⟩
  obtain ⟨q, hq, rfl⟩ := List.mem_map.1 hx
  exact gt_range hp (hr q hq) k

set_option maxHeartbeats 1000000 in
theorem columns_ok (p : Int) (n : Nat) (rows : List (List Int)) (hn : n ≤ 1000000) (hl : rows.length ≤ 1000000) (hr : ∀ r ∈ rows, r.length = n) : CallOK Go.Proofs.Tryz.prog 202 [vCode p n rows] (.one (oIntss (colsR n rows))) := by
  have hF := fnOk 36 [.tmp 2]
  refine callOK hF 60 Go.Proofs.Tryz.func202 rfl rfl rfl (by decide) (by simp) rfl ?_
  intro w0 hw
  have S := @vc_sound w0 _ hF ⟨(.one (oIntss (colsR n rows))), []⟩ Go.Proofs.Tryz.f202 rfl (by simp)
  simp
  refine J.loop hw (fun k : Nat => ⟨[(1, .c (.ref 64001 0)), (3, .c (.ob 64003)), (10, .c (.d (i64 n))), (11, .c (.d (i64 k)))], [(64001, .var [.d (i64 p), .d (i64 n), .d (vIntss rows)]), (64003, .arr 43 1 (((colsR n rows).take k).map fun xs => [oInts xs]))]⟩)
    (fun k => k ≤ n) (fun k => n - k) 0 (by simp) (by simp) ?_
  intro k hk
  have hal : ((colsR n rows).take k).length = k := by rw [List.length_take, colsR_length]; omega
  have hst := fun h : k < n => colsR_take (rows := rows) h
  generalize hac : (colsR n rows).take k = acc at hal hst
  refine S 8 _ _ ?_
  simp
  refine ⟨fun hlt => ?_, fun hge => ?_⟩
  · have hst := hst hlt
    refine S 60 _ _ ?_
    simp
    refine J.loop hw (fun j : Nat => ⟨[(1, .c (.ref 64001 0)), (3, .c (.ob 64003)), (4, .c (.d (i64 k))), (5, .c (.ob 64005)), (10, .c (.d (i64 n))), (11, .c (.d (i64 k))), (16, .c (.d (vIntss rows))), (17, .c (.d (i64 rows.length))), (18, .c (.d (i64 j)))],
        [(64001, .var [.d (i64 p), .d (i64 n), .d (vIntss rows)]), (64003, .arr 43 1 (acc.map fun xs => [oInts xs])), (64005, .arr 2 1 (ints (((rows.take j).map fun r => gt r k))))]⟩)
      (fun j => j ≤ rows.length) (fun j => rows.length - j) 0 (by simp) (by simp) ?_
    intro j hj
    have hcl : ((rows.take j).map fun r => gt r k).length = j := by simp; omega
    have hcs := fun r (h : rows[j]? = some r) => (show (rows.take (j + 1)).map (fun r => gt r k) = (rows.take j).map (fun r => gt r k) ++ [gt r k] by rw [List.take_add_one, h]; simp)
    generalize hcc : (rows.take j).map (fun r => gt r k) = col at hcl hcs
    refine S 8 _ _ ?_
    simp
    refine ⟨fun hlt1 => ?_, fun hge1 => ?_⟩
    · obtain ⟨r, hr'⟩ : ∃ r, rows[j]? = some r := ⟨rows[j], List.getElem?_eq_getElem hlt1⟩
      have hrl := hr r (List.mem_of_getElem? hr')
      have g1 := gt_get (r := r) (i := k) (by omega)
      have hcs := hcs r hr'
      generalize gt r k = x at g1 hcs
      refine S 7 _ _ ?_
      simp
      refine ⟨hlt1, fun r' hr'' => ?_⟩
      obtain rfl : r = r' := Option.some.inj (hr'.symm.trans hr'')
      refine S 60 _ _ ?_
      simp
      refine ⟨by omega, fun x' hx => ?_⟩
      obtain rfl : x = x' := Option.some.inj (g1.symm.trans hx)
      simp [hcl]
      have hcs2 : List.take (j + 1) (List.map ((fun i => [D.v (Value.int IntKind.i64 i)]) ∘ fun r => gt r k) rows) = ints col ++ [[i64 x]] := by
        rw [← List.map_take, ← List.map_map, hcs]; simp
      exact ⟨⟨by omega, by omega⟩, Nxt.mk (j + 1) hlt1 (by simp [wrapS (i := j) (n := rows.length) hlt1 (by omega), hcs2]) (by omega)⟩
    · have e : rows.take j = rows := List.take_of_length_le hge1
      rw [e] at hcc
      rw [hcc] at hst
      refine S 60 _ _ ?_
      simp
      refine BsW.move hF (e := 43) (es := [[oInts col]]) (ks := [64005]) (by decide) rfl rfl rfl (by simp) (by simp) rfl (by decide) (by decide) (by simp) ?_
      refine S 60 _ _ ?_
      simp [hal]
      have hst2 : List.take (k + 1) (List.map (fun xs => [oInts xs]) (colsR n rows)) = acc.map (fun xs => [oInts xs]) ++ [[oInts col]] := by
        rw [← List.map_take, hst]; simp
      exact ⟨⟨by omega, by omega⟩, Nxt.mk (k + 1) hlt (by simp [wrapS (i := k) (n := n) hlt (by omega), hst2]) (by omega)⟩
  · have e : (colsR n rows).take k = colsR n rows := List.take_of_length_le (by rw [colsR_length]; omega)
    rw [e] at hac
    subst hac
    refine S 60 _ _ ?_
    simp

end Go.Sm

namespace Go.Sm
open Go.RowKit

theorem good_rws {p l : Int} {rows : List (List Int)} (h : GoodC p l rows) : Rws p l.toNat rows := (ech_good h.1.1.1 h.1.rows h.2.2).1.rws
theorem word_row {p l : Int} {v : List Int} (h : RowP p l v) : RowOk p l.toNat v := ⟨by have := h.1; omega, h.2⟩

theorem inSpace_ok (p : Int) (n : Nat) (L : List (List Int)) (v : List Int) (hp : Pr p) (hn : n ≤ 1048576) (hl : L.length ≤ 1048576) (hL : Rws p n L) (hv : RowOk p n v) : CallOK Go.Proofs.Tryz.prog 123 [.one (i64 p), .one (vIntss L), .one (vInts v)] (.one (bo (decide (¬ Led (lessL p L v))))) := by
  have hF := fnOk 13 [.tmp 6]
  refine callOK hF 60 Go.Proofs.Tryz.func123 rfl rfl rfl (by decide) (by simp) rfl ?_
  intro w0 hw
  have S := @vc_sound w0 _ hF ⟨(.one (bo (decide (¬ Led (lessL p L v))))), []⟩ Go.Proofs.Tryz.f123 rfl (by simp)
  have hpp := prPos hp
  have c1 := less_ok' p n L v hp hn hl hL hv
  have r1 := less_row (n := n) (p := p) (L := L) (row := v) (by omega) (fun q hq => (hL q hq).1) hv
  have c2 := lead_ok (lessL p L v) (by rw [r1.1]; exact hn)
  generalize lessL p L v = w at c1 c2 r1 S ⊢
  by_cases hld : Led w
  · rw [led_leadZ hld] at c2
    have e : decide (¬ Led w) = false := decide_eq_false fun h => h hld
    rw [e] at S ⊢
    simp
    refine CallW.ok (by decide) (by simp) c1 (by simp) (S 60 _ _ ?_)
    simp
    refine CallW.ok (by decide) (by simp) c2 (by simp) (S 60 _ _ ?_)
    simp
  · rw [notLed_leadZ hld] at c2
    have e : decide (¬ Led w) = true := decide_eq_true hld
    rw [e] at S ⊢
    simp
    refine CallW.ok (by decide) (by simp) c1 (by simp) (S 60 _ _ ?_)
    simp
    refine CallW.ok (by decide) (by simp) c2 (by simp) (S 60 _ _ ?_)
    simp

/-- Is it a word. -/
def wordOf (p l : Int) (rows : List (List Int)) (v : List Int) : Bool × Int := if GoodC p l rows then (if RowP p l v then (decide (¬ Led (lessL p rows v)), 0) else (false, 2)) else (false, 1)
abbrev wres (r : Bool × Int) : RV := .tup [(false, [bo r.1]), (false, [i64 r.2])]

theorem IsWordOf_ok (p l : Int) (rows : List (List Int)) (v : List Int) (hl : rows.length ≤ 1048576) (hr : ∀ r ∈ rows, r.length ≤ 1048576) (hv : v.length ≤ 1048576) : CallOK Go.Proofs.Tryz.prog 32 [vCode p l rows, .one (vInts v)] (wres (wordOf p l rows v)) := by
  have hF := fnOk 29 [.tmp 4, .tmp 5]
  refine callOK hF 60 Go.Proofs.Tryz.func32 rfl rfl rfl (by decide) (by simp) rfl ?_
  intro w0 hw
  have S := @vc_sound w0 _ hF ⟨(wres (wordOf p l rows v)), []⟩ Go.Proofs.Tryz.f32 rfl (by simp)
  have c1 := IsCode_ok p l rows hl hr
  have c2 := field_ok p v hv
  by_cases hg : GoodC p l rows
  · rw [decide_eq_true hg] at c1
    have h10 := hg.1.1.2
    by_cases hlen : (v.length : Int) = l
    · have hb : ((v.length : Int) != l) = false := by simpa using hlen
      by_cases hf : ∀ x ∈ v, 0 ≤ x ∧ x < p
      · rw [decide_eq_true hf] at c2
        have c3 := inSpace_ok p l.toNat rows v hg.1.1.1 (by omega) (by omega) (good_rws hg) (word_row ⟨hlen, hf⟩)
        have e : wordOf p l rows v = (decide (¬ Led (lessL p rows v)), 0) := by unfold wordOf; rw [if_pos hg, if_pos ⟨hlen, hf⟩]
        rw [e] at S ⊢
        generalize decide (¬ Led (lessL p rows v)) = b at c3 S ⊢
        simp
        refine CallW.ok (by decide) (by simp) c1 (by simp) (S 60 _ _ ?_)
        simp [hb]
        refine CallW.ok (by decide) (by simp) c2 (by simp) (S 60 _ _ ?_)
        simp
        refine CallW.ok (by decide) (by simp) c3 (by simp) (S 60 _ _ ?_)
        simp
      · rw [decide_eq_false hf] at c2
        have e : wordOf p l rows v = (false, 2) := by unfold wordOf; rw [if_pos hg, if_neg fun h => hf h.2]
        rw [e] at S ⊢
        simp
        refine CallW.ok (by decide) (by simp) c1 (by simp) (S 60 _ _ ?_)
        simp [hb]
        refine CallW.ok (by decide) (by simp) c2 (by simp) (S 60 _ _ ?_)
        simp
    · have hb : ((v.length : Int) != l) = true := by simpa using hlen
      have e : wordOf p l rows v = (false, 2) := by unfold wordOf; rw [if_pos hg, if_neg fun h => hlen h.1]
      rw [e] at S ⊢
      simp
      refine CallW.ok (by decide) (by simp) c1 (by simp) (S 60 _ _ ?_)
      simp [hb]
  · rw [decide_eq_false hg] at c1
    have e : wordOf p l rows v = (false, 1) := by unfold wordOf; rw [if_neg hg]
    rw [e] at S ⊢
    simp
    refine CallW.ok (by decide) (by simp) c1 (by simp) (S 60 _ _ ?_)
    simp

theorem specIsWordOf_ok (p l : Int) (rows : List (List Int)) (v : List Int) (hl : rows.length ≤ 1048576) (hr : ∀ r ∈ rows, r.length ≤ 1048576) (hv : v.length ≤ 1048576) : CallOK Go.Proofs.Tryz.prog 33 [vCode p l rows, .one (vInts v)] (wres (wordOf p l rows v)) := by
  have hF := fnOk 28 [.tmp 4, .tmp 5]
  refine callOK hF 60 Go.Proofs.Tryz.func33 rfl rfl rfl (by decide) (by simp) rfl ?_
  intro w0 hw
  have S := @vc_sound w0 _ hF ⟨(wres (wordOf p l rows v)), []⟩ Go.Proofs.Tryz.f33 rfl (by simp)
  have c1 := l10Is_ok p l rows hl hr
  by_cases hg : GoodC p l rows
  · rw [decide_eq_true hg] at c1
    have hpp := prPos hg.1.1.1
    have h10 := hg.1.1.2
    have c2 := l10Numbers_ok p l v hv
    have hw1 : IntKind.i64.wrap (p - 1) = p - 1 := wrap64 (by omega) (by omega)
    rw [hw1] at c2
    have hiff : ((v.length : Int) = l ∧ ∀ x ∈ v, 0 ≤ x ∧ x ≤ p - 1) ↔ RowP p l v := ⟨fun h => ⟨h.1, fun x hx => by have := h.2 x hx; omega⟩, fun h => ⟨h.1, fun x hx => by have := h.2 x hx; omega⟩⟩
    by_cases hf : RowP p l v
    · rw [decide_eq_true (hiff.2 hf)] at c2
      have hrow := word_row hf
      have c3 := l01Rest_ok p l.toNat rows v hg.1.1.1 (by omega) (by omega) (good_rws hg) hrow
      have r1 := less_row (n := l.toNat) (p := p) (L := rows) (row := v) (by omega) (fun q hq => (good_rws hg q hq).1) hrow
      have c4 := l01Lead_ok (lessL p rows v) (by rw [r1.1]; omega)
      have e : wordOf p l rows v = (decide (¬ Led (lessL p rows v)), 0) := by unfold wordOf; rw [if_pos hg, if_pos hf]
      rw [e] at S ⊢
      generalize lessL p rows v = w at c3 c4 S ⊢
      by_cases hld : Led w
      · rw [led_leadZ hld] at c4
        have e2 : decide (¬ Led w) = false := decide_eq_false fun h => h hld
        rw [e2] at S ⊢
        simp
        refine CallW.ok (by decide) (by simp) c1 (by simp) (S 60 _ _ ?_)
        simp
        refine CallW.ok (by decide) (by simp) c2 (by simp) (S 60 _ _ ?_)
        simp
        refine CallW.ok (by decide) (by simp) c3 (by simp) (S 60 _ _ ?_)
        simp
        refine CallW.ok (by decide) (by simp) c4 (by simp) (S 60 _ _ ?_)
        simp
      · rw [notLed_leadZ hld] at c4
        have e2 : decide (¬ Led w) = true := decide_eq_true hld
        rw [e2] at S ⊢
        simp
        refine CallW.ok (by decide) (by simp) c1 (by simp) (S 60 _ _ ?_)
        simp
        refine CallW.ok (by decide) (by simp) c2 (by simp) (S 60 _ _ ?_)
        simp
        refine CallW.ok (by decide) (by simp) c3 (by simp) (S 60 _ _ ?_)
        simp
        refine CallW.ok (by decide) (by simp) c4 (by simp) (S 60 _ _ ?_)
        simp
    · rw [decide_eq_false fun h => hf (hiff.1 h)] at c2
      have e : wordOf p l rows v = (false, 2) := by unfold wordOf; rw [if_pos hg, if_neg hf]
      rw [e] at S ⊢
      simp
      refine CallW.ok (by decide) (by simp) c1 (by simp) (S 60 _ _ ?_)
      simp
      refine CallW.ok (by decide) (by simp) c2 (by simp) (S 60 _ _ ?_)
      simp
  · rw [decide_eq_false hg] at c1
    have e : wordOf p l rows v = (false, 1) := by unfold wordOf; rw [if_neg hg]
    rw [e] at S ⊢
    simp
    refine CallW.ok (by decide) (by simp) c1 (by simp) (S 60 _ _ ?_)
    simp

end Go.Sm
