/- Towards the rows of this seat: what the functions do, as contracts over plain data. -/
import Derived.Test.YtemedeiolhgoeaaPkQrCountOrbitsBK16
import Derived.Test.YtemedeiolhgoeaaPkQrCountOrbitsBK17
import Derived.Test.YtemedeiolhgoeaaPkQrCountOrbitsBK8
import Derived.Test.YtemedeiolhgoeaaPkQrCountOrbitsBK18
namespace Go.Sm
open Go.RowKit

theorem cmpI_V : ∀ {xs ys : List Int}, xs.length = ys.length → cmpI xs ys = cmpV xs ys
  | [], [], _ => rfl
  | [], _ :: _, h => by simp at h
  | _ :: _, [], h => by simp at h
  | x :: xs, y :: ys, h => by
    simp only [cmpI, cmpV]
    split
    · rfl
    · split
      · rfl
      · exact cmpI_V (by simpa using h)
theorem ordL_snoc (ws : List (List Int)) (w : List Int) : ordL (ws ++ [w]) = insO w (ordL ws) := by simp [ordL]
theorem insO_at {w : List Int} : ∀ {E : List (List Int)} {k : Nat}, k ≤ E.length → (∀ x ∈ E.take k, cmpV x w < 0) → (∀ x, E[k]? = some x → ¬ cmpV x w < 0) →
    ((∀ x, E[k]? = some x → cmpV x w = 0 → insO w E = E) ∧ ((∀ x, E[k]? = some x → ¬ cmpV x w = 0) → insO w E = E.take k ++ w :: E.drop k))
  | [], k, hk, _, _ => by
    obtain rfl : k = 0 := by simpa using hk
    exact ⟨fun x h => by simp at h, fun _ => by simp [insO]⟩
  | y :: E, 0, _, _, h2 => by
    have h := h2 y rfl
    refine ⟨fun x hx h0 => ?_, fun h0 => ?_⟩
    · have hx : y = x := by simpa using hx
      subst hx
      rw [insO, if_neg h, if_pos h0]
    · rw [insO, if_neg h, if_neg (h0 y rfl)]; rfl
  | y :: E, k + 1, hk, h1, h2 => by
    have hy := h1 y (by simp)
    obtain ⟨i1, i2⟩ := insO_at (w := w) (E := E) (k := k) (by simpa using hk) (fun x hx => h1 x (by simp [hx])) fun x hx => h2 x (by simpa using hx)
    refine ⟨fun x hx h0 => ?_, fun h0 => ?_⟩
    · rw [insO, if_pos hy, i1 x (by simpa using hx) h0]
    · rw [insO, if_pos hy, i2 fun x hx => h0 x (by simpa using hx)]; rfl

set_option pp.deepTerms true in
set_option pp.maxSteps 100000 in
set_option maxRecDepth 20000 in
set_option maxHeartbeats 2000000 in
theorem l02Orbit_ok (p d : Int) (G : List Mx) (x : List Int) (hp : Pr p) (hd : 1 ≤ d ∧ d ≤ 3) (hl : G.length ≤ 1000000) (hx : RowOk p d.toNat x) : CallOK Go.Proofs.Try.prog 35 [vGroup p d G, .one (vInts x)] (.one (oIntss (orbL p d G x))) := by
  have hF := fnOk 71 [.tmp 4]
  refine callOK hF 60 Go.Proofs.Try.func35 rfl rfl rfl (by decide) (by simp) rfl ?_
  intro w0 hw
  have S := @vc_sound w0 _ hF ⟨(.one (oIntss (orbL p d G x))), []⟩ Go.Proofs.Try.f35 rfl (by simp)
  have hpp := prPos hp
  simp
  refine J.loop hw (fun i : Nat => ⟨[(1, .c (.d (vInts x))), (2, .c (.ref 64002 0)), (5, .c (.ob 64005)), (6, .c (.d (i64 i)))], [(64002, .var [.d (i64 p), .d (i64 d), .d (vMats G)]), (64005, .arr 25 1 ((ordL (ledL p d G x i)).map fun r => [oInts r]))]⟩)
    (fun i => i ≤ G.length) (fun i => G.length - i) 0 (by simp) (by simp [ordL]) ?_
  intro i hi
  refine S 12 _ _ ?_
  simp
  refine ⟨fun hlt => ?_, fun hge => ?_⟩
  · obtain ⟨g, hg⟩ : ∃ g, G[i]? = some g := ⟨G[i], List.getElem?_eq_getElem hlt⟩
    have c1 := l02Lead_ok p d g x hp hd hx
    have hst : ordL (ledL p d G x (i + 1)) = insO (leadV p d.toNat x g) (ordL (ledL p d G x i)) := by rw [ledL_succ hg, ordL_snoc]
    have hEl : (ordL (ledL p d G x i)).length ≤ 1000000 := by
      have h1 := nodup_len (ordL_ok (ledL p d G x i)).1.nodup fun y hy => ((ordL_ok (ledL p d G x i)).2 y).1 hy
      rw [ledL_len hi] at h1
      omega
    have hEr : ∀ r ∈ ordL (ledL p d G x i), r.length = d.toNat := fun r hr => by
      have h := ((ordL_ok (ledL p d G x i)).2 r).1 hr
      obtain ⟨g', _, rfl⟩ := List.mem_map.1 h
      exact leadV_len ..
    have hwl := leadV_len p d.toNat x g
    generalize ordL (ledL p d G x i) = E at hst hEl hEr ⊢
    generalize leadV p d.toNat x g = w at c1 hst hwl
    refine S 5 _ _ ?_
    simp
    refine J.dr hF mixed 10 [[], [0], [], [2], [], [4], [], [4, 5, 6], [4, 5, 6, 7], [], [0, 1, 2, 3, 4, 5, 6, 7, 8, 9], [0, 1, 2, 3, 4, 5, 6, 7, 8, 9, 10], [0, 1, 2, 3, 4, 5, 6, 7, 8, 9, 10, 11]] [[18, 19, 20, 21, 22, 23, 24, 25, 26, 27], [19, 20, 21, 22, 23, 24, 25, 26, 27], [18, 19, 20, 21, 22, 23, 24, 25, 26, 27], [18, 19, 21, 22, 23, 24, 25, 26, 27], [18, 19, 20, 21, 22, 23, 24, 25, 26, 27], [18, 19, 20, 21, 23, 24, 25, 26, 27], [18, 19, 20, 21, 22, 23, 24, 25, 26, 27], [18, 19, 20, 21, 25, 26, 27], [18, 19, 20, 21, 26, 27], [18, 19, 20, 21, 22, 23, 24, 25, 26, 27]] (by decide) ?_
    simp
    refine ⟨hlt, fun g' hg' => ?_⟩
    obtain rfl : g = g' := Option.some.inj (hg.symm.trans hg')
    clear hg'
    refine S 60 _ _ ?_
    simp
    refine CallW.ok (by decide) (by simp) c1 (by simp) (S 60 _ _ ?_)
    simp
    refine J.loop hw (fun k : Nat => ⟨[(1, .c (.d (vInts x))), (2, .c (.ref 64002 0)), (5, .c (.ob 64005)), (6, .c (.d (i64 i))), (7, .c (.ob 64007)), (8, .c (.d (i64 k)))], [(64002, .var [.d (i64 p), .d (i64 d), .d (vMats G)]), (64005, .arr 25 1 (E.map fun r => [oInts r])), (64007, .arr 2 1 (ints w))]⟩)
      (fun k => k ≤ E.length ∧ ∀ y ∈ E.take k, cmpV y w < 0) (fun k => E.length - k) 0 ⟨by omega, fun y hy => by simp at hy⟩ (by simp) ?_
    rintro k ⟨hk, hlow⟩
    have hins := insO_at (w := w) hk hlow
    by_cases hke : k < E.length
    case neg =>
      have e1 : insO w E = E.take k ++ w :: E.drop k := (hins fun y hy => by rw [List.getElem?_eq_none (by omega)] at hy; cases hy).2 fun y hy => by rw [List.getElem?_eq_none (by omega)] at hy; cases hy
      refine S 60 _ _ ?_
      simp
      refine ⟨fun h => absurd h hke, fun _ => ?_⟩
      refine ⟨fun h => absurd h hke, fun _ => ?_⟩
      refine BsW.move hF (e := 25) (es := [[oInts w]]) (ks := [64007]) (by decide) rfl rfl rfl (by simp) (by simp) rfl (by decide) (by decide) (by simp) ?_
      refine S 60 _ _ ?_
      simp
      refine ⟨hk, OpW.appKeep (e := 25) (e3 := 25) (t := 46) (k1 := 3712) (k3 := 64005) (lo := k) (n := E.length - k) (xs := [[oInts w]]) (ys := E.map fun r => [oInts r]) rfl rfl rfl rfl rfl (by decide) hF.T rfl rfl rfl rfl (by simp) (by simp) (by simp) (by simp) (by decide) (by simp) (by simp; omega) (by simp; omega) (by simp; omega) fun cs hcs => ?_⟩
      refine S 60 _ _ ?_
      simp
      refine ⟨by omega, OpW.appWin (e := 25) (e3 := 25) (t := 46) (k1 := 4032) (k3 := 64005) (lo := 0) (n := k) (xs := []) (ys := List.take k (E.map fun r => [oInts r]) ++ cs.map fun u => [D.v u]) rfl rfl rfl rfl rfl (by decide) hF.T rfl rfl rfl rfl (by simp) (by simp) (by simp) (by simp) (by decide) (by simp) (by simp; omega) (by simp; omega) ?_⟩
      have et : ((List.take k (E.map fun r => [oInts r]) ++ cs.map fun u => [D.v u]).drop 0).take k = (E.take k).map fun r => [oInts r] := by
        rw [List.drop_zero, List.take_append_of_le_length (by simp; omega), List.take_take, Nat.min_self, List.map_take]
      rw [et]
      refine S 60 _ _ ?_
      simp
      refine ⟨⟨by omega, by omega⟩, ?_⟩
      exact Nxt.mk (i + 1) hlt (by simp [wrapS (i := i) (n := G.length) hlt (by omega), hst, e1]) (by omega)
    obtain ⟨y, hy⟩ : ∃ y, E[k]? = some y := ⟨E[k], List.getElem?_eq_getElem hke⟩
    have hyl := hEr y (List.mem_of_getElem? hy)
    have c2 := l02Compare_ok y w (by omega) (by omega)
    rw [cmpI_V (by omega)] at c2
    by_cases hlt0 : cmpV y w < 0
    · have hnext : ∀ z ∈ E.take (k + 1), cmpV z w < 0 := fun z hz => by
        rw [List.take_add_one, hy] at hz
        simp only [Option.toList, List.mem_append, List.mem_singleton] at hz
        rcases hz with h | rfl
        · exact hlow z h
        · exact hlt0
      generalize cmpV y w = z at c2 hlt0
      refine S 60 _ _ ?_
      simp
      refine ⟨fun _ => ⟨hke, fun y' hy' => ?_⟩, fun h => absurd hke (by omega)⟩
      obtain rfl : y = y' := Option.some.inj (hy.symm.trans hy')
      clear hy'
      refine CallW.ok (by decide) (by simp) c2 (by simp) (S 60 _ _ ?_)
      simp [hlt0]
      exact Nxt.mk (k + 1) ⟨hke, hnext⟩ (by simp [wrapS (i := k) (n := E.length) hke (by omega)]) (by omega)
    · by_cases h0 : cmpV y w = 0
      · have e1 : insO w E = E := (hins fun y' hy' => by
          obtain rfl : y = y' := Option.some.inj (hy.symm.trans hy')
          exact hlt0).1 y hy h0
        rw [h0] at c2
        refine S 60 _ _ ?_
        simp
        refine ⟨fun _ => ⟨hke, fun y' hy' => ?_⟩, fun h => absurd hke (by omega)⟩
        obtain rfl : y = y' := Option.some.inj (hy.symm.trans hy')
        clear hy'
        refine CallW.ok (by decide) (by simp) c2 (by simp) (S 60 _ _ ?_)
        simp
        refine ⟨fun _ => ⟨hke, fun y' hy' => ?_⟩, fun h => absurd hke (by omega)⟩
        obtain rfl : y = y' := Option.some.inj (hy.symm.trans hy')
        clear hy'
        refine CallW.ok (by decide) (by simp) c2 (by simp) (S 60 _ _ ?_)
        simp
        exact Nxt.mk (i + 1) hlt (by simp [wrapS (i := i) (n := G.length) hlt (by omega), hst, e1]) (by omega)
      · have e1 : insO w E = E.take k ++ w :: E.drop k := (hins fun y' hy' => by
          obtain rfl : y = y' := Option.some.inj (hy.symm.trans hy')
          exact hlt0).2 fun y' hy' => by
          obtain rfl : y = y' := Option.some.inj (hy.symm.trans hy')
          exact h0
        generalize cmpV y w = z at c2 hlt0 h0
        refine S 60 _ _ ?_
        simp
        refine ⟨fun _ => ⟨hke, fun y' hy' => ?_⟩, fun h => absurd hke (by omega)⟩
        obtain rfl : y = y' := Option.some.inj (hy.symm.trans hy')
        clear hy'
        refine CallW.ok (by decide) (by simp) c2 (by simp) (S 60 _ _ ?_)
        simp [hlt0]
        refine ⟨fun _ => ⟨hke, fun y' hy' => ?_⟩, fun h => absurd hke (by omega)⟩
        obtain rfl : y = y' := Option.some.inj (hy.symm.trans hy')
        clear hy'
        refine CallW.ok (by decide) (by simp) c2 (by simp) (S 60 _ _ ?_)
        simp [h0]
        refine BsW.move hF (e := 25) (es := [[oInts w]]) (ks := [64007]) (by decide) rfl rfl rfl (by simp) (by simp) rfl (by decide) (by decide) (by simp) ?_
        refine S 60 _ _ ?_
        simp
        refine ⟨hk, OpW.appKeep (e := 25) (e3 := 25) (t := 46) (k1 := 3712) (k3 := 64005) (lo := k) (n := E.length - k) (xs := [[oInts w]]) (ys := E.map fun r => [oInts r]) rfl rfl rfl rfl rfl (by decide) hF.T rfl rfl rfl rfl (by simp) (by simp) (by simp) (by simp) (by decide) (by simp) (by simp; omega) (by simp; omega) (by simp; omega) fun cs hcs => ?_⟩
        refine S 60 _ _ ?_
        simp
        refine ⟨by omega, OpW.appWin (e := 25) (e3 := 25) (t := 46) (k1 := 4032) (k3 := 64005) (lo := 0) (n := k) (xs := []) (ys := List.take k (E.map fun r => [oInts r]) ++ cs.map fun u => [D.v u]) rfl rfl rfl rfl rfl (by decide) hF.T rfl rfl rfl rfl (by simp) (by simp) (by simp) (by simp) (by decide) (by simp) (by simp; omega) (by simp; omega) ?_⟩
        have et : ((List.take k (E.map fun r => [oInts r]) ++ cs.map fun u => [D.v u]).drop 0).take k = (E.take k).map fun r => [oInts r] := by
          rw [List.drop_zero, List.take_append_of_le_length (by simp; omega), List.take_take, Nat.min_self, List.map_take]
        rw [et]
        refine S 60 _ _ ?_
        simp
        refine ⟨⟨by omega, by omega⟩, ?_⟩
        exact Nxt.mk (i + 1) hlt (by simp [wrapS (i := i) (n := G.length) hlt (by omega), hst, e1]) (by omega)
  · rw [ledL_all hge]
    refine S 60 _ _ ?_
    simp [orbL]
end Go.Sm

namespace Go.Sm
open Go.RowKit

theorem orb_head {p d : Int} {G : List Mx} (h : IsG p d G) (x : List Int) : (orbL p d G x)[0]? = some (leastP p d G x) := by
  have hl := List.length_pos_of_mem (least_mem h x)
  rw [leastP, List.getD_eq_getElem?_getD, List.getElem?_eq_getElem hl]; rfl
theorem least_row {p d : Int} {G : List Mx} (h : IsG p d G) (x : List Int) : RowOk p d.toNat (leastP p d G x) := orb_row (by have := prPos h.1.1; omega) (least_mem h x)
theorem l09Least_ok (p d : Int) (G : List Mx) (x : List Int) (hG : IsG p d G) (hx : RowOk p d.toNat x) : CallOK Go.Proofs.Try.prog 18 [vGroup p d G, .one (vInts x)] (.one (oInts (leastP p d G x))) := by
  have hF := fnOk 10 [.tmp 4]
  refine callOK hF 60 Go.Proofs.Try.func18 rfl rfl rfl (by decide) (by simp) rfl ?_
  intro w0 hw
  have S := @vc_sound w0 _ hF ⟨(.one (oInts (leastP p d G x))), []⟩ Go.Proofs.Try.f18 rfl (by simp)
  have c1 := l02Orbit_ok p d G x hG.1.1 hG.1.2 (by have := hG.2.1; omega) hx
  have h0 := orb_head hG x
  generalize leastP p d G x = z at h0 S ⊢
  generalize orbL p d G x = E at c1 h0
  obtain ⟨M, rfl⟩ : ∃ M, E = z :: M := by
    cases E with
    | nil => simp at h0
    | cons a M => simp at h0; exact ⟨M, by rw [h0]⟩
  simp
  refine CallW.ok (by decide) (by simp) c1 (by simp) ?_
  simp
  refine J.out (F := ⟨Go.Proofs.Try.prog, tab, etab, 10, [.tmp 4]⟩) (r := ⟨.one (oInts z), []⟩) (fn := Go.Proofs.Try.f18) hw
    (ky := 448) (K := 64011) (i := 0) (j := 0) (e := 25) (z := 1) (xs := [oInts z] :: M.map fun r => [oInts r]) (E := [oInts z]) (e' := 2) (z' := 1) (ys := ints z)
    (by simp) (by simp) (by simp) (by simp) (by simp) (by omega) (by simp) (by simp) (by simp) ?_
  intro c
  have S1 := @vc_sound (w0.named 64011 c) _ hF ⟨.one (oInts z), []⟩ Go.Proofs.Try.f18 rfl (by simp)
  refine S1 3 _ _ ?_
  simp
  refine J.reOb (d := 4) (K := 64011) (c := c) (by simp) (by simp) ?_
  refine S1 60 _ _ ?_
  simp

theorem l09Same_ok (a b : List Int) (hl : a.length ≤ 1048576) (hb : a.length = b.length) : CallOK Go.Proofs.Try.prog 17 [.one (vInts a), .one (vInts b)] (.one (bo (decide (a = b)))) := by
  have hF := fnOk 21 [.tmp 4]
  refine callOK hF 60 Go.Proofs.Try.func17 rfl rfl rfl (by decide) (by simp) rfl ?_
  intro w0 hw
  have S := @vc_sound w0 _ hF ⟨(.one (bo (decide (a = b)))), []⟩ Go.Proofs.Try.f17 rfl (by simp)
  generalize hq : decide (a = b) = q at S ⊢
  simp
  refine J.loop hw (fun i : Nat => ⟨[(0, .c (.d (vInts a))), (1, .c (.d (vInts b))), (5, .c (.d (i64 i)))], []⟩)
    (fun i => i ≤ a.length ∧ a.take i = b.take i) (fun i => a.length - i) 0 (by simp) (by simp) ?_
  rintro i ⟨hi, ht⟩
  refine S 12 _ _ ?_
  simp
  refine ⟨fun hlt => ?_, fun hge => ?_⟩
  · obtain ⟨x, hx⟩ : ∃ x, a[i]? = some x := ⟨a[i], List.getElem?_eq_getElem hlt⟩
    obtain ⟨y, hy⟩ : ∃ y, b[i]? = some y := ⟨b[i]'(by omega), List.getElem?_eq_getElem (by omega)⟩
    refine S 60 _ _ ?_
    simp
    refine J.dr hF mixed 8 [[], [], [0, 1], [0, 1, 2], [], [], [4, 5], [4, 5, 6], [0, 1, 2, 3, 4, 5, 6, 7]] [[12, 13, 14, 15, 16, 17, 18, 19], [12, 13, 14, 15, 16, 17, 18, 19], [14, 15, 16, 17, 18, 19], [15, 16, 17, 18, 19], [12, 13, 14, 15, 16, 17, 18, 19], [12, 13, 14, 15, 16, 17, 18, 19], [12, 13, 14, 15, 18, 19], [12, 13, 14, 15, 19]] (by decide) ?_
    rw [← List.take_append_drop 4 (List.take _ _)]
    generalize htl : List.drop 4 (List.take _ _) = tl
    simp
    refine ⟨hlt, fun x' hx' => ?_⟩
    obtain rfl : x = x' := Option.some.inj (hx.symm.trans hx')
    subst htl
    simp
    refine ⟨by omega, fun y' hy' => ?_⟩
    obtain rfl : y = y' := Option.some.inj (hy.symm.trans hy')
    refine S 60 _ _ ?_
    simp
    refine ⟨fun hne => ?_, fun he => ?_⟩
    · have hqf : q = false := by
        rw [← hq]
        exact decide_eq_false (p := a = b) fun e => by
          subst e
          rw [hx] at hy
          exact hne (Option.some.inj hy)
      exact hqf
    · subst he
      refine Nxt.mk (i + 1) ⟨hlt, ?_⟩ (by simp [wrapS (i := i) (n := a.length) hlt (by omega)]) (by omega)
      rw [List.take_add_one, List.take_add_one, ht, hx, hy]
  · refine S 60 _ _ ?_
    simp
    rw [List.take_of_length_le (by omega), List.take_of_length_le (by omega)] at ht
    have hqt : q = true := by rw [← hq]; exact decide_eq_true (p := a = b) ht
    exact hqt

end Go.Sm
