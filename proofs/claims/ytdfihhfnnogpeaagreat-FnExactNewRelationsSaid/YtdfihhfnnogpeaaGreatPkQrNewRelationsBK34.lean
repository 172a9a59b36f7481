/- Towards the rows of this seat: what the functions do, as contracts over plain data. -/
import Derived.Test.YtdfihhfnnogpeaaGreatPkQrNewRelationsBK6
import Derived.Test.YtdfihhfnnogpeaaGreatPkQrNewRelationsBK2
import Derived.Test.YtdfihhfnnogpeaaGreatPkQrNewRelationsBK33
namespace Go.Sm
open Go.RowKit

def totalP (xs : List Pl) : Nat := (xs.map fun x => x.ts.length).sum
theorem totalP_take {xs : List Pl} {i : Nat} {x : Pl} (h : xs[i]? = some x) : totalP (xs.take (i + 1)) = totalP (xs.take i) + x.ts.length := by
  rw [List.take_add_one, h]; simp [totalP]
theorem totalP_le (xs : List Pl) (i : Nat) : totalP (xs.take i) ≤ totalP xs := by
  have h : totalP xs = totalP (xs.take i) + totalP (xs.drop i) := by
    conv => lhs; rw [← List.take_append_drop i xs]
    simp only [totalP, List.map_append, List.sum_append]
  omega
theorem len_totalP : ∀ {xs : List Pl} {x : Pl}, x ∈ xs → x.ts.length ≤ totalP xs
  | y :: xs, x, h => by
    simp only [totalP, List.map_cons, List.sum_cons]
    rcases List.mem_cons.1 h with rfl | h
    · omega
    · have := len_totalP h; unfold totalP at this; omega

def szP (n : Int) (xs : List Pl) : Int := if n - xs.length - totalP xs < 0 then -1 else n - xs.length - totalP xs

theorem szPolyS_ok (xs : List Pl) (n : Int) (hn : 0 ≤ n) (hn2 : n ≤ 1000000000) (hl : xs.length ≤ maxLen) (hr : ∀ x ∈ xs, x.ts.length ≤ maxLen) : CallOK Go.Proofs.Tryz.prog 6 [.one (vPolys xs), .one (i64 n)] (.one (i64 (szP n xs))) := by
  have hF := fnOk 27 [.tmp 4]
  refine callOK hF 60 Go.Proofs.Tryz.func6 rfl rfl rfl (by decide) (by simp) rfl ?_
  intro w0 hw
  have S := @vc_sound w0 _ hF ⟨(.one (i64 (szP n xs))), []⟩ Go.Proofs.Tryz.f6 rfl (by simp)
  have hm : maxLen = 9223372036854775807 := rfl
  have hw1 : IntKind.i64.wrap (n - xs.length) = n - xs.length := wrap64 (by omega) (by omega)
  have hneg : ∀ i, n - xs.length - totalP (xs.take i) < 0 → szP n xs = -1 := fun i h => by
    have := totalP_le xs i
    unfold szP; rw [if_pos (by omega)]
  by_cases h : n - xs.length < 0
  · have e := hneg 0 (by simp [totalP]; omega)
    rw [e] at S ⊢
    simp [hw1, h]
  · simp [hw1, h]
    refine J.loop hw (fun i : Nat => ⟨[(0, .c (.d (vPolys xs))), (1, .c (.d (i64 (n - xs.length - totalP (xs.take i))))), (5, .c (.d (i64 i)))], []⟩)
      (fun i => i ≤ xs.length ∧ 0 ≤ n - xs.length - totalP (xs.take i)) (fun i => xs.length - i) 0 ⟨by omega, by simp [totalP]; omega⟩ (by simp [totalP]) ?_
    rintro i ⟨hi, h0⟩
    refine S 12 _ _ ?_
    simp
    refine ⟨fun hlt => ?_, fun hge => ?_⟩
    · obtain ⟨x, hx⟩ : ∃ x, xs[i]? = some x := ⟨xs[i], List.getElem?_eq_getElem hlt⟩
      have c1 := szPoly_ok x.p x.d x.ts (n - xs.length - totalP (xs.take i)) h0 (by omega) (hr x (List.mem_of_getElem? hx))
      have ht := totalP_take hx
      have hng := hneg (i + 1)
      refine S 60 _ _ ?_
      simp
      refine ⟨hlt, fun x' hx' => ?_⟩
      obtain rfl : x = x' := Option.some.inj (hx.symm.trans hx')
      by_cases h1 : n - xs.length - totalP (xs.take i) - x.ts.length < 0
      · rw [if_pos h1] at c1
        have e := hng (by omega)
        refine CallW.ok (by decide) (by simp) c1 (by simp) (S 60 _ _ ?_)
        simp [e]
      · rw [if_neg h1] at c1
        have e : n - (xs.length : Int) - totalP (xs.take i) - x.ts.length = n - xs.length - totalP (xs.take (i + 1)) := by omega
        rw [e] at c1 h1
        refine CallW.ok (by decide) (by simp) c1 (by simp) (S 60 _ _ ?_)
        simp
        refine ⟨fun h' => absurd h' h1, fun _ => ?_⟩
        exact Nxt.mk (i + 1) ⟨hlt, by omega⟩ (by simp [wrapS (i := i) (n := xs.length) hlt (by omega)]) (by omega)
    · rw [List.take_of_length_le (by omega)] at h0 ⊢
      have e : szP n xs = n - xs.length - totalP xs := if_neg (by omega)
      rw [e] at S ⊢
      refine S 60 _ _ ?_
      simp

theorem eqPolyS_ok (xs : List Pl) (hl : xs.length ≤ 1048576) (hr : ∀ x ∈ xs, x.ts.length ≤ 1048576) : CallOK Go.Proofs.Tryz.prog 10 [.one (vPolys xs), .one (vPolys xs)] (.one (bo true)) := by
  have hF := fnOk 27 [.tmp 4]
  refine callOK hF 60 Go.Proofs.Tryz.func10 rfl rfl rfl (by decide) (by simp) rfl ?_
  intro w0 hw
  have S := @vc_sound w0 _ hF ⟨(.one (bo true)), []⟩ Go.Proofs.Tryz.f10 rfl (by simp)
  simp
  refine J.loop hw (fun i : Nat => ⟨[(0, .c (.d (vPolys xs))), (1, .c (.d (vPolys xs))), (5, .c (.d (i64 i)))], []⟩)
    (fun i => i ≤ xs.length) (fun i => xs.length - i) 0 (by simp) (by simp) ?_
  intro i hi
  refine S 12 _ _ ?_
  simp
  refine ⟨fun hlt => ?_, fun hge => S 60 _ _ (by simp)⟩
  obtain ⟨x, hx⟩ : ∃ x, xs[i]? = some x := ⟨xs[i], List.getElem?_eq_getElem hlt⟩
  have c1 := eqPoly_ok x.p x.d x.p x.d x.ts x.ts (by have := hr x (List.mem_of_getElem? hx); omega)
  rw [decide_eq_true ⟨rfl, rfl, rfl⟩] at c1
  refine S 60 _ _ ?_
  simp
  refine J.dr hF mixed 8 [[], [], [0, 1], [0, 1, 2], [], [], [4, 5], [4, 5, 6], [0, 1, 2, 3, 4, 5, 6, 7], [0, 1, 2, 3, 4, 5, 6, 7, 8]] [[17, 18, 19, 20, 21, 22, 23, 24], [17, 18, 19, 20, 21, 22, 23, 24], [19, 20, 21, 22, 23, 24], [20, 21, 22, 23, 24], [17, 18, 19, 20, 21, 22, 23, 24], [17, 18, 19, 20, 21, 22, 23, 24], [17, 18, 19, 20, 23, 24], [17, 18, 19, 20, 24]] (by decide) ?_
  rw [← List.take_append_drop 4 (List.take _ _)]
  generalize htl : List.drop 4 (List.take _ _) = tl
  simp
  refine ⟨hlt, fun x' hx' => ?_⟩
  obtain rfl : x = x' := Option.some.inj (hx.symm.trans hx')
  subst htl
  simp
  refine ⟨hlt, fun x' hx' => ?_⟩
  obtain rfl : x = x' := Option.some.inj (hx.symm.trans hx')
  refine S 60 _ _ ?_
  simp
  refine CallW.ok (by decide) (by simp) c1 (by simp) (S 60 _ _ ?_)
  simp
  exact Nxt.mk (i + 1) hlt (by simp [wrapS (i := i) (n := xs.length) hlt (by omega)]) (by omega)

set_option maxHeartbeats 1000000 in
theorem toPolyS_ok (xs : List Pl) (hl : xs.length ≤ 1048576) (hr : ∀ x ∈ xs, x.ts.length ≤ 1048576) : CallOK Go.Proofs.Tryz.prog 8 [.one (vPolys xs)] (.one (oPolys xs)) := by
  have hF := fnOk 23 [.tmp 2]
  refine callOK hF 60 Go.Proofs.Tryz.func8 rfl rfl rfl (by decide) (by simp) rfl ?_
  intro w0 hw
  have S := @vc_sound w0 _ hF ⟨(.one (oPolys xs)), []⟩ Go.Proofs.Tryz.f8 rfl (by simp)
  simp
  refine ⟨⟨by omega, by omega⟩, ?_⟩
  refine J.loop hw (fun p : Nat × List Pl => ⟨[(0, .c (.d (vPolys xs))), (3, .c (.ob 64003)), (4, .c (.d (i64 p.1)))], [(64003, .arr 44 3 (p.2.map fun x => [i64 x.p, i64 x.d, oTerms x.ts]))]⟩)
    (fun p => p.1 ≤ xs.length ∧ p.2.length = xs.length ∧ p.2.take p.1 = xs.take p.1) (fun p => xs.length - p.1) (0, List.replicate xs.length ⟨0, 0, []⟩) (by simp) (by simp [List.map_replicate]) ?_
  rintro ⟨i, zs⟩ ⟨hi, hlen, htk⟩
  simp only at hi hlen htk
  refine S 12 _ _ ?_
  simp
  refine ⟨fun hlt => ?_, fun hge => ?_⟩
  · obtain ⟨x, hx⟩ : ∃ x, xs[i]? = some x := ⟨xs[i], List.getElem?_eq_getElem hlt⟩
    have c1 := toPoly_ok x.p x.d x.ts (hr x (List.mem_of_getElem? hx))
    have hlz : i < zs.length := by omega
    obtain ⟨z, hz⟩ : ∃ z, zs[i]? = some z := ⟨zs[i], List.getElem?_eq_getElem hlz⟩
    refine J.out (F := ⟨Go.Proofs.Tryz.prog, tab, [], 23, [.tmp 2]⟩) (r := ⟨.one (oPolys xs), []⟩) (fn := Go.Proofs.Tryz.f8) hw
      (ky := 64003) (K := 64011) (i := i) (j := 2) (e := 44) (z := 3) (xs := zs.map fun x => [i64 x.p, i64 x.d, oTerms x.ts]) (E := [i64 z.p, i64 z.d, oTerms z.ts]) (e' := 70) (z' := 4) (ys := terms z.ts)
      (by simp) (by simp [hz]) (by simp) (by simp) (by simp) (by omega) (by simp) (by simp) (by simp) ?_
    intro c
    have S1 := @vc_sound (w0.named 64011 c) _ hF ⟨.one (oPolys xs), []⟩ Go.Proofs.Tryz.f8 rfl (by simp)
    refine S1 60 _ _ ?_
    simp
    refine ⟨hlt, fun x' hx' => ?_⟩
    obtain rfl : x = x' := Option.some.inj (hx.symm.trans hx')
    refine CallW.ok (by decide) (by simp) c1 (by simp) ?_
    simp
    refine J.name (F := ⟨Go.Proofs.Tryz.prog, tab, [], 23, [.tmp 2]⟩) (r := ⟨.one (oPolys xs), []⟩) (fn := Go.Proofs.Tryz.f8)
      (K := 1282) (by rw [named_ne _ _ (by decide)]; exact fix_none hw (by decide)) (by simp) (by simp) ?_
    intro c2
    refine J.reVg (d := 20) (K := 1282) (i := 2) (cs := [.d (i64 x.p), .d (i64 x.d), .ob 1282]) (c := c2) (by simp) (by simp) (by simp) ?_
    have S2 := @vc_sound ((w0.named 64011 c).named 1282 c2) _ hF ⟨.one (oPolys xs), []⟩ Go.Proofs.Tryz.f8 rfl (by simp)
    refine S2 3 _ _ ?_
    simp [hlz]
    refine J.in' (ky := 64003) (K := 1282) (i := i) (j := 2) (e := 44) (z := 3) (xs := (zs.map fun x => [i64 x.p, i64 x.d, oTerms x.ts]).set i [i64 x.p, i64 x.d, .v c2]) (E := [i64 x.p, i64 x.d, .v c2]) (e' := 70) (z' := 4) (ys := terms x.ts) (c := c2)
      (by simp) (by simp) (by simp) (by simp [hlz]) (by simp) (by decide) (by simp) ?_
    refine S2 60 _ _ ?_
    simp
    refine Nxt.mk (i + 1, zs.set i x) ⟨hlt, by simpa using hlen, ?_⟩ (by simp [wrapS (i := i) (n := xs.length) hlt (by omega), List.map_set]) (by show xs.length - (i + 1) < xs.length - i; omega)
    show (zs.set i x).take (i + 1) = xs.take (i + 1)
    rw [List.take_add_one, List.take_set_of_le (Nat.le_refl i), htk, List.take_add_one, hx]
    simp [hlz]
  · have e : zs = xs := by
      have h1 : zs.take i = zs := List.take_of_length_le (by omega)
      have h2 : xs.take i = xs := List.take_of_length_le (by omega)
      rw [← h1, htk, h2]
    subst e
    refine S 60 _ _ ?_
    simp

end Go.Sm

namespace Go.Sm
open Go.RowKit

set_option maxHeartbeats 1000000 in
set_option maxRecDepth 4000 in
theorem FnExactNewRelations_ok (y0 : List Pl) (hb0 : y0.length ≤ maxLen ∧ ∀ y ∈ y0, y.ts.length ≤ maxLen) (a1 : Int) : CallOK Go.Proofs.Tryz.prog 5 [.one (vPolys y0), .one (i64 a1)] (.one (bo true)) := by
  have hF := fnOk 44 [.tmp 4]
  refine callOK hF 60 Go.Proofs.Tryz.func5 rfl rfl rfl (by decide) (by simp) rfl ?_
  intro w0 hw
  have S := @vc_sound w0 _ hF ⟨(.one (bo true)), []⟩ Go.Proofs.Tryz.f5 rfl (by simp)
  have hm : maxLen = 9223372036854775807 := rfl
  have z0 := szPolyS_ok y0 (1048576) (by omega) (by omega) hb0.1 hb0.2
  by_cases hs0 : (1048576 : Int) - y0.length - totalP y0 < 0
  · have e0 : szP (1048576) y0 = -1 := if_pos hs0
    rw [e0] at z0
    simp
    refine CallW.ok (by decide) (by simp) z0 (by simp) (S 60 _ _ ?_)
    simp
  · have e0 : szP (1048576) y0 = (1048576 : Int) - y0.length - totalP y0 := if_neg hs0
    rw [e0] at z0
    have hl0 : y0.length ≤ 1048576 := by omega
    have hr0 : ∀ y ∈ y0, y.ts.length ≤ 1048576 := fun x hx => by have := len_totalP hx; omega
    have c0 := toPolyS_ok y0 hl0 hr0
    have cs := specNewRelations_ok y0 a1 hl0 hr0
    have ci := NewRelations_ok y0 a1 hl0 hr0
    have q0 := eqPolyS_ok y0 hl0 hr0
    generalize newR y0 a1 = rs at cs ci
    obtain ⟨g0, er⟩ := rs
    try simp only at cs ci
    simp
    refine CallW.ok (by decide) (by simp) z0 (by simp) (S 60 _ _ ?_)
    simp
    refine fun _ => ?_
    refine CallW.ok (by decide) (by simp) c0 (by simp) (S 60 _ _ ?_)
    simp
    refine CallW.ok (by decide) (by simp) cs (by simp) (S 60 _ _ ?_)
    simp
    refine CallW.ok (by decide) (by simp) c0 (by simp) (S 60 _ _ ?_)
    simp
    refine CallW.ok (by decide) (by simp) ci (by simp) (S 60 _ _ ?_)
    simp
    refine CallW.ok (by decide) (by simp) c0 (by simp) (S 60 _ _ ?_)
    simp
    refine CallW.ok (by decide) (by simp) q0 (by simp) (S 60 _ _ ?_)
    simp

end Go.Sm
