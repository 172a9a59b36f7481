/- Towards the rows of this seat: what the functions do, as contracts over plain data. -/
import Derived.Test.YtemedeiolhgoeaaPkQrCountOrbitsBK7
namespace Go.Sm
open Go.RowKit

theorem toByteA3_ok (e : Ex) : CallOK Go.Proofs.Try.prog 53 [.agg e.ds] (.agg e.ds) := by
  have hF := fnOk 15 [.cell 2 55]
  refine callOK hF 60 Go.Proofs.Try.func53 rfl rfl rfl (by decide) (by simp) rfl ?_
  intro w0 hw
  have S := @vc_sound w0 _ hF ⟨(.agg e.ds), []⟩ Go.Proofs.Try.f53 rfl (by simp)
  simp
  refine J.rounds 5 (LpW.step (S 60 _ _ ?_))
  simp
  refine LpW.inv (LpW.step (S 60 _ _ ?_))
  simp
  refine LpW.inv (LpW.step (S 60 _ _ ?_))
  simp
  refine LpW.inv (LpW.step (S 60 _ _ ?_))
  simp

set_option maxRecDepth 8000 in
theorem toMatrix_ok (g : Mx) : CallOK Go.Proofs.Try.prog 36 [.agg g.ds] (.agg g.ds) := by
  have hF := fnOk 16 [.cell 2 57]
  refine callOK hF 60 Go.Proofs.Try.func36 rfl rfl rfl (by decide) (by simp) rfl ?_
  intro w0 hw
  have S := @vc_sound w0 _ hF ⟨(.agg g.ds), []⟩ Go.Proofs.Try.f36 rfl (by simp)
  have c1 := toByteA3_ok ⟨g.a, g.b, g.c⟩
  have c2 := toByteA3_ok ⟨g.d, g.e, g.f⟩
  have c3 := toByteA3_ok ⟨g.g, g.h, g.i⟩
  simp
  refine J.rounds 5 (LpW.step (S 60 _ _ ?_))
  simp
  refine CallW.ok (by decide) (by simp) c1 (by simp) (S 60 _ _ ?_)
  simp
  refine LpW.inv (LpW.step (S 60 _ _ ?_))
  simp
  refine CallW.ok (by decide) (by simp) c2 (by simp) (S 60 _ _ ?_)
  simp
  refine LpW.inv (LpW.step (S 60 _ _ ?_))
  simp
  refine CallW.ok (by decide) (by simp) c3 (by simp) (S 60 _ _ ?_)
  simp
  refine LpW.inv (LpW.step (S 60 _ _ ?_))
  simp

theorem toMatrixS_ok (G : List Mx) (hl : G.length ≤ 1048576) : CallOK Go.Proofs.Try.prog 19 [.one (vMats G)] (.one (oMats G)) := by
  have hF := fnOk 23 [.tmp 2]
  refine callOK hF 60 Go.Proofs.Try.func19 rfl rfl rfl (by decide) (by simp) rfl ?_
  intro w0 hw
  have S := @vc_sound w0 _ hF ⟨(.one (oMats G)), []⟩ Go.Proofs.Try.f19 rfl (by simp)
  simp
  refine ⟨by omega, ?_⟩
  refine J.loop hw (fun p : Nat × List Mx => ⟨[(0, .c (.d (vMats G))), (3, .c (.ob 64003)), (4, .c (.d (i64 p.1)))], [(64003, .arr 57 9 (p.2.map Mx.ds))]⟩)
    (fun p => p.1 ≤ G.length ∧ p.2.length = G.length ∧ p.2.take p.1 = G.take p.1) (fun p => G.length - p.1) (0, List.replicate G.length ⟨0, 0, 0, 0, 0, 0, 0, 0, 0⟩) (by simp) (by simp) ?_
  rintro ⟨i, zs⟩ ⟨hi, hlen, htk⟩
  simp only at hi hlen htk
  refine S 12 _ _ ?_
  simp
  refine ⟨fun hlt => ?_, fun hge => ?_⟩
  · obtain ⟨t, ht⟩ : ∃ t, G[i]? = some t := ⟨G[i], List.getElem?_eq_getElem hlt⟩
    obtain ⟨u, hu⟩ : ∃ u, zs[i]? = some u := ⟨zs[i], List.getElem?_eq_getElem (by omega)⟩
    have c1 := toMatrix_ok t
    refine S 9 _ _ ?_
    simp
    refine ⟨hlt, fun x hx => ?_⟩
    obtain rfl : t = x := Option.some.inj (ht.symm.trans hx)
    refine CallW.ok (by decide) (by simp) c1 (by simp) (S 60 _ _ ?_)
    simp [hlen]
    refine ⟨hlt, ?_⟩
    refine Nxt.mk (i + 1, zs.set i t) ⟨by show i + 1 ≤ _; omega, by simpa using hlen, ?_⟩ (by simp [wrapS (i := i) (n := G.length) hlt (by omega), List.map_set]) (by show G.length - (i + 1) < G.length - i; omega)
    show (zs.set i t).take (i + 1) = G.take (i + 1)
    rw [List.take_add_one, List.take_set_of_le (Nat.le_refl i), htk, List.take_add_one, ht]
    simp [show i < zs.length by omega]
  · have e : zs = G := by
      have h1 : zs.take i = zs := List.take_of_length_le (by omega)
      have h2 : G.take i = G := List.take_of_length_le (by omega)
      rw [← h1, htk, h2]
    refine S 60 _ _ ?_
    simp [e]

theorem szMatrixS_ok (G : List Mx) (n : Int) (hn : 0 ≤ n) (hn2 : n ≤ 4611686018427387904) (hl : G.length ≤ maxLen) : CallOK Go.Proofs.Try.prog 14 [.one (vMats G), .one (i64 n)] (.one (i64 (if n - G.length < 0 then -1 else n - G.length))) := by
  have hF := fnOk 12 [.tmp 4]
  refine callOK hF 60 Go.Proofs.Try.func14 rfl rfl rfl (by decide) (by simp) rfl ?_
  intro w0 hw
  have S := @vc_sound w0 _ hF ⟨(.one (i64 (if n - G.length < 0 then -1 else n - G.length))), []⟩ Go.Proofs.Try.f14 rfl (by simp)
  have hm : maxLen = 9223372036854775807 := rfl
  have hw1 : IntKind.i64.wrap (n - G.length) = n - G.length := wrap64 (by omega) (by omega)
  by_cases h : n - G.length < 0
  · rw [if_pos h] at S ⊢
    simp [hw1, h]
  · rw [if_neg h] at S ⊢
    simp [hw1, h]

theorem szGroup_ok (p d : Int) (G : List Mx) (n : Int) (hn : 0 ≤ n) (hn2 : n ≤ 4611686018427387904) (hl : G.length ≤ maxLen) : CallOK Go.Proofs.Try.prog 5 [vGroup p d G, .one (i64 n)] (.one (i64 (if n - G.length < 0 then -1 else n - G.length))) := by
  have hF := fnOk 12 [.tmp 4]
  refine callOK hF 60 Go.Proofs.Try.func5 rfl rfl rfl (by decide) (by simp) rfl ?_
  intro w0 hw
  have S := @vc_sound w0 _ hF ⟨(.one (i64 (if n - G.length < 0 then -1 else n - G.length))), []⟩ Go.Proofs.Try.f5 rfl (by simp)
  have c1 := szMatrixS_ok G n hn hn2 hl
  by_cases h : n - G.length < 0
  · rw [if_pos h] at S c1 ⊢
    simp
    refine CallW.ok (by decide) (by simp) c1 (by simp) (S 60 _ _ ?_)
    simp
  · rw [if_neg h] at S c1 ⊢
    simp
    refine CallW.ok (by decide) (by simp) c1 (by simp) (S 60 _ _ ?_)
    simp [h]

theorem toGroup_ok (p d : Int) (G : List Mx) (hl : G.length ≤ 1048576) : CallOK Go.Proofs.Try.prog 7 [vGroup p d G] (oGroup p d G) := by
  have hF := fnOk 15 [.cell 2 31]
  refine callOK hF 60 Go.Proofs.Try.func7 rfl rfl rfl (by decide) (by simp) rfl ?_
  intro w0 hw
  have S := @vc_sound w0 _ hF ⟨(oGroup p d G), []⟩ Go.Proofs.Try.f7 rfl (by simp)
  have c1 := toMatrixS_ok G hl
  simp
  refine CallW.ok (by decide) (by simp) c1 (by simp) (S 60 _ _ ?_)
  simp

theorem eqByteA3_ok (x y : Ex) : CallOK Go.Proofs.Try.prog 58 [.agg x.ds, .agg y.ds] (.one (bo (decide (x = y)))) := by
  have hF := fnOk 17 [.tmp 4]
  refine callOK hF 60 Go.Proofs.Try.func58 rfl rfl rfl (by decide) (by simp) rfl ?_
  intro w0 hw
  have S := @vc_sound w0 _ hF ⟨(.one (bo (decide (x = y)))), []⟩ Go.Proofs.Try.f58 rfl (by simp)
  simp
  refine J.rounds 5 (LpW.step (S 60 _ _ ?_))
  simp
  refine J.dr hF mixed 6 [[], [0], [0, 1], [], [3], [3, 4], [0, 1, 2, 3, 4, 5]] [[10, 11, 12, 13, 14, 15], [11, 12, 13, 14, 15], [12, 13, 14, 15], [10, 11, 12, 13, 14, 15], [10, 11, 12, 14, 15], [10, 11, 12, 15]] (by decide) ?_
  simp
  refine S 60 _ _ ?_
  simp
  refine ⟨fun ha e => ha (by rw [e]), fun ha => LpW.inv (LpW.step (S 60 _ _ ?_))⟩
  simp
  refine J.dr hF mixed 6 [[], [0], [0, 1], [], [3], [3, 4], [0, 1, 2, 3, 4, 5]] [[10, 11, 12, 13, 14, 15], [11, 12, 13, 14, 15], [12, 13, 14, 15], [10, 11, 12, 13, 14, 15], [10, 11, 12, 14, 15], [10, 11, 12, 15]] (by decide) ?_
  simp
  refine S 60 _ _ ?_
  simp
  refine ⟨fun hb e => hb (by rw [e]), fun hb => LpW.inv (LpW.step (S 60 _ _ ?_))⟩
  simp
  refine J.dr hF mixed 6 [[], [0], [0, 1], [], [3], [3, 4], [0, 1, 2, 3, 4, 5]] [[10, 11, 12, 13, 14, 15], [11, 12, 13, 14, 15], [12, 13, 14, 15], [10, 11, 12, 13, 14, 15], [10, 11, 12, 14, 15], [10, 11, 12, 15]] (by decide) ?_
  simp
  refine S 60 _ _ ?_
  simp
  refine ⟨fun hc e => hc (by rw [e]), fun hc => LpW.inv (LpW.step (S 60 _ _ ?_))⟩
  simp
  cases x; cases y; simp_all

theorem mx_rows (g h : Mx) : g = h ↔ (⟨g.a, g.b, g.c⟩ : Ex) = ⟨h.a, h.b, h.c⟩ ∧ (⟨g.d, g.e, g.f⟩ : Ex) = ⟨h.d, h.e, h.f⟩ ∧ (⟨g.g, g.h, g.i⟩ : Ex) = ⟨h.g, h.h, h.i⟩ := by
  cases g; cases h
  simp [and_assoc]

set_option maxRecDepth 8000 in
set_option maxHeartbeats 1000000 in
theorem eqMatrix_ok (g h : Mx) : CallOK Go.Proofs.Try.prog 42 [.agg g.ds, .agg h.ds] (.one (bo (decide (g = h)))) := by
  have hF := fnOk 18 [.tmp 4]
  refine callOK hF 60 Go.Proofs.Try.func42 rfl rfl rfl (by decide) (by simp) rfl ?_
  intro w0 hw
  have S := @vc_sound w0 _ hF ⟨(.one (bo (decide (g = h)))), []⟩ Go.Proofs.Try.f42 rfl (by simp)
  have c1 := eqByteA3_ok ⟨g.a, g.b, g.c⟩ ⟨h.a, h.b, h.c⟩
  have c2 := eqByteA3_ok ⟨g.d, g.e, g.f⟩ ⟨h.d, h.e, h.f⟩
  have c3 := eqByteA3_ok ⟨g.g, g.h, g.i⟩ ⟨h.g, h.h, h.i⟩
  have hr := mx_rows g h
  by_cases e1 : (⟨g.a, g.b, g.c⟩ : Ex) = ⟨h.a, h.b, h.c⟩
  case neg =>
    have e : decide (g = h) = false := decide_eq_false fun e => e1 (hr.1 e).1
    rw [e] at S ⊢
    rw [decide_eq_false e1] at c1
    simp
    refine J.rounds 5 (LpW.step (S 60 _ _ ?_))
    simp
    refine J.dr hF mixed 6 [[], [0], [0, 1], [], [3], [3, 4], [0, 1, 2, 3, 4, 5], [0, 1, 2, 3, 4, 5, 6]] [[10, 11, 12, 13, 14, 15], [11, 12, 13, 14, 15], [12, 13, 14, 15], [10, 11, 12, 13, 14, 15], [10, 11, 12, 14, 15], [10, 11, 12, 15]] (by decide) ?_
    simp
    refine S 60 _ _ ?_
    simp
    refine CallW.ok (by decide) (by simp) c1 (by simp) (S 60 _ _ ?_)
    simp
  rw [decide_eq_true e1] at c1
  by_cases e2 : (⟨g.d, g.e, g.f⟩ : Ex) = ⟨h.d, h.e, h.f⟩
  case neg =>
    have e : decide (g = h) = false := decide_eq_false fun e => e2 (hr.1 e).2.1
    rw [e] at S ⊢
    rw [decide_eq_false e2] at c2
    simp
    refine J.rounds 5 (LpW.step (S 60 _ _ ?_))
    simp
    refine J.dr hF mixed 6 [[], [0], [0, 1], [], [3], [3, 4], [0, 1, 2, 3, 4, 5], [0, 1, 2, 3, 4, 5, 6]] [[10, 11, 12, 13, 14, 15], [11, 12, 13, 14, 15], [12, 13, 14, 15], [10, 11, 12, 13, 14, 15], [10, 11, 12, 14, 15], [10, 11, 12, 15]] (by decide) ?_
    simp
    refine S 60 _ _ ?_
    simp
    refine CallW.ok (by decide) (by simp) c1 (by simp) (S 60 _ _ ?_)
    simp
    refine LpW.inv (LpW.step (S 60 _ _ ?_))
    simp
    refine J.dr hF mixed 6 [[], [0], [0, 1], [], [3], [3, 4], [0, 1, 2, 3, 4, 5], [0, 1, 2, 3, 4, 5, 6]] [[10, 11, 12, 13, 14, 15], [11, 12, 13, 14, 15], [12, 13, 14, 15], [10, 11, 12, 13, 14, 15], [10, 11, 12, 14, 15], [10, 11, 12, 15]] (by decide) ?_
    simp
    refine S 60 _ _ ?_
    simp
    refine CallW.ok (by decide) (by simp) c2 (by simp) (S 60 _ _ ?_)
    simp
  rw [decide_eq_true e2] at c2
  have e4 : decide (g = h) = decide ((⟨g.g, g.h, g.i⟩ : Ex) = ⟨h.g, h.h, h.i⟩) := decide_eq_decide.2 ⟨fun e => (hr.1 e).2.2, fun e => hr.2 ⟨e1, e2, e⟩⟩
  rw [e4] at S ⊢
  generalize decide ((⟨g.g, g.h, g.i⟩ : Ex) = ⟨h.g, h.h, h.i⟩) = b at c3 S ⊢
  clear hr e1 e2 e4
  simp
  refine J.rounds 5 (LpW.step (S 60 _ _ ?_))
  simp
  refine J.dr hF mixed 6 [[], [0], [0, 1], [], [3], [3, 4], [0, 1, 2, 3, 4, 5], [0, 1, 2, 3, 4, 5, 6]] [[10, 11, 12, 13, 14, 15], [11, 12, 13, 14, 15], [12, 13, 14, 15], [10, 11, 12, 13, 14, 15], [10, 11, 12, 14, 15], [10, 11, 12, 15]] (by decide) ?_
  simp
  refine S 60 _ _ ?_
  simp
  refine CallW.ok (by decide) (by simp) c1 (by simp) (S 60 _ _ ?_)
  simp
  refine LpW.inv (LpW.step (S 60 _ _ ?_))
  simp
  refine J.dr hF mixed 6 [[], [0], [0, 1], [], [3], [3, 4], [0, 1, 2, 3, 4, 5], [0, 1, 2, 3, 4, 5, 6]] [[10, 11, 12, 13, 14, 15], [11, 12, 13, 14, 15], [12, 13, 14, 15], [10, 11, 12, 13, 14, 15], [10, 11, 12, 14, 15], [10, 11, 12, 15]] (by decide) ?_
  simp
  refine S 60 _ _ ?_
  simp
  refine CallW.ok (by decide) (by simp) c2 (by simp) (S 60 _ _ ?_)
  simp
  refine LpW.inv (LpW.step (S 60 _ _ ?_))
  simp
  refine J.dr hF mixed 6 [[], [0], [0, 1], [], [3], [3, 4], [0, 1, 2, 3, 4, 5], [0, 1, 2, 3, 4, 5, 6]] [[10, 11, 12, 13, 14, 15], [11, 12, 13, 14, 15], [12, 13, 14, 15], [10, 11, 12, 13, 14, 15], [10, 11, 12, 14, 15], [10, 11, 12, 15]] (by decide) ?_
  simp
  refine S 60 _ _ ?_
  simp
  cases b with
  | false =>
    refine CallW.ok (by decide) (by simp) c3 (by simp) (S 60 _ _ ?_)
    simp
  | true =>
    refine CallW.ok (by decide) (by simp) c3 (by simp) (S 60 _ _ ?_)
    simp
    refine LpW.inv (LpW.step (S 60 _ _ ?_))
    simp

theorem eqMatrixS_ok (xs ys : List Mx) (hl : xs.length ≤ 2000000) : CallOK Go.Proofs.Try.prog 23 [.one (vMats xs), .one (vMats ys)] (.one (bo (decide (xs = ys)))) := by
  have hF := fnOk 27 [.tmp 4]
  refine callOK hF 60 Go.Proofs.Try.func23 rfl rfl rfl (by decide) (by simp) rfl ?_
  intro w0 hw
  have S := @vc_sound w0 _ hF ⟨(.one (bo (decide (xs = ys)))), []⟩ Go.Proofs.Try.f23 rfl (by simp)
  simp
  refine ⟨fun hne e => hne (by rw [e]), fun he => ?_⟩
  refine J.loop hw (fun i : Nat => ⟨[(0, .c (.d (vMats xs))), (1, .c (.d (vMats ys))), (5, .c (.d (i64 i)))], []⟩)
    (fun i => i ≤ xs.length ∧ xs.take i = ys.take i) (fun i => xs.length - i) 0 (by simp) (by simp) ?_
  rintro i ⟨hi, ht⟩
  refine S 60 _ _ ?_
  simp
  refine ⟨fun hlt => ?_, fun hge => ?_⟩
  · refine J.dr hF mixed 8 [[], [], [0, 1], [0, 1, 2], [], [], [4, 5], [4, 5, 6], [0, 1, 2, 3, 4, 5, 6, 7], [0, 1, 2, 3, 4, 5, 6, 7, 8]] [[17, 18, 19, 20, 21, 22, 23, 24], [17, 18, 19, 20, 21, 22, 23, 24], [19, 20, 21, 22, 23, 24], [20, 21, 22, 23, 24], [17, 18, 19, 20, 21, 22, 23, 24], [17, 18, 19, 20, 21, 22, 23, 24], [17, 18, 19, 20, 23, 24], [17, 18, 19, 20, 24]] (by decide) ?_
    simp
    refine ⟨hlt, fun a ha => ⟨by omega, fun b hb => ?_⟩⟩
    have c1 := eqMatrix_ok a b
    refine S 60 _ _ ?_
    simp
    by_cases hab : a = b
    · rw [decide_eq_true hab] at c1
      refine CallW.ok (by decide) (by simp) c1 (by simp) (S 60 _ _ ?_)
      simp
      refine Nxt.mk (i + 1) ⟨hlt, ?_⟩ (by simp [wrapS (i := i) (n := xs.length) hlt (by omega)]) (by omega)
      rw [List.take_add_one, List.take_add_one, ht, ha, hb, hab]
    · rw [decide_eq_false hab] at c1
      refine CallW.ok (by decide) (by simp) c1 (by simp) (S 60 _ _ ?_)
      simp
      intro e
      rw [e, hb] at ha
      exact hab (Option.some.inj ha.symm)
  · have h1 : xs = xs.take i := by rw [List.take_of_length_le (by omega)]
    have h2 : ys = ys.take i := by rw [List.take_of_length_le (by omega)]
    rw [h1, h2, ht]

theorem eqGroup_ok (p d p' d' : Int) (xs ys : List Mx) (hl : xs.length ≤ 2000000) : CallOK Go.Proofs.Try.prog 10 [vGroup p d xs, vGroup p' d' ys] (.one (bo (decide (p = p' ∧ d = d' ∧ xs = ys)))) := by
  have hF := fnOk 21 [.tmp 4]
  refine callOK hF 60 Go.Proofs.Try.func10 rfl rfl rfl (by decide) (by simp) rfl ?_
  intro w0 hw
  have S := @vc_sound w0 _ hF ⟨(.one (bo (decide (p = p' ∧ d = d' ∧ xs = ys)))), []⟩ Go.Proofs.Try.f10 rfl (by simp)
  have c1 := eqMatrixS_ok xs ys hl
  by_cases h : p = p'
  · by_cases h2 : d = d'
    · by_cases h3 : xs = ys
      · rw [decide_eq_true h3] at c1
        have e : decide (p = p' ∧ d = d' ∧ xs = ys) = true := decide_eq_true ⟨h, h2, h3⟩
        rw [e] at S ⊢
        simp [h, h2]
        refine CallW.ok (by decide) (by simp) c1 (by simp) (S 60 _ _ ?_)
        simp
      · rw [decide_eq_false h3] at c1
        have e : decide (p = p' ∧ d = d' ∧ xs = ys) = false := decide_eq_false fun h => h3 h.2.2
        rw [e] at S ⊢
        simp [h, h2]
        refine CallW.ok (by decide) (by simp) c1 (by simp) (S 60 _ _ ?_)
        simp
    · simp [h, h2]
  · simp [h]

end Go.Sm
