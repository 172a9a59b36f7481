/- Towards the rows of this seat: what the functions do, as contracts over plain data. -/
import Derived.Test.YtdfihhfnnogpeaaPk33
namespace Go.Sm
open Go.RowKit

abbrev plO (x : Pl) : List D := [i64 x.p, i64 x.d, oTerms x.ts]
abbrev one1 : List Tm := [⟨e0, 1⟩]
/-- The products of a degree. -/
def prodsP (p d : Int) (ys : List Pl) (es : List (List Int)) : List Pl := es.map fun e => ⟨p, d, prodL p ys e one1⟩
theorem exps_facts {p d : Int} {ys : List Pl} {n : Nat} (_ : GL p d ys) (hd : ∀ y ∈ ys, 1 ≤ dgP y) (hn : n ≤ 12) : ∀ e ∈ expsL (ys.map dgP) n, e.length = ys.length ∧ degL (ys.map dgP) e ≤ 12 ∧ ∀ x ∈ e, 0 ≤ x ∧ x ≤ 12 := by
  intro e he
  obtain ⟨h1, h2, h3⟩ := expsL_mem (fun d hd' => by obtain ⟨y, hy, rfl⟩ := List.mem_map.1 hd'; exact hd y hy) he
  rw [List.length_map] at h1
  exact ⟨h1, by omega, fun x hx => by have := h3 x hx; omega⟩
theorem prodL_good {p d : Int} {ys : List Pl} {e : List Int} (hp : 2 ≤ p) (hg : GL p d ys) (h12 : degL (ys.map dgP) e ≤ 12) : Can p (prodL p ys e one1) ∧ AllE (DegLe d 12) (prodL p ys e one1) :=
  prodL_facts hp ys e one1 0 (fun y hy => dg_all (hg y hy).2.2) (one_can hp) (const_all d 1) (by omega)

set_option maxHeartbeats 1000000 in
set_option maxRecDepth 4000 in
theorem l05Products_ok (p d : Int) (ys : List Pl) (n : Nat) (hp : Pr p) (hd : 1 ≤ d ∧ d ≤ 3) (hg : GL p d ys) (hl : ys.length ≤ 8) (hne : ys ≠ []) (hd1 : ∀ y ∈ ys, 1 ≤ dgP y) (hn : n ≤ 12) : CallOK Go.Proofs.Try.prog 50 [.one (vPolys ys), .one (i64 n)] (.one (oPolys (prodsP p d ys (expsL (ys.map dgP) n)))) := by
  have hF := fnOk 28 [.tmp 4]
  refine callOK hF 60 Go.Proofs.Try.func50 rfl rfl rfl (by decide) (by simp) rfl ?_
  intro w0 hw
  have S := @vc_sound w0 _ hF ⟨(.one (oPolys (prodsP p d ys (expsL (ys.map dgP) n)))), []⟩ Go.Proofs.Try.f50 rfl (by simp)
  have c1 := l05Exponents_ok ys n hn hl (fun y hy => ⟨by have := goodP_len (hg y hy).2.2; omega, hd1 y hy⟩)
  have hef := exps_facts hg hd1 hn
  have hEl := expsL_len (ys.map dgP) n hn
  have hp13 := pow13 (show (ys.map dgP).length ≤ 8 by simpa using hl)
  generalize expsL (ys.map dgP) n = L at c1 hef hEl S ⊢
  simp
  refine CallW.ok (by decide) (by simp) c1 (by simp) (S 60 _ _ ?_)
  simp
  refine J.loop hw (fun u : Nat × List Pl => ⟨[(0, .c (.d (vPolys ys))), (5, .c (.ob 64005)), (6, .c (.ob 64006)), (7, .c (.d (i64 u.1)))],
      [(64005, .arr 36 1 (L.map fun x => [oInts x])), (64006, .arr 28 3 (u.2.map plO))]⟩)
    (fun u => u.1 ≤ L.length ∧ u.2 = prodsP p d ys (L.take u.1)) (fun u => L.length - u.1) (0, []) (by simp [prodsP]) (by simp) ?_
  rintro ⟨i, acc⟩ ⟨hi, hacc⟩
  simp only at hi hacc
  have hal : acc.length ≤ 815730721 := by rw [hacc, prodsP, List.length_map, List.length_take]; omega
  refine S 12 _ _ ?_
  simp
  refine ⟨fun hlt => ?_, fun hge => ?_⟩
  · obtain ⟨e, he⟩ : ∃ e, L[i]? = some e := ⟨L[i], List.getElem?_eq_getElem hlt⟩
    obtain ⟨e1, e2, e3⟩ := hef e (List.mem_of_getElem? he)
    have c2 := l05Product_ok p d ys e hp hd hg hl hne e1 e3 e2
    have hst : prodsP p d ys (L.take (i + 1)) = prodsP p d ys (L.take i) ++ [⟨p, d, prodL p ys e one1⟩] := by
      unfold prodsP
      rw [List.take_add_one, he]; simp
    generalize prodL p ys e one1 = T at c2 hst
    refine S 60 _ _ ?_
    simp
    refine ⟨hlt, fun x hx => ?_⟩
    obtain rfl : e = x := Option.some.inj (he.symm.trans hx)
    refine CallW.ok (by decide) (by simp) c2 (by simp) (S 60 _ _ ?_)
    simp
    refine BsW.move hF (e := 28) (es := [[i64 p, i64 d, oTerms T]]) (ks := [1538]) (by decide) rfl rfl rfl (by simp) (by simp) rfl (by decide) (by decide) (by simp) ?_
    refine S 60 _ _ ?_
    simp
    refine ⟨⟨by omega, by omega⟩, ?_⟩
    exact Nxt.mk (i + 1, acc ++ [⟨p, d, T⟩]) ⟨hlt, by show acc ++ [_] = _; rw [hacc, ← hst]⟩ (by simp [wrapS (i := i) (n := L.length) hlt (by omega)]) (by show L.length - (i + 1) < L.length - i; omega)
  · have e1 : L.take i = L := List.take_of_length_le hge
    rw [e1] at hacc
    subst hacc
    refine S 60 _ _ ?_
    simp

/-- The sum of the products with numbers. -/
def sumR (p : Int) (ys : List Pl) : List (List Int) → List Int → List Tm → List Tm
  | e :: es, k :: ks, a => sumR p ys es ks (plusT p a (prodL p ys e one1) k)
  | _, _, a => a
theorem sumR_drop {p : Int} {ys : List Pl} {L : List (List Int)} {ks : List Int} {i : Nat} {e : List Int} {k : Int} {a : List Tm} (he : L[i]? = some e) (hk : ks[i]? = some k) :
    sumR p ys (L.drop i) (ks.drop i) a = sumR p ys (L.drop (i + 1)) (ks.drop (i + 1)) (plusT p a (prodL p ys e one1) k) := by
  rw [drop_cons he, drop_cons hk]; rfl
theorem plusT_zero {p : Int} (hp : 0 < p) {a us : List Tm} (ha : Can p a) (hu : Can p us) : plusT p a us 0 = a := by
  obtain ⟨h1, _, h3⟩ := plusT_ok hp ha 0 us (asc_nodup hu.1)
  refine can_ext h1 ha fun e => ?_
  have := coef_bound hp ha e
  rw [h3, Int.zero_mul, Int.add_zero, Int.emod_eq_of_lt this.1 this.2]

/-- Whether numbers are a relation. -/
noncomputable def isRel (ys : List Pl) (n : Int) (ks : List Int) : Bool × Int :=
  open Classical in if relN ys n ≠ 0 then (false, relN ys n) else match ys[0]? with
  | none => (false, 2)
  | some y0 => if PointP y0.p (cntL (ys.map dgP) n.toNat) ks then (decide (sumR y0.p ys (expsL (ys.map dgP) n.toNat) ks [] = []), 0) else (false, 2)
theorem relN_facts {ys : List Pl} {n : Int} {y0 : Pl} (h : relN ys n = 0) (h0 : ys[0]? = some y0) : AllP ys ∧ ys ≠ [] ∧ IsL ys ∧ (0 ≤ n ∧ n ≤ 12) ∧ Pr y0.p ∧ (1 ≤ y0.d ∧ y0.d ≤ 3) ∧ GL y0.p y0.d ys ∧ ∀ y ∈ ys, 1 ≤ dgP y := by
  have ha : AllP ys := Classical.byContradiction fun ha => by rw [relN_bad ha] at h; omega
  have h1 : (ys ≠ [] ∧ IsL ys) ∧ 0 ≤ n ∧ n ≤ 12 := Classical.byContradiction fun h1 => by rw [relN_no ha h1] at h; omega
  have hg0 := ha y0 (List.mem_of_getElem? h0)
  refine ⟨ha, h1.1.1, h1.1.2, h1.2, hg0.1, hg0.2.1, fun y hy => ?_, fun y hy => ?_⟩
  · obtain ⟨⟨e1, e2⟩, _⟩ := h1.1.2.2 y hy y0 h0
    have := ha y hy
    rw [e1, e2] at this
    exact ⟨e1, e2, this⟩
  · have := (h1.1.2.2 y hy y0 h0).2.2
    unfold dgP dg; omega

set_option maxHeartbeats 2000000 in
set_option maxRecDepth 4000 in
theorem IsRelation_ok (ys : List Pl) (n : Int) (ks : List Int) (hl : ys.length ≤ 1048576) (hr : ∀ y ∈ ys, y.ts.length ≤ 1048576) (hk : ks.length ≤ 1048576) : CallOK Go.Proofs.Try.prog 19 [.one (vPolys ys), .one (i64 n), .one (vInts ks)] (.tup [(false, [bo (isRel ys n ks).1]), (false, [i64 (isRel ys n ks).2])]) := by
  have hF := fnOk 71 [.tmp 6, .tmp 7]
  refine callOK hF 60 Go.Proofs.Try.func19 rfl rfl rfl (by decide) (by simp) rfl ?_
  intro w0 hw
  have S := @vc_sound w0 _ hF ⟨(.tup [(false, [bo (isRel ys n ks).1]), (false, [i64 (isRel ys n ks).2])]), []⟩ Go.Proofs.Try.f19 rfl (by simp)
  have c1 := relationsCode_ok ys n hl hr
  by_cases h0 : relN ys n = 0
  · rw [h0] at c1
    have hne : ys ≠ [] := by
      intro h
      subst h
      by_cases ha : AllP []
      · rw [relN_no ha (fun h => h.1.1 rfl)] at h0; omega
      · rw [relN_bad ha] at h0; omega
    obtain ⟨y0, hy0⟩ : ∃ y, ys[0]? = some y := ⟨ys[0]'(by have := List.length_pos_iff.2 hne; omega), List.getElem?_eq_getElem _⟩
    obtain ⟨ha, _, hL, hn, hp, hd, hg, hd1⟩ := relN_facts h0 hy0
    have hpp := hp.pos
    obtain ⟨N, rfl⟩ : ∃ N : Nat, n = N := ⟨n.toNat, by omega⟩
    have e : isRel ys N ks = if PointP y0.p (cntL (ys.map dgP) N) ks then (decide (sumR y0.p ys (expsL (ys.map dgP) N) ks [] = []), 0) else (false, 2) := by
      unfold isRel
      rw [if_neg (by simpa using h0), hy0]
      simp only [Int.toNat_natCast]
    rw [e] at S ⊢
    have c2 := degreesOf_ok ys hl (fun y hy => by have := goodP_len (ha y hy); omega)
    have hdeg : (ys.map fun y => degT y.ts) = (ys.map dgP).map fun d : Nat => (d : Int) := by
      rw [List.map_map]
      exact List.map_congr_left fun y hy => degT_dg (hd1 y hy)
    rw [hdeg] at c2
    have c3 := ways_ok (ys.map dgP) N (by omega) (by rw [List.length_map]; exact hL.1) (fun d hd' => by
      obtain ⟨y, hy, rfl⟩ := List.mem_map.1 hd'
      exact ⟨hd1 y hy, dg_le (hg y hy).2.2⟩)
    have hrev := cntL_rev (ds := ys.map dgP) (fun d hd' => by obtain ⟨y, hy, rfl⟩ := List.mem_map.1 hd'; exact hd1 y hy) N
    have hwg := midW_get (F := cntL (ys.map dgP).reverse) (G := cntL (ys.map dgP).reverse) (k := N) (i := 0) (j := N) (Nat.le_refl _)
    rw [if_neg (by omega), hrev] at hwg
    have hml := midW_len (cntL (ys.map dgP).reverse) (cntL (ys.map dgP).reverse) N 0
    have c4 := field_ok y0.p ks hk
    have c5 := zeroPoly_ok y0.p y0.d
    have c6 := exponents_ok ys N (by omega) hL.1 (fun y hy => ⟨by have := goodP_len (hg y hy).2.2; omega, hd1 y hy⟩)
    have hef := exps_facts hg hd1 (show N ≤ 12 by omega)
    have hcnt : (expsL (ys.map dgP) N).length = cntL (ys.map dgP) N := rfl
    generalize midW (cntL (ys.map dgP).reverse) (cntL (ys.map dgP).reverse) N 0 = M at c3 hwg hml
    generalize cntL (ys.map dgP) N = C at hwg hcnt S ⊢
    have hlt0 : 0 < ys.length := List.length_pos_iff.2 hne
    have hM : N < M.length := by omega
    by_cases h1 : (ks.length : Int) = C
    · by_cases h2 : ∀ x ∈ ks, 0 ≤ x ∧ x < y0.p
      · rw [decide_eq_true h2] at c4
        rw [if_pos ⟨h1, h2⟩] at S ⊢
        simp
        refine CallW.ok (by decide) (by simp) c1 (by simp) (S 60 _ _ ?_)
        simp
        refine ⟨hlt0, fun x hx => ?_⟩
        obtain rfl : y0 = x := Option.some.inj (hy0.symm.trans hx)
        refine CallW.ok (by decide) (by simp) c2 (by simp) (S 60 _ _ ?_)
        simp
        refine CallW.ok (by decide) (by simp) c3 (by simp) (S 60 _ _ ?_)
        simp
        refine ⟨hM, fun a ha => ?_⟩
        obtain rfl := Option.some.inj (hwg.symm.trans ha)
        refine ⟨fun _ => ?_, h1⟩
        refine CallW.ok (by decide) (by simp) c4 (by simp) (S 60 _ _ ?_)
        simp
        refine ⟨hlt0, fun x hx => ?_⟩
        obtain rfl : y0 = x := Option.some.inj (hy0.symm.trans hx)
        refine CallW.ok (by decide) (by simp) c5 (by simp) (S 60 _ _ ?_)
        simp
        refine CallW.ok (by decide) (by simp) c6 (by simp) (S 60 _ _ ?_)
        simp
        have hL8 := hL.1
        clear c1 c2 c3 c4 c5 c6 hwg hml hrev hdeg e ha hy0 h0 hl hr hL
        generalize expsL (ys.map dgP) N = L at hef hcnt S ⊢
        generalize hT : sumR y0.p ys L ks [] = T at S ⊢
        generalize y0.p = p at *
        generalize y0.d = d at *
        refine J.loop hw (fun u : PS => ⟨[(0, .c (.d (vPolys ys))), (2, .c (.d (vInts ks))), (6, .c (.d (bo false))), (7, .c (.d (i64 0))), (10, .c (.ref 64010 0)), (47, .c (.ob 64047)), (48, .c (.d (i64 L.length))), (49, .c (.d (i64 u.i)))],
            [(64010, .var [.d (i64 p), .d (i64 d), .ob 64020]), (64020, .arr 57 4 (terms u.a)), (64047, .arr 36 1 (L.map fun x => [oInts x]))]⟩)
          (fun u => u.i ≤ L.length ∧ Can p u.a ∧ AllE (DegLe d 12) u.a ∧ sumR p ys (L.drop u.i) (ks.drop u.i) u.a = T) (fun u => L.length - u.i) ⟨0, []⟩ ⟨by simp, can_nil p, (fun t ht => by cases ht), by simpa using hT⟩ (by simp) ?_
        rintro ⟨i, a⟩ ⟨hi, hca, hda, hsm⟩
        simp only at hi hca hda hsm ⊢
        have hal := can_len hca hda (Nat.le_refl _)
        refine S 8 _ _ ?_
        simp
        refine ⟨fun hlt => ?_, fun hge => ?_⟩
        · obtain ⟨e, he⟩ : ∃ e, L[i]? = some e := ⟨L[i], List.getElem?_eq_getElem hlt⟩
          have hik : i < ks.length := by omega
          obtain ⟨k, hk1⟩ : ∃ k, ks[i]? = some k := ⟨ks[i], List.getElem?_eq_getElem hik⟩
          have hkb := h2 k (List.mem_of_getElem? hk1)
          obtain ⟨e1, e2, e3⟩ := hef e (List.mem_of_getElem? he)
          obtain ⟨w1, w2⟩ := prodL_good hpp.1 hg e2
          have wl := can_len w1 w2 (Nat.le_refl _)
          rw [sumR_drop he hk1] at hsm
          have c7 := product_ok p d ys e hp hd hg hL8 hne e1 e3 e2
          have c8 := add_ok p d p d k a (prodL p ys e one1) (by omega) (by omega) hca w1 (by omega) (by omega) (by omega) (by omega)
          have q1 := plusT_can (show 0 < p by omega) hca (prodL p ys e one1) k
          have q2 : AllE (DegLe d 12) (plusT p a (prodL p ys e one1) k) := plusT_all hda w2
          refine S 6 _ _ ?_
          simp
          refine ⟨hlt, fun x hx => ?_⟩
          obtain rfl : e = x := Option.some.inj (he.symm.trans hx)
          by_cases hk0 : k = 0
          · subst hk0
            rw [plusT_zero (by omega) hca w1] at hsm
            refine S 60 _ _ ?_
            simp
            refine ⟨hik, fun x hx => ?_⟩
            obtain rfl : (0 : Int) = x := Option.some.inj (hk1.symm.trans hx)
            simp
            exact Nxt.mk ⟨i + 1, a⟩ ⟨hlt, hca, hda, hsm⟩ (by simp [wrapS (i := i) (n := L.length) hlt (by omega)]) (by show L.length - (i + 1) < L.length - i; omega)
          · generalize prodL p ys e one1 = pr at c7 c8 hsm q1 q2
            generalize plusT p a pr k = a' at c8 hsm q1 q2
            refine S 60 _ _ ?_
            simp
            refine ⟨hik, fun x hx => ?_⟩
            obtain rfl : k = x := Option.some.inj (hk1.symm.trans hx)
            simp [hk0]
            refine J.dr hF mixed 8 [[], [], [], [1, 2], [], [], [4, 5], [4, 5, 6], [0, 1, 2, 3, 4, 5, 6, 7], [0, 1, 2, 3, 4, 5, 6, 7, 8]] [[59, 60, 61, 62, 63, 64, 65, 66], [59, 60, 61, 62, 63, 64, 65, 66], [59, 60, 61, 62, 63, 64, 65, 66], [59, 62, 63, 64, 65, 66], [59, 60, 61, 62, 63, 64, 65, 66], [59, 60, 61, 62, 63, 64, 65, 66], [59, 60, 61, 62, 65, 66], [59, 60, 61, 62, 66]] (by decide) ?_
            simp
            refine DrC.ok hF (by rfl) (by simp) c7 (by simp) (by simp) ?_
            simp
            refine ⟨hik, fun x hx => ?_⟩
            obtain rfl : k = x := Option.some.inj (hk1.symm.trans hx)
            refine S 60 _ _ ?_
            simp
            refine CallW.ok (by decide) (by simp) c8 (by simp) (S 60 _ _ ?_)
            simp
            exact Nxt.mk ⟨i + 1, a'⟩ ⟨hlt, q1, q2, hsm⟩ (by simp [wrapS (i := i) (n := L.length) hlt (by omega)]) (by show L.length - (i + 1) < L.length - i; omega)
        · have c9 := isZero_ok p d a (by omega)
          have e1 : sumR p ys (L.drop i) (ks.drop i) a = a := by
            rw [List.drop_eq_nil_of_le (show L.length ≤ i by omega)]; rfl
          rw [e1] at hsm
          subst hsm
          refine S 60 _ _ ?_
          simp
          refine CallW.ok (by decide) (by simp) c9 (by simp) (S 60 _ _ ?_)
          simp
      · rw [decide_eq_false h2] at c4
        rw [if_neg (fun h => h2 h.2)] at S ⊢
        simp
        refine CallW.ok (by decide) (by simp) c1 (by simp) (S 60 _ _ ?_)
        simp
        refine ⟨hlt0, fun x hx => ?_⟩
        obtain rfl : y0 = x := Option.some.inj (hy0.symm.trans hx)
        refine CallW.ok (by decide) (by simp) c2 (by simp) (S 60 _ _ ?_)
        simp
        refine CallW.ok (by decide) (by simp) c3 (by simp) (S 60 _ _ ?_)
        simp
        refine ⟨hM, fun a ha => ?_⟩
        obtain rfl := Option.some.inj (hwg.symm.trans ha)
        refine fun _ => ?_
        refine CallW.ok (by decide) (by simp) c4 (by simp) (S 60 _ _ ?_)
        simp
    · rw [if_neg (fun h => h1 h.1)] at S ⊢
      simp
      refine CallW.ok (by decide) (by simp) c1 (by simp) (S 60 _ _ ?_)
      simp
      refine ⟨hlt0, fun x hx => ?_⟩
      obtain rfl : y0 = x := Option.some.inj (hy0.symm.trans hx)
      refine CallW.ok (by decide) (by simp) c2 (by simp) (S 60 _ _ ?_)
      simp
      refine CallW.ok (by decide) (by simp) c3 (by simp) (S 60 _ _ ?_)
      simp
      refine ⟨hM, fun a ha => ?_⟩
      obtain rfl := Option.some.inj (hwg.symm.trans ha)
      exact fun h => absurd h h1
  · have e : isRel ys n ks = (false, relN ys n) := by unfold isRel; rw [if_pos h0]
    rw [e] at S ⊢
    generalize relN ys n = c at c1 h0 S ⊢
    simp
    refine CallW.ok (by decide) (by simp) c1 (by simp) (S 60 _ _ ?_)
    simp [h0]
end Go.Sm

namespace Go.Sm
open Go.RowKit

theorem prodsP_get {p d : Int} {ys : List Pl} {L : List (List Int)} {i : Nat} {e : List Int} (h : L[i]? = some e) : (prodsP p d ys L)[i]? = some ⟨p, d, prodL p ys e one1⟩ := by
  unfold prodsP; rw [List.getElem?_map, h]; rfl

set_option maxHeartbeats 2000000 in
set_option maxRecDepth 4000 in
theorem specIsRelation_ok (ys : List Pl) (n : Int) (ks : List Int) (hl : ys.length ≤ 1048576) (hr : ∀ y ∈ ys, y.ts.length ≤ 1048576) (hk : ks.length ≤ 1048576) : CallOK Go.Proofs.Try.prog 16 [.one (vPolys ys), .one (i64 n), .one (vInts ks)] (.tup [(false, [bo (isRel ys n ks).1]), (false, [i64 (isRel ys n ks).2])]) := by
  have hF := fnOk 65 [.tmp 6, .tmp 7]
  refine callOK hF 60 Go.Proofs.Try.func16 rfl rfl rfl (by decide) (by simp) rfl ?_
  intro w0 hw
  have S := @vc_sound w0 _ hF ⟨(.tup [(false, [bo (isRel ys n ks).1]), (false, [i64 (isRel ys n ks).2])]), []⟩ Go.Proofs.Try.f16 rfl (by simp)
  have c1 := l05Some_ok ys n hl hr
  by_cases h0 : relN ys n = 0
  · rw [h0] at c1
    have hne : ys ≠ [] := by
      intro h
      subst h
      by_cases ha : AllP []
      · rw [relN_no ha (fun h => h.1.1 rfl)] at h0; omega
      · rw [relN_bad ha] at h0; omega
    obtain ⟨y0, hy0⟩ : ∃ y, ys[0]? = some y := ⟨ys[0]'(by have := List.length_pos_iff.2 hne; omega), List.getElem?_eq_getElem _⟩
    obtain ⟨ha, _, hL, hn, hp, hd, hg, hd1⟩ := relN_facts h0 hy0
    have hpp := hp.pos
    obtain ⟨N, rfl⟩ : ∃ N : Nat, n = N := ⟨n.toNat, by omega⟩
    have e : isRel ys N ks = if PointP y0.p (cntL (ys.map dgP) N) ks then (decide (sumR y0.p ys (expsL (ys.map dgP) N) ks [] = []), 0) else (false, 2) := by
      unfold isRel
      rw [if_neg (by simpa using h0), hy0]
      simp only [Int.toNat_natCast]
    rw [e] at S ⊢
    have c5 := l01Empty_ok y0.p y0.d
    have c6 := l05Exponents_ok ys N (by omega) hL.1 (fun y hy => ⟨by have := goodP_len (hg y hy).2.2; omega, hd1 y hy⟩)
    have c3 := l05Products_ok y0.p y0.d ys N hp hd hg hL.1 hne hd1 (by omega)
    have hef := exps_facts hg hd1 (show N ≤ 12 by omega)
    have hcnt : (expsL (ys.map dgP) N).length = cntL (ys.map dgP) N := rfl
    have hEl := expsL_len (ys.map dgP) N (by omega)
    have hp13 := pow13 (show (ys.map dgP).length ≤ 8 by simpa using hL.1)
    have c4 := l01Point_ok y0.p (cntL (ys.map dgP) N) ks hp hk
    have hlt0 : 0 < ys.length := List.length_pos_iff.2 hne
    have hL8 := hL.1
    generalize expsL (ys.map dgP) N = L at hef hcnt hEl c3 c6 S ⊢
    generalize hC : cntL (ys.map dgP) N = C at hcnt c4 S ⊢
    have hCL : (L.length : Int) = C := by omega
    by_cases h1 : PointP y0.p C ks
    · rw [decide_eq_true h1] at c4
      rw [if_pos h1] at S ⊢
      simp
      refine CallW.ok (by decide) (by simp) c1 (by simp) (S 60 _ _ ?_)
      simp
      refine J.dr hF mixed 12 [[], [0], [0, 1], [0, 1, 2], [0, 1, 2, 3], [0, 1, 2, 3, 4], [0, 1, 2, 3, 4, 5], [0, 1, 2], [0, 1, 2], [0, 1, 2, 7, 8], [0, 1, 2, 7, 8, 9], [0, 1, 2], [0, 1, 2, 3, 4, 5, 6, 7, 8, 9, 10, 11], [0, 1, 2, 3, 4, 5, 6, 7, 8, 9, 10, 11, 12], [0, 1, 2, 3, 4, 5, 6, 7, 8, 9, 10, 11, 12, 13]] [[15, 16, 17, 18, 19, 20, 21, 22, 23, 24, 25, 26], [16, 17, 18, 19, 20, 21, 22, 23, 24, 25, 26], [17, 18, 19, 20, 21, 22, 23, 24, 25, 26], [18, 19, 20, 21, 22, 23, 24, 25, 26], [19, 20, 21, 22, 23, 24, 25, 26], [20, 21, 22, 23, 24, 25, 26], [21, 22, 23, 24, 25, 26], [18, 19, 20, 21, 22, 23, 24, 25, 26], [18, 19, 20, 21, 22, 23, 24, 25, 26], [18, 19, 20, 21, 24, 25, 26], [18, 19, 20, 21, 25, 26], [18, 19, 20, 21, 22, 23, 24, 25, 26]] (by decide) ?_
      simp
      refine ⟨hlt0, fun x hx => ?_⟩
      obtain rfl : y0 = x := Option.some.inj (hy0.symm.trans hx)
      refine DrC.ok hF (by rfl) (by simp) c6 (by simp) (by simp) ?_
      simp
      refine S 60 _ _ ?_
      simp
      refine CallW.ok (by decide) (by simp [hCL]) c4 (by simp) (S 60 _ _ ?_)
      simp
      refine J.dr3 hF mixed 13 [[], [], [0, 1], [], [3], [3, 4], [3, 4, 5], [], [7], [7, 8], [7, 8, 9], [0, 1, 2, 3, 4, 5, 6, 7, 8, 9, 10], [], [0, 1, 2, 3, 4, 5, 6, 7, 8, 9, 10, 11, 12], [0, 1, 2, 3, 4, 5, 6, 7, 8, 9, 10, 11, 12, 13]] [[33, 34, 35, 36, 37, 38, 39, 40, 41, 42, 43, 44, 10], [33, 34, 35, 36, 37, 38, 39, 40, 41, 42, 43, 44, 10], [35, 36, 37, 38, 39, 40, 41, 42, 43, 44, 10], [33, 34, 35, 36, 37, 38, 39, 40, 41, 42, 43, 44, 10], [33, 34, 35, 37, 38, 39, 40, 41, 42, 43, 44, 10], [33, 34, 35, 38, 39, 40, 41, 42, 43, 44, 10], [33, 34, 35, 39, 40, 41, 42, 43, 44, 10], [33, 34, 35, 36, 37, 38, 39, 40, 41, 42, 43, 44, 10], [33, 34, 35, 36, 37, 38, 39, 41, 42, 43, 44, 10], [33, 34, 35, 36, 37, 38, 39, 42, 43, 44, 10], [33, 34, 35, 36, 37, 38, 39, 43, 44, 10], [44, 10], [33, 34, 35, 36, 37, 38, 39, 40, 41, 42, 43, 44, 10]] [[], [], [], [], [], [], [], [], [], [], [], [], []] [[], [], [], [], [], [], [], [], [], [], [], [], []] [] [] (by decide) ?_
      simp
      refine DrC3.ok hF (by rfl) (by simp) c3 (by simp) (by simp) ?_
      simp
      refine ⟨hlt0, fun x hx => ?_⟩
      obtain rfl : y0 = x := Option.some.inj (hy0.symm.trans hx)
      refine ⟨hlt0, fun x hx => ?_⟩
      obtain rfl : y0 = x := Option.some.inj (hy0.symm.trans hx)
      refine DrC3.ok hF (by rfl) (by simp) c5 (by simp) (by simp) ?_
      simp
      refine S 60 _ _ ?_
      simp
      clear c1 c3 c4 c5 c6 hL e ha hy0 h0 hl hr hx hC
      generalize hT : sumR y0.p ys L ks [] = T at S ⊢
      generalize y0.p = p at *
      generalize y0.d = d at *
      refine J.loop hw (fun u : PS => ⟨[(0, .c (.d (vPolys ys))), (2, .c (.d (vInts ks))), (6, .c (.d (bo false))), (7, .c (.d (i64 0))), (9, .c (.ob 64009)), (10, .c (.ref 64010 0)), (11, .c (.d (i64 u.i)))],
          [(64010, .var [.d (i64 p), .d (i64 d), .ob 64020]), (64020, .arr 57 4 (terms u.a)), (64009, .arr 28 3 ((prodsP p d ys L).map plO))]⟩)
        (fun u => u.i ≤ L.length ∧ Can p u.a ∧ AllE (DegLe d 12) u.a ∧ sumR p ys (L.drop u.i) (ks.drop u.i) u.a = T) (fun u => L.length - u.i) ⟨0, []⟩ ⟨by simp, can_nil p, (fun t ht => by cases ht), by simpa using hT⟩ (by simp) ?_
      rintro ⟨i, a⟩ ⟨hi, hca, hda, hsm⟩
      simp only at hi hca hda hsm ⊢
      have hal := can_len hca hda (Nat.le_refl _)
      have hpl : (prodsP p d ys L).length = L.length := by simp [prodsP]
      refine S 12 _ _ ?_
      simp [hpl]
      refine ⟨fun hlt => ?_, fun hge => ?_⟩
      · obtain ⟨e, he⟩ : ∃ e, L[i]? = some e := ⟨L[i], List.getElem?_eq_getElem hlt⟩
        have hik : i < ks.length := by have := h1.1; omega
        obtain ⟨k, hk1⟩ : ∃ k, ks[i]? = some k := ⟨ks[i], List.getElem?_eq_getElem hik⟩
        have hkb := h1.2 k (List.mem_of_getElem? hk1)
        obtain ⟨e1, e2, e3⟩ := hef e (List.mem_of_getElem? he)
        obtain ⟨w1, w2⟩ := prodL_good hpp.1 hg e2
        have wl := can_len w1 w2 (Nat.le_refl _)
        rw [sumR_drop he hk1] at hsm
        have c8 := l01Plus_ok p d p d k a (prodL p ys e one1) (by omega) (by omega) hca w1 (by omega) (by omega) (by omega) (by omega)
        have q1 := plusT_can (show 0 < p by omega) hca (prodL p ys e one1) k
        have q2 : AllE (DegLe d 12) (plusT p a (prodL p ys e one1) k) := plusT_all hda w2
        have hpg := prodsP_get (p := p) (d := d) (ys := ys) he
        generalize hPL : prodsP p d ys L = PL at hpl hpg ⊢
        generalize prodL p ys e one1 = pr at c8 hsm q1 q2 hpg
        generalize plusT p a pr k = a' at c8 hsm q1 q2
        refine S 2 _ _ ?_
        simp
        refine J.dr hF mixed 9 [[], [], [], [1, 2], [1, 2, 3], [], [], [5, 6], [5, 6, 7], [0, 1, 2, 3, 4, 5, 6, 7, 8], [0, 1, 2, 3, 4, 5, 6, 7, 8, 9]] [[51, 52, 53, 54, 55, 56, 57, 58, 59], [51, 52, 53, 54, 55, 56, 57, 58, 59], [51, 52, 53, 54, 55, 56, 57, 58, 59], [51, 54, 55, 56, 57, 58, 59], [51, 55, 56, 57, 58, 59], [51, 52, 53, 54, 55, 56, 57, 58, 59], [51, 52, 53, 54, 55, 56, 57, 58, 59], [51, 52, 53, 54, 55, 58, 59], [51, 52, 53, 54, 55, 59]] (by decide) ?_
        simp
        refine ⟨by omega, fun x hx => ?_⟩
        obtain rfl := Option.some.inj (hpg.symm.trans hx)
        refine ⟨hik, fun x hx => ?_⟩
        obtain rfl : k = x := Option.some.inj (hk1.symm.trans hx)
        refine S 60 _ _ ?_
        simp
        refine CallW.ok (by decide) (by simp) c8 (by simp) (S 60 _ _ ?_)
        simp
        exact Nxt.mk ⟨i + 1, a'⟩ ⟨hlt, q1, q2, hsm⟩ (by simp [wrapS (i := i) (n := L.length) hlt (by omega)]) (by show L.length - (i + 1) < L.length - i; omega)
      · have e1 : sumR p ys (L.drop i) (ks.drop i) a = a := by
          rw [List.drop_eq_nil_of_le (show L.length ≤ i by omega)]; rfl
        rw [e1] at hsm
        subst hsm
        have hz : ((a.length : Int) == 0) = decide (a = []) := by
          cases a with
          | nil => rfl
          | cons t ts => simp; omega
        refine S 60 _ _ ?_
        simp [hz]
    · rw [decide_eq_false h1] at c4
      rw [if_neg h1] at S ⊢
      simp
      refine CallW.ok (by decide) (by simp) c1 (by simp) (S 60 _ _ ?_)
      simp
      refine J.dr hF mixed 12 [[], [0], [0, 1], [0, 1, 2], [0, 1, 2, 3], [0, 1, 2, 3, 4], [0, 1, 2, 3, 4, 5], [0, 1, 2], [0, 1, 2], [0, 1, 2, 7, 8], [0, 1, 2, 7, 8, 9], [0, 1, 2], [0, 1, 2, 3, 4, 5, 6, 7, 8, 9, 10, 11], [0, 1, 2, 3, 4, 5, 6, 7, 8, 9, 10, 11, 12], [0, 1, 2, 3, 4, 5, 6, 7, 8, 9, 10, 11, 12, 13]] [[15, 16, 17, 18, 19, 20, 21, 22, 23, 24, 25, 26], [16, 17, 18, 19, 20, 21, 22, 23, 24, 25, 26], [17, 18, 19, 20, 21, 22, 23, 24, 25, 26], [18, 19, 20, 21, 22, 23, 24, 25, 26], [19, 20, 21, 22, 23, 24, 25, 26], [20, 21, 22, 23, 24, 25, 26], [21, 22, 23, 24, 25, 26], [18, 19, 20, 21, 22, 23, 24, 25, 26], [18, 19, 20, 21, 22, 23, 24, 25, 26], [18, 19, 20, 21, 24, 25, 26], [18, 19, 20, 21, 25, 26], [18, 19, 20, 21, 22, 23, 24, 25, 26]] (by decide) ?_
      simp
      refine ⟨hlt0, fun x hx => ?_⟩
      obtain rfl : y0 = x := Option.some.inj (hy0.symm.trans hx)
      refine DrC.ok hF (by rfl) (by simp) c6 (by simp) (by simp) ?_
      simp
      refine S 60 _ _ ?_
      simp
      refine CallW.ok (by decide) (by simp [hCL]) c4 (by simp) (S 60 _ _ ?_)
      simp
  · have e : isRel ys n ks = (false, relN ys n) := by unfold isRel; rw [if_pos h0]
    rw [e] at S ⊢
    generalize relN ys n = c at c1 h0 S ⊢
    have hb : (c == 0) = false := by simpa using h0
    simp
    refine CallW.ok (by decide) (by simp) c1 (by simp) (S 60 _ _ ?_)
    simp
    refine J.dr hF mixed 12 [[], [0], [0, 1], [0, 1, 2], [0, 1, 2, 3], [0, 1, 2, 3, 4], [0, 1, 2, 3, 4, 5], [0, 1, 2], [0, 1, 2], [0, 1, 2, 7, 8], [0, 1, 2, 7, 8, 9], [0, 1, 2], [0, 1, 2, 3, 4, 5, 6, 7, 8, 9, 10, 11], [0, 1, 2, 3, 4, 5, 6, 7, 8, 9, 10, 11, 12], [0, 1, 2, 3, 4, 5, 6, 7, 8, 9, 10, 11, 12, 13]] [[15, 16, 17, 18, 19, 20, 21, 22, 23, 24, 25, 26], [16, 17, 18, 19, 20, 21, 22, 23, 24, 25, 26], [17, 18, 19, 20, 21, 22, 23, 24, 25, 26], [18, 19, 20, 21, 22, 23, 24, 25, 26], [19, 20, 21, 22, 23, 24, 25, 26], [20, 21, 22, 23, 24, 25, 26], [21, 22, 23, 24, 25, 26], [18, 19, 20, 21, 22, 23, 24, 25, 26], [18, 19, 20, 21, 22, 23, 24, 25, 26], [18, 19, 20, 21, 24, 25, 26], [18, 19, 20, 21, 25, 26], [18, 19, 20, 21, 22, 23, 24, 25, 26]] (by decide) ?_
    simp [hb]
    refine S 60 _ _ ?_
    simp [h0]
end Go.Sm
