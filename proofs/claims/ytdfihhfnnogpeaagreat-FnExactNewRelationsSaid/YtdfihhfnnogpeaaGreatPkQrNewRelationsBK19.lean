/- Towards the rows of this seat: what the functions do, as contracts over plain data. -/
import Derived.Test.YtdfihhfnnogpeaaGreatPkQrNewRelationsBK18
namespace Go.Sm
open Go.RowKit

set_option maxHeartbeats 1000000 in
theorem degreesOf_ok (ys : List Pl) (hl : ys.length ≤ 1048576) (hr : ∀ y ∈ ys, y.ts.length ≤ 1000000) : CallOK Go.Proofs.Tryz.prog 47 [.one (vPolys ys)] (.one (oInts (ys.map fun y => degT y.ts))) := by
  have hF := fnOk 20 [.tmp 2]
  refine callOK hF 60 Go.Proofs.Tryz.func47 rfl rfl rfl (by decide) (by simp) rfl ?_
  intro w0 hw
  have S := @vc_sound w0 _ hF ⟨(.one (oInts (ys.map fun y => degT y.ts))), []⟩ Go.Proofs.Tryz.f47 rfl (by simp)
  simp
  refine J.loop hw (fun i : Nat => ⟨[(3, .c (.ob 64003)), (7, .c (.d (vPolys ys))), (8, .c (.d (i64 ys.length))), (9, .c (.d (i64 i)))],
      [(64003, .arr 2 1 (ints ((ys.take i).map fun y => degT y.ts)))]⟩)
    (fun i => i ≤ ys.length) (fun i => ys.length - i) 0 (by simp) (by simp) ?_
  intro i hi
  refine S 8 _ _ ?_
  simp
  refine ⟨fun hlt => ?_, fun hge => ?_⟩
  · obtain ⟨y, hy⟩ : ∃ y, ys[i]? = some y := ⟨ys[i], List.getElem?_eq_getElem hlt⟩
    have c1 := polyDegree_ok y.p y.d y.ts (by have := hr y (List.mem_of_getElem? hy); omega)
    refine S 6 _ _ ?_
    simp
    refine ⟨hlt, fun x hx => ?_⟩
    obtain rfl : y = x := Option.some.inj (hy.symm.trans hx)
    refine S 60 _ _ ?_
    simp
    refine CallW.ok (by decide) (by simp) c1 (by simp) (S 60 _ _ ?_)
    simp
    refine ⟨⟨by omega, by omega⟩, ?_⟩
    exact Nxt.mk (i + 1) (by omega) (by simp [List.take_add_one, hy, wrapS (i := i) (n := ys.length) hlt (by omega)]) (by omega)
  · refine S 60 _ _ ?_
    simp
    have e : ys.take i = ys := List.take_of_length_le hge
    rw [List.take_of_length_le (by simp; omega)]

/-- The numbers of ways for the degrees up to k, in the making: those below i are told with d. -/
def midW (F G : Nat → Nat) (k i : Nat) : List Int := (List.range (k + 1)).map fun j => if j < i then (G j : Int) else F j
theorem midW_get {F G : Nat → Nat} {k i j : Nat} (h : j ≤ k) : (midW F G k i)[j]? = some (if j < i then (G j : Int) else F j) := by
  unfold midW
  rw [List.getElem?_map, List.getElem?_range (by omega)]; rfl
theorem midW_len (F G : Nat → Nat) (k i : Nat) : (midW F G k i).length = k + 1 := by simp [midW]
theorem midW_set {F G : Nat → Nat} {k i : Nat} (h : i ≤ k) : (midW F G k i).set i (G i : Int) = midW F G k (i + 1) := by
  apply List.ext_getElem?
  intro j
  rw [List.getElem?_set]
  by_cases hj : j ≤ k
  · rw [midW_get hj, midW_get hj, midW_len]
    by_cases e : i = j
    · subst e
      rw [if_pos rfl, if_pos (by omega), if_pos (by omega)]
    · rw [if_neg e]
      by_cases h2 : j < i
      · rw [if_pos h2, if_pos (by omega)]
      · rw [if_neg h2, if_neg (by omega)]
  · rw [List.getElem?_eq_none (by rw [midW_len]; omega), List.getElem?_eq_none (by rw [midW_len]; omega), if_neg (by omega)]
theorem midW_start {F G : Nat → Nat} {k d : Nat} (h : ∀ j < d, G j = F j) : midW F G k d = midW F F k 0 := by
  unfold midW
  refine List.map_congr_left fun j _ => ?_
  by_cases hj : j < d
  · rw [if_pos hj, if_neg (by omega), h j hj]
  · rw [if_neg hj, if_neg (by omega)]
theorem midW_end {F G : Nat → Nat} {k i : Nat} (h : k < i) : midW F G k i = midW G G k 0 := by
  unfold midW
  refine List.map_congr_left fun j hj => ?_
  have := List.mem_range.1 hj
  rw [if_pos (by omega), if_neg (by omega)]

theorem ints_set (xs : List Int) (i : Nat) (v : Int) : (ints xs).set i [i64 v] = ints (xs.set i v) := by
  unfold ints
  rw [List.map_set]
theorem midW_zero (k : Nat) : (List.replicate (k + 1) [i64 0]).set 0 [i64 1] = ints (midW (cntL []) (cntL []) k 0) := by
  have e : List.replicate (k + 1) [i64 0] = ints (List.replicate (k + 1) 0) := by simp
  rw [e, ints_set]
  congr 1
  apply List.ext_getElem?
  intro j
  by_cases hj : j ≤ k
  · rw [midW_get hj, List.getElem?_set]
    by_cases h0 : 0 = j
    · subst h0
      simp [cntL, expsL]
    · rw [if_neg h0, if_neg (by omega), List.getElem?_replicate, if_pos (by omega)]
      have : ¬ j = 0 := fun h => h0 h.symm
      simp [cntL, expsL, this]
  · rw [List.getElem?_eq_none (by rw [List.length_set, List.length_replicate]; omega), List.getElem?_eq_none (by rw [midW_len]; omega)]
theorem cntL_le {ds : List Nat} {n : Nat} (hn : n ≤ 12) (hl : ds.length ≤ 8) : cntL ds n ≤ 815730721 := Nat.le_trans (expsL_len ds n hn) (pow13 hl)

set_option maxHeartbeats 1000000 in
set_option maxRecDepth 4000 in
theorem ways_ok (ds : List Nat) (k : Nat) (hk : k ≤ 12) (hl : ds.length ≤ 8) (hd : ∀ d ∈ ds, 1 ≤ d ∧ d ≤ 12) : CallOK Go.Proofs.Tryz.prog 46 [.one (vInts (ds.map fun d : Nat => (d : Int))), .one (i64 k)] (.one (oInts (midW (cntL ds.reverse) (cntL ds.reverse) k 0))) := by
  have hF := fnOk 40 [.tmp 4]
  refine callOK hF 60 Go.Proofs.Tryz.func46 rfl rfl rfl (by decide) (by simp) rfl ?_
  intro w0 hw
  have S := @vc_sound w0 _ hF ⟨(.one (oInts (midW (cntL ds.reverse) (cntL ds.reverse) k 0))), []⟩ Go.Proofs.Tryz.f46 rfl (by simp)
  have hw0 : IntKind.i64.wrap ((k : Int) + 1) = (k : Int) + 1 := wrap64 (by omega) (by omega)
  simp [hw0]
  refine ⟨by omega, ?_⟩
  refine J.loop hw (fun i : Nat => ⟨[(1, .c (.d (i64 k))), (5, .c (.ob 64005)), (14, .c (.d (vInts (ds.map fun d : Nat => (d : Int))))), (15, .c (.d (i64 ds.length))), (16, .c (.d (i64 i)))],
      [(64005, .arr 2 1 (ints (midW (cntL (ds.take i).reverse) (cntL (ds.take i).reverse) k 0)))]⟩)
    (fun i => i ≤ ds.length) (fun i => ds.length - i) 0 (by simp) (by simp [midW_zero]) ?_
  intro i hi
  refine S 8 _ _ ?_
  simp
  refine ⟨fun hlt => ?_, fun hge => ?_⟩
  · obtain ⟨d, hd1⟩ : ∃ d, ds[i]? = some d := ⟨ds[i], List.getElem?_eq_getElem hlt⟩
    have hdd := hd d (List.mem_of_getElem? hd1)
    have hrev : (ds.take (i + 1)).reverse = d :: (ds.take i).reverse := by rw [List.take_add_one, hd1]; simp
    have hlr : (ds.take i).reverse.length ≤ 7 := by rw [List.length_reverse, List.length_take]; omega
    have hst := cntL_step hdd.1 (ds.take i).reverse
    have hFb := fun n (hn : n ≤ 12) => cntL_le (ds := (ds.take i).reverse) hn (by omega)
    have hGb := fun n (hn : n ≤ 12) => cntL_le (ds := d :: (ds.take i).reverse) hn (by simp only [List.length_cons]; omega)
    generalize cntL (ds.take i).reverse = F at hst hFb ⊢
    generalize hGG : cntL (d :: (ds.take i).reverse) = G at hst hGb
    refine S 6 _ _ ?_
    simp
    refine ⟨hlt, fun a ha => ?_⟩
    obtain rfl : d = a := Option.some.inj (hd1.symm.trans ha)
    refine S 60 _ _ ?_
    simp
    refine J.loop hw (fun j : Nat => ⟨[(1, .c (.d (i64 k))), (5, .c (.ob 64005)), (14, .c (.d (vInts (ds.map fun d : Nat => (d : Int))))), (15, .c (.d (i64 ds.length))), (16, .c (.d (i64 i))), (7, .c (.d (i64 d))), (8, .c (.d (i64 j)))],
        [(64005, .arr 2 1 (ints (midW F G k j)))]⟩)
      (fun j => d ≤ j) (fun j => k + 1 - j) d (by simp) (by
        have e : midW F G k d = midW F F k 0 := midW_start fun j hj => by have := hst j; rw [if_neg (by omega)] at this; omega
        simp [e]) ?_
    intro j hj
    refine S 12 _ _ ?_
    simp
    refine ⟨fun hlt2 => ?_, fun hge2 => ?_⟩
    · have g1 := midW_get (F := F) (G := G) (i := j) hlt2
      have g2 := midW_get (F := F) (G := G) (k := k) (i := j) (j := j - d) (by omega)
      rw [if_neg (by omega)] at g1
      rw [if_pos (by omega)] at g2
      have hs2 := hst j
      rw [if_pos hj] at hs2
      have b1 := hFb j (by omega)
      have b2 := hGb (j - d) (by omega)
      have hml := midW_len F G k j
      have hset := midW_set (F := F) (G := G) hlt2
      have w1 : IntKind.i64.wrap ((j : Int) - d) = ((j - d : Nat) : Int) := by rw [show (j : Int) - d = ((j - d : Nat) : Int) by omega]; exact wrap64 (by omega) (by omega)
      have w2 : IntKind.i64.wrap ((F j : Int) + (G (j - d) : Int)) = (G j : Int) := by rw [show (F j : Int) + (G (j - d) : Int) = (G j : Int) by omega]; exact wrap64 (by omega) (by omega)
      have w3 : IntKind.i64.wrap ((j : Int) + 1) = (j : Int) + 1 := wrap64 (by omega) (by omega)
      generalize midW F G k j = M at g1 g2 hml hset ⊢
      refine S 3 _ _ ?_
      simp
      refine J.dr hF mixed 10 [[], [], [0, 1], [0, 1, 2], [], [], [], [5, 6], [4, 5, 6, 7], [4, 5, 6, 7, 8], [0, 1, 2, 3, 4, 5, 6, 7, 8, 9], [0, 1, 2, 3, 4, 5, 6, 7, 8, 9, 10], [0, 1, 2, 3, 4, 5, 6, 7, 8, 9, 10, 11]] [[26, 27, 28, 29, 30, 31, 32, 33, 34, 35], [26, 27, 28, 29, 30, 31, 32, 33, 34, 35], [28, 29, 30, 31, 32, 33, 34, 35], [29, 30, 31, 32, 33, 34, 35], [26, 27, 28, 29, 30, 31, 32, 33, 34, 35], [26, 27, 28, 29, 30, 31, 32, 33, 34, 35], [26, 27, 28, 29, 30, 31, 32, 33, 34, 35], [26, 27, 28, 29, 30, 33, 34, 35], [26, 27, 28, 29, 34, 35], [26, 27, 28, 29, 35]] (by decide) ?_
      simp [w1]
      refine ⟨by omega, fun a ha => ?_⟩
      obtain rfl := Option.some.inj (g1.symm.trans ha)
      refine ⟨by omega, fun a ha2 => ?_⟩
      obtain rfl := Option.some.inj (g2.symm.trans ha2)
      refine S 60 _ _ ?_
      simp [w2, w3]
      exact ⟨by omega, Nxt.mk (j + 1) (by show d ≤ j + 1; omega) (by simp [← hset]) (by omega)⟩
    · have e : midW F G k j = midW G G k 0 := midW_end (by omega)
      rw [e]
      refine S 60 _ _ ?_
      simp
      exact Nxt.mk (i + 1) (by omega) (by simp [hrev, hGG, wrapS (i := i) (n := ds.length) hlt (by omega)]) (by omega)
  · have e : ds.take i = ds := List.take_of_length_le hge
    rw [e]
    refine S 60 _ _ ?_
    simp
end Go.Sm

namespace Go.Sm
open Go.RowKit

/-- A product of powers. -/
def prodL (p : Int) : List Pl → List Int → List Tm → List Tm
  | y :: ys, k :: r, a => prodL p ys r (timesT p y.ts k.toNat a)
  | _, _, a => a
theorem prodL_drop {p : Int} {ys : List Pl} {e : List Int} {i : Nat} {y : Pl} {k : Int} {a : List Tm} (hy : ys[i]? = some y) (he : e[i]? = some k) :
    prodL p (ys.drop i) (e.drop i) a = prodL p (ys.drop (i + 1)) (e.drop (i + 1)) (timesT p y.ts k.toNat a) := by
  rw [drop_cons hy, drop_cons he]; rfl
theorem degL_drop {ys : List Pl} {e : List Int} {i : Nat} {y : Pl} {k : Int} (hy : ys[i]? = some y) (he : e[i]? = some k) :
    degL ((ys.drop i).map dgP) (e.drop i) = k.toNat * dgP y + degL ((ys.drop (i + 1)).map dgP) (e.drop (i + 1)) := by
  rw [drop_cons hy, drop_cons he]; rfl
theorem prodL_facts {p d : Int} (hp : 2 ≤ p) : ∀ (ys : List Pl) (e : List Int) (a : List Tm) (n : Nat), (∀ y ∈ ys, AllE (DegLe d (dgP y)) y.ts) → Can p a → AllE (DegLe d n) a → n + degL (ys.map dgP) e ≤ 12 → Can p (prodL p ys e a) ∧ AllE (DegLe d 12) (prodL p ys e a)
  | [], _, a, n, _, ha, hn, h => ⟨ha, hn.mono fun e he => he.mono (by omega)⟩
  | y :: ys, [], a, n, _, ha, hn, h => ⟨ha, hn.mono fun e he => he.mono (by omega)⟩
  | y :: ys, k :: r, a, n, hy, ha, hn, h => by
    simp only [List.map_cons, degL] at h
    have hx : k.toNat * dg y.ts = k.toNat * dgP y := rfl
    obtain ⟨h1, h2⟩ := timesT_facts hp (hy y (by simp)) k.toNat ha hn (by omega)
    exact prodL_facts hp ys r _ _ (fun z hz => hy z (by simp [hz])) h1 h2 (by omega)

/-- The degree of what is still to be multiplied. -/
def remD (ys : List Pl) (e : List Int) (i : Nat) : Nat := degL ((ys.drop i).map dgP) (e.drop i)
theorem remD_step {ys : List Pl} {e : List Int} {i : Nat} {y : Pl} {k : Int} (hy : ys[i]? = some y) (he : e[i]? = some k) : remD ys e i = k.toNat * dgP y + remD ys e (i + 1) := degL_drop hy he

/-- Polynomials alike. -/
def GL (p d : Int) (ys : List Pl) : Prop := ∀ y ∈ ys, y.p = p ∧ y.d = d ∧ GoodP p d y.ts
structure PS where
  i : Nat
  a : List Tm

set_option maxHeartbeats 1000000 in
set_option maxRecDepth 4000 in
theorem product_ok (p d : Int) (ys : List Pl) (e : List Int) (hp : Pr p) (hd : 1 ≤ d ∧ d ≤ 3) (hg : GL p d ys) (hl : ys.length ≤ 8) (hne : ys ≠ []) (he : e.length = ys.length) (h0 : ∀ x ∈ e, 0 ≤ x ∧ x ≤ 12) (h12 : degL (ys.map dgP) e ≤ 12) : CallOK Go.Proofs.Tryz.prog 51 [.one (vPolys ys), .one (vInts e)] (po p d (prodL p ys e [⟨e0, 1⟩])) := by
  have hF := fnOk 36 [.cell 4 44]
  refine callOK hF 60 Go.Proofs.Tryz.func51 rfl rfl rfl (by decide) (by simp) rfl ?_
  intro w0 hw
  have S := @vc_sound w0 _ hF ⟨(po p d (prodL p ys e [⟨e0, 1⟩])), []⟩ Go.Proofs.Tryz.f51 rfl (by simp)
  have hpp := hp.pos
  obtain ⟨y0, hy0⟩ : ∃ y, ys[0]? = some y := ⟨ys[0]'(by have := List.length_pos_iff.2 hne; omega), List.getElem?_eq_getElem _⟩
  have hg0 := hg y0 (List.mem_of_getElem? hy0)
  have c1 := constant_ok p d 1 (by omega) (by omega)
  rw [mono_sum (by omega), mono_one (by omega)] at c1
  generalize hT : prodL p ys e [⟨e0, 1⟩] = T at S ⊢
  have hone : Can p [(⟨e0, 1⟩ : Tm)] := one_can hpp.1
  simp
  refine J.dr hF mixed 10 [[], [0], [0, 1], [0, 1, 2], [], [4], [4, 5], [4, 5, 6], [0, 1, 2, 3, 4, 5, 6, 7], [], [0, 1, 2, 3, 4, 5, 6, 7, 8, 9]] [[8, 9, 10, 11, 12, 13, 14, 15, 16, 5], [9, 10, 11, 12, 13, 14, 15, 16, 5], [10, 11, 12, 13, 14, 15, 16, 5], [11, 12, 13, 14, 15, 16, 5], [8, 9, 10, 11, 12, 13, 14, 15, 16, 5], [8, 9, 10, 11, 13, 14, 15, 16, 5], [8, 9, 10, 11, 14, 15, 16, 5], [8, 9, 10, 11, 15, 16, 5], [16, 5], [8, 9, 10, 11, 12, 13, 14, 15, 16, 5]] (by decide) ?_
  simp
  refine ⟨by have := List.length_pos_iff.2 hne; omega, fun x hx => ?_⟩
  obtain rfl : y0 = x := Option.some.inj (hy0.symm.trans hx)
  refine ⟨by have := List.length_pos_iff.2 hne; omega, fun x hx => ?_⟩
  obtain rfl : y0 = x := Option.some.inj (hy0.symm.trans hx)
  refine DrC.ok hF (by rfl) (by simp [hg0.1, hg0.2.1]) c1 (by simp) (by simp) ?_
  simp
  refine S 60 _ _ ?_
  simp
  refine J.loop hw (fun u : PS => ⟨[(0, .c (.d (vPolys ys))), (4, .c (.ref 64004 0)), (5, .c (.ref 64005 0)), (17, .c (.d (vInts e))), (18, .c (.d (i64 e.length))), (19, .c (.d (i64 u.i)))],
      [(64004, .var [.d (i64 0), .d (i64 0), .ob 64014]), (64014, .arr 70 4 []), (64005, .var [.d (i64 p), .d (i64 d), .ob 64015]), (64015, .arr 70 4 (terms u.a))]⟩)
    (fun u => u.i ≤ e.length ∧ Can p u.a ∧ (∃ n, AllE (DegLe d n) u.a ∧ n + remD ys e u.i ≤ 12) ∧ prodL p (ys.drop u.i) (e.drop u.i) u.a = T) (fun u => e.length - u.i) ⟨0, [⟨e0, 1⟩]⟩ ⟨by simp, hone, ⟨0, const_all d 1, by simpa [remD] using h12⟩, by simpa using hT⟩ (by simp) ?_
  rintro ⟨i, a⟩ ⟨hi, hca, ⟨n, hna, hn12⟩, hpr⟩
  simp only at hi hca hna hn12 hpr ⊢
  refine S 8 _ _ ?_
  simp
  refine ⟨fun hlt => ?_, fun hge => ?_⟩
  · obtain ⟨k, hk⟩ : ∃ k, e[i]? = some k := ⟨e[i], List.getElem?_eq_getElem hlt⟩
    obtain ⟨y, hy⟩ : ∃ y, ys[i]? = some y := ⟨ys[i]'(by omega), List.getElem?_eq_getElem (by omega)⟩
    have hgy := hg y (List.mem_of_getElem? hy)
    have hyc := goodP_can hgy.2.2
    have hyl := goodP_len hgy.2.2
    have hyd := dg_all hgy.2.2
    have hkb := h0 k (List.mem_of_getElem? hk)
    obtain ⟨K, rfl⟩ : ∃ K : Nat, k = K := ⟨k.toNat, by omega⟩
    rw [prodL_drop hy hk, Int.toNat_natCast] at hpr
    rw [remD_step hy hk, Int.toNat_natCast] at hn12
    have hlt2 : i < ys.length := by omega
    refine S 6 _ _ ?_
    simp
    refine ⟨hlt, fun x hx => ?_⟩
    obtain rfl : (K : Int) = x := Option.some.inj (hk.symm.trans hx)
    refine S 60 _ _ ?_
    simp
    refine J.loop hw (fun m : Nat => ⟨[(0, .c (.d (vPolys ys))), (4, .c (.ref 64004 0)), (5, .c (.ref 64005 0)), (17, .c (.d (vInts e))), (18, .c (.d (i64 e.length))), (19, .c (.d (i64 i))), (6, .c (.d (i64 i))), (24, .c (.d (i64 K))), (25, .c (.d (i64 m)))],
        [(64004, .var [.d (i64 0), .d (i64 0), .ob 64014]), (64014, .arr 70 4 []), (64005, .var [.d (i64 p), .d (i64 d), .ob 64015]), (64015, .arr 70 4 (terms (timesT p y.ts m a)))]⟩)
      (fun m => m ≤ K) (fun m => K - m) 0 (by simp) (by simp [timesT]) ?_
    intro m hm
    have hms : timesT p y.ts (m + 1) a = mulT p (timesT p y.ts m a) y.ts := timesT_succ p y.ts m a
    have hmK : m * dg y.ts ≤ K * dgP y := Nat.mul_le_mul_right _ hm
    obtain ⟨w1, w2⟩ := timesT_facts hpp.1 hyd m hca hna (by omega)
    have wl := can_len w1 w2 (by omega)
    refine S 8 _ _ ?_
    simp
    refine ⟨fun hlt3 => ?_, fun hge3 => ?_⟩
    · generalize timesT p y.ts m a = w at hms w1 w2 wl ⊢
      generalize hw' : timesT p y.ts (m + 1) a = w' at hms
      have c2 := mul_ok p d y.p y.d w y.ts (by omega) (by omega) w1 hyc (by omega) (by omega)
      rw [← hms] at c2
      refine S 2 _ _ ?_
      simp
      refine J.dr hF mixed 5 [[], [], [], [1, 2], [1, 2, 3], [0, 1, 2, 3, 4], [0, 1, 2, 3, 4, 5]] [[27, 28, 29, 30, 31], [27, 28, 29, 30, 31], [27, 28, 29, 30, 31], [27, 30, 31], [27, 31]] (by decide) ?_
      simp
      refine ⟨hlt2, fun x hx => ?_⟩
      obtain rfl : y = x := Option.some.inj (hy.symm.trans hx)
      refine S 60 _ _ ?_
      simp
      refine CallW.ok (by decide) (by simp) c2 (by simp) (S 60 _ _ ?_)
      simp
      exact Nxt.mk (m + 1) (by omega) (by simp [hw', wrapS (i := m) (n := K) hlt3 (by omega)]) (by omega)
    · have : m = K := by omega
      subst this
      have hx2 : m * dg y.ts = m * dgP y := rfl
      refine S 60 _ _ ?_
      simp
      refine Nxt.mk ⟨i + 1, timesT p y.ts m a⟩ ⟨hlt, w1, ⟨_, w2, by show n + m * dg y.ts + remD ys e (i + 1) ≤ 12; omega⟩, hpr⟩ (by simp [wrapS (i := i) (n := e.length) hlt (by omega)]) (by show e.length - (i + 1) < e.length - i; omega)
  · have hi2 : i = e.length := by omega
    have e1 : prodL p (ys.drop i) (e.drop i) a = a := by
      rw [List.drop_eq_nil_of_le (show e.length ≤ i by omega)]
      cases ys.drop i <;> rfl
    rw [e1] at hpr
    subst hpr
    refine S 60 _ _ ?_
    simp

set_option maxHeartbeats 1000000 in
set_option maxRecDepth 4000 in
theorem l05Product_ok (p d : Int) (ys : List Pl) (e : List Int) (hp : Pr p) (hd : 1 ≤ d ∧ d ≤ 3) (hg : GL p d ys) (hl : ys.length ≤ 8) (hne : ys ≠ []) (he : e.length = ys.length) (h0 : ∀ x ∈ e, 0 ≤ x ∧ x ≤ 12) (h12 : degL (ys.map dgP) e ≤ 12) : CallOK Go.Proofs.Tryz.prog 65 [.one (vPolys ys), .one (vInts e)] (po p d (prodL p ys e [⟨e0, 1⟩])) := by
  have hF := fnOk 42 [.cell 4 44]
  refine callOK hF 60 Go.Proofs.Tryz.func65 rfl rfl rfl (by decide) (by simp) rfl ?_
  intro w0 hw
  have S := @vc_sound w0 _ hF ⟨(po p d (prodL p ys e [⟨e0, 1⟩])), []⟩ Go.Proofs.Tryz.f65 rfl (by simp)
  have hpp := hp.pos
  obtain ⟨y0, hy0⟩ : ∃ y, ys[0]? = some y := ⟨ys[0]'(by have := List.length_pos_iff.2 hne; omega), List.getElem?_eq_getElem _⟩
  have hg0 := hg y0 (List.mem_of_getElem? hy0)
  have c1 := l01One_ok p d ⟨0, 0, 0⟩ 1 (by omega) (by omega) (by omega) (by omega)
  rw [putT_one (by omega)] at c1
  generalize hT : prodL p ys e [⟨e0, 1⟩] = T at S ⊢
  have hone : Can p [(⟨e0, 1⟩ : Tm)] := one_can hpp.1
  simp
  refine J.dr hF mixed 11 [[], [0], [0, 1], [0, 1, 2], [], [4], [4, 5], [4, 5, 6], [], [0, 1, 2, 3, 4, 5, 6, 7, 8], [], [0, 1, 2, 3, 4, 5, 6, 7, 8, 9, 10]] [[8, 9, 10, 11, 12, 13, 14, 15, 16, 17, 5], [9, 10, 11, 12, 13, 14, 15, 16, 17, 5], [10, 11, 12, 13, 14, 15, 16, 17, 5], [11, 12, 13, 14, 15, 16, 17, 5], [8, 9, 10, 11, 12, 13, 14, 15, 16, 17, 5], [8, 9, 10, 11, 13, 14, 15, 16, 17, 5], [8, 9, 10, 11, 14, 15, 16, 17, 5], [8, 9, 10, 11, 15, 16, 17, 5], [8, 9, 10, 11, 12, 13, 14, 15, 16, 17, 5], [17, 5], [8, 9, 10, 11, 12, 13, 14, 15, 16, 17, 5]] (by decide) ?_
  simp
  refine ⟨by have := List.length_pos_iff.2 hne; omega, fun x hx => ?_⟩
  obtain rfl : y0 = x := Option.some.inj (hy0.symm.trans hx)
  refine ⟨by have := List.length_pos_iff.2 hne; omega, fun x hx => ?_⟩
  obtain rfl : y0 = x := Option.some.inj (hy0.symm.trans hx)
  refine DrC.ok hF (by rfl) (by simp [hg0.1, hg0.2.1]) c1 (by simp) (by simp) ?_
  simp
  refine S 60 _ _ ?_
  simp
  refine J.loop hw (fun u : PS => ⟨[(0, .c (.d (vPolys ys))), (1, .c (.d (vInts e))), (4, .c (.ref 64004 0)), (5, .c (.ref 64005 0)), (6, .c (.d (i64 u.i)))],
      [(64004, .var [.d (i64 0), .d (i64 0), .ob 64014]), (64014, .arr 70 4 []), (64005, .var [.d (i64 p), .d (i64 d), .ob 64015]), (64015, .arr 70 4 (terms u.a))]⟩)
    (fun u => u.i ≤ e.length ∧ Can p u.a ∧ (∃ n, AllE (DegLe d n) u.a ∧ n + remD ys e u.i ≤ 12) ∧ prodL p (ys.drop u.i) (e.drop u.i) u.a = T) (fun u => e.length - u.i) ⟨0, [⟨e0, 1⟩]⟩ ⟨by simp, hone, ⟨0, const_all d 1, by simpa [remD] using h12⟩, by simpa using hT⟩ (by simp) ?_
  rintro ⟨i, a⟩ ⟨hi, hca, ⟨n, hna, hn12⟩, hpr⟩
  simp only at hi hca hna hn12 hpr ⊢
  refine S 12 _ _ ?_
  simp
  refine ⟨fun hlt2 => ?_, fun hge => ?_⟩
  · have hlt : i < e.length := by omega
    obtain ⟨k, hk⟩ : ∃ k, e[i]? = some k := ⟨e[i], List.getElem?_eq_getElem hlt⟩
    obtain ⟨y, hy⟩ : ∃ y, ys[i]? = some y := ⟨ys[i]'(by omega), List.getElem?_eq_getElem (by omega)⟩
    have hgy := hg y (List.mem_of_getElem? hy)
    have hyc := goodP_can hgy.2.2
    have hyl := goodP_len hgy.2.2
    have hyd := dg_all hgy.2.2
    have hy12 := dg_le hgy.2.2
    have hkb := h0 k (List.mem_of_getElem? hk)
    obtain ⟨K, rfl⟩ : ∃ K : Nat, k = K := ⟨k.toNat, by omega⟩
    rw [prodL_drop hy hk, Int.toNat_natCast] at hpr
    rw [remD_step hy hk, Int.toNat_natCast] at hn12
    refine S 60 _ _ ?_
    simp
    refine ⟨hlt, fun x hx => ?_⟩
    obtain rfl : (K : Int) = x := Option.some.inj (hk.symm.trans hx)
    refine J.loop hw (fun m : Nat => ⟨[(0, .c (.d (vPolys ys))), (1, .c (.d (vInts e))), (4, .c (.ref 64004 0)), (5, .c (.ref 64005 0)), (6, .c (.d (i64 i))), (7, .c (.d (i64 ((K : Int) - m))))],
        [(64004, .var [.d (i64 0), .d (i64 0), .ob 64014]), (64014, .arr 70 4 []), (64005, .var [.d (i64 p), .d (i64 d), .ob 64015]), (64015, .arr 70 4 (terms (timesT p y.ts m a)))]⟩)
      (fun m => m ≤ K) (fun m => K - m) 0 (by simp) (by simp [timesT]) ?_
    intro m hm
    have hms : timesT p y.ts (m + 1) a = mulT p (timesT p y.ts m a) y.ts := timesT_succ p y.ts m a
    have hmK : m * dg y.ts ≤ K * dgP y := Nat.mul_le_mul_right _ hm
    obtain ⟨w1, w2⟩ := timesT_facts hpp.1 hyd m hca hna (by omega)
    have wl := can_len w1 w2 (by omega)
    have wdg := degT_le w2
    have ydg := degT_le hyd
    refine S 8 _ _ ?_
    simp
    refine ⟨fun hlt3 => ?_, fun hge3 => ?_⟩
    · have hlt3 : m < K := by omega
      have hmK2 : m * dg y.ts + dg y.ts ≤ K * dgP y := by rw [← Nat.succ_mul]; exact Nat.mul_le_mul_right _ hlt3
      generalize timesT p y.ts m a = w at hms w1 w2 wl wdg ⊢
      generalize hw' : timesT p y.ts (m + 1) a = w' at hms
      have c2 := l01TimesG_ok p d y.p y.d w y.ts (by omega) (by omega) w1 hyc (by omega) (by omega) (by omega) (by omega) (by omega)
      rw [← hms] at c2
      have hwm : IntKind.i64.wrap ((K : Int) - m - 1) = (K : Int) - ((m : Int) + 1) := by rw [show (K : Int) - m - 1 = (K : Int) - ((m : Int) + 1) by omega]; exact wrap64 (by omega) (by omega)
      refine S 2 _ _ ?_
      simp
      refine J.dr3 hF mixed 10 [[], [], [], [1, 2], [1, 2, 3], [0, 1, 2, 3, 4], [0, 1, 2, 3, 4, 5], [0, 1, 2, 3, 4, 5, 6], [0, 1, 2, 3, 4, 5, 6], [0, 1, 2, 3, 4, 5, 6, 7]] [[33, 34, 35, 36, 37, 38, 32, 39, 40], [33, 34, 35, 36, 37, 38, 32, 39, 40], [33, 34, 35, 36, 37, 38, 32, 39, 40], [33, 36, 37, 38, 32, 39, 40], [33, 37, 38, 32, 39, 40], [38, 32, 39, 40], [32, 39, 40], [39, 40], [39, 40], [40]] [[], [], [], [], [], [], [], [], [], [64005]] [[], [], [], [], [], [], [], [], [64005], []] [] [] (by decide) ?_
      simp
      refine ⟨hlt2, fun x hx => ?_⟩
      obtain rfl : y = x := Option.some.inj (hy.symm.trans hx)
      refine DrC3.ok hF (by rfl) (by simp) c2 (by simp) (by simp) ?_
      simp
      refine S 60 _ _ ?_
      simp [hwm]
      trace_state
      exact Nxt.mk (m + 1) (by omega) (by simp [hw']) (by omega)
    · have : m = K := by omega
      subst this
      have hx2 : m * dg y.ts = m * dgP y := rfl
      refine S 60 _ _ ?_
      simp
      refine Nxt.mk ⟨i + 1, timesT p y.ts m a⟩ ⟨hlt, w1, ⟨_, w2, by show n + m * dg y.ts + remD ys e (i + 1) ≤ 12; omega⟩, hpr⟩ (by simp [wrapS (i := i) (n := e.length) hlt (by omega)]) (by show e.length - (i + 1) < e.length - i; omega)
  · have e1 : prodL p (ys.drop i) (e.drop i) a = a := by
      rw [List.drop_eq_nil_of_le (show e.length ≤ i by omega)]
      cases ys.drop i <;> rfl
    rw [e1] at hpr
    subst hpr
    refine S 60 _ _ ?_
    simp

end Go.Sm
