/- Towards the rows of this seat: what the functions do, as contracts over plain data. -/
import Derived.Test.YtdfihhfnnogpeaaPk21
import Derived.Test.YtdfihhfnnogpeaaPk17
import Derived.Test.YtdfihhfnnogpeaaPk16
import Derived.Test.YtdfihhfnnogpeaaPk3
namespace Go.Sm
open Go.RowKit

theorem by8_ofNat (n : Nat) : by8 (n : Int) = UInt8.ofNat n := by
  unfold by8
  apply UInt8.toNat.inj
  rw [UInt8.toNat_ofNat', UInt8.toNat_ofNat']
  omega

theorem isZero_ok (p d : Int) (ts : List Tm) (hl : ts.length ≤ 1000000) : CallOK Go.Proofs.Try.prog 41 [pv p d ts] (.one (bo (decide (ts = [])))) := by
  have hF := fnOk 7 [.tmp 2]
  refine callOK hF 60 Go.Proofs.Try.func41 rfl rfl rfl (by decide) (by simp) rfl ?_
  intro w0 hw
  have S := @vc_sound w0 _ hF ⟨(.one (bo (decide (ts = [])))), []⟩ Go.Proofs.Try.f41 rfl (by simp)
  cases ts with
  | nil => simp
  | cons t ts =>
    simp
    omega

/-- The first term of the Vandermonde polynomial. -/
theorem vanT_first {p d : Int} (hp : Pr p) (hd : 1 ≤ d ∧ d ≤ 3) : ∃ m ts, vanT p d = m :: ts ∧ maxT m ts = ⟨dE d, 1⟩ := by
  have : d = 1 ∨ d = 2 ∨ d = 3 := by omega
  rcases this with rfl | rfl | rfl <;> rcases hp with rfl | rfl | rfl | rfl | rfl | rfl <;> exact ⟨_, _, rfl, by decide⟩

/-- The first term of the greatest degree. -/
theorem degT_of {ts : List Tm} (ha : Asc ts) {t : Tm} (ht : t ∈ ts) (hm : ∀ u ∈ ts, wG u.e ≤ wG t.e) : degT ts = t.e.deg := by
  have h1 := degT_max ha t ht
  have h2 : degT ts ≤ t.e.deg := by
    unfold degT
    cases hl : ts.getLast? with
    | none => exact Int.le_trans (show (-1 : Int) ≤ 0 by decide) (deg_lt t.e).1
    | some u =>
      have h3 := hm u (List.mem_of_getLast? hl)
      have := u8_lt u.e.a; have := u8_lt u.e.b; have := u8_lt t.e.a; have := u8_lt t.e.b
      unfold wG at h3
      show u.e.deg ≤ t.e.deg
      unfold Ex.deg; omega
  omega
theorem deg_below {ts : List Tm} (ha : Asc ts) {i j : Nat} {t u : Tm} (ht : ts[j]? = some t) (hu : ts[i]? = some u) (hij : i < j) (hm : ∀ u ∈ ts, wG u.e ≤ wG t.e) : u.e.deg ≠ t.e.deg := by
  intro he
  have h1 := asc_get ha hu ht hij
  have h2 := hm u (List.mem_of_getElem? hu)
  have := u8_lt u.e.a; have := u8_lt u.e.b; have := u8_lt t.e.a; have := u8_lt t.e.b
  unfold cmpE at h1
  rw [if_neg (by omega)] at h1
  unfold Ex.deg at he
  unfold wG at h2
  by_cases hab : u.e.a = t.e.a
  · rw [if_neg (by simpa using hab)] at h1
    rw [hab] at h2 he
    omega
  · rw [if_pos hab] at h1
    omega

theorem l08First_ok (p d : Int) (ts : List Tm) (t : Tm) (ha : Asc ts) (ht : t ∈ ts) (hm : ∀ u ∈ ts, wG u.e ≤ wG t.e) (hl : ts.length ≤ 1000000) : CallOK Go.Proofs.Try.prog 35 [pv p d ts] (.agg t.ds) := by
  have hF := fnOk 23 [.cell 2 57]
  refine callOK hF 60 Go.Proofs.Try.func35 rfl rfl rfl (by decide) (by simp) rfl ?_
  intro w0 hw
  have S := @vc_sound w0 _ hF ⟨(.agg t.ds), []⟩ Go.Proofs.Try.f35 rfl (by simp)
  have c1 := l01Degree_ok p d ts (by omega)
  have hdt := degT_of ha ht hm
  obtain ⟨j, hj, htj⟩ := List.getElem_of_mem ht
  have htj : ts[j]? = some t := by rw [List.getElem?_eq_getElem hj, htj]
  simp
  refine CallW.ok (by decide) (by simp) c1 (by simp) (S 60 _ _ ?_)
  simp
  refine J.loop hw (fun i : Nat => ⟨[(1, .c (.ref 64001 0)), (2, .c (.ref 64002 0)), (3, .c (.d (i64 (degT ts)))), (4, .c (.d (i64 i)))],
      [(64001, .var [.d (i64 p), .d (i64 d), .d (vTerms ts)]), (64002, .var [.d (u8 0), .d (u8 0), .d (u8 0), .d (i64 0)])]⟩)
    (fun i => i ≤ j) (fun i => j - i) 0 (by simp) (by simp) ?_
  intro i hi
  refine S 60 _ _ ?_
  simp
  refine ⟨by omega, fun u hu => ?_⟩
  have c2 := l01Sum_ok u.e
  by_cases hij : i = j
  · subst hij
    obtain rfl : t = u := Option.some.inj (htj.symm.trans hu)
    rw [← hdt] at c2
    refine CallW.ok (by decide) (by simp) c2 (by simp) (S 60 _ _ ?_)
    simp
    refine ⟨hj, fun a ha => ?_⟩
    obtain rfl : t = a := Option.some.inj (htj.symm.trans ha)
    exact ⟨rfl, rfl, rfl, rfl⟩
  · have hne := deg_below ha htj hu (by omega) hm
    rw [← hdt] at hne
    refine CallW.ok (by decide) (by simp) c2 (by simp) (S 60 _ _ ?_)
    simp [hne]
    exact Nxt.mk (i + 1) (by omega) (by simp [wrapS (i := i) (n := ts.length) (by omega) (by omega)]) (by omega)

/-- What is left to divide, and what is told. -/
structure QS where
  q : List Tm
  o : List Tm

set_option maxHeartbeats 1000000 in
set_option maxRecDepth 4000 in
theorem quotientOf_ok (p d : Int) (q0 : List Tm) (hp : Pr p) (hd : 1 ≤ d ∧ d ≤ 3) (hc : Can p q0) (hn : AllE (DegLe d (12 - vdeg d)) q0) : CallOK Go.Proofs.Try.prog 29 [pv p d (byV p d q0)] (po p d q0) := by
  have hF := fnOk 69 [.cell 2 28]
  refine callOK hF 60 Go.Proofs.Try.func29 rfl rfl rfl (by decide) (by simp) rfl ?_
  intro w0 hw
  have S := @vc_sound w0 _ hF ⟨(po p d q0), []⟩ Go.Proofs.Try.f29 rfl (by simp)
  have hpp := hp.pos
  have c1 := vandermonde_ok p d hp hd
  obtain ⟨vm, vs, hv1, hv2⟩ := vanT_first hp hd
  obtain ⟨v1, v2⟩ := vanT_ok (show 0 < p by omega) d
  have c2 := first_ok p d vm vs (by have := congrArg List.length hv1; simp at this; omega)
  rw [← hv1, hv2] at c2
  have c3 := zeroPoly_ok p d
  have c4 := inverse_ok 1 p hp (by omega) (by omega)
  rw [show invN 1 p = 1 by rcases hp with rfl | rfl | rfl | rfl | rfl | rfl <;> decide] at c4
  simp
  refine CallW.ok (by decide) (by simp) c1 (by simp) (S 60 _ _ ?_)
  simp
  refine CallW.ok (by decide) (by simp) c2 (by simp) (S 60 _ _ ?_)
  simp
  refine CallW.ok (by decide) (by simp) c3 (by simp) (S 60 _ _ ?_)
  simp
  refine J.locC 64 2 (by rfl) (by rfl) ?_
  refine J.loop hw (fun r : QS => ⟨[(1, .c (.ref 64001 0)), (2, .c (.ref 64002 0)), (3, .c (.ref 64003 0)), (4, .c (.ref 64004 0)), (5, .c (.ref 64005 0))],
      [(64001, .var [.d (i64 p), .d (i64 d), .d (.vw false 4 (terms (byV p d r.q)))]), (64002, .var [.d (i64 0), .d (i64 0), .ob 64012]), (64012, .arr 57 4 []),
        (64003, .var [.d (i64 p), .d (i64 d), .ob 64013]), (64013, .arr 57 4 (terms (vanT p d))), (64004, .var [.d (u8 (dE d).a), .d (u8 (dE d).b), .d (u8 (dE d).c), .d (i64 1)]),
        (64005, .var [.d (i64 p), .d (i64 d), .ob 64015]), (64015, .arr 57 4 (terms r.o))]⟩)
    (fun r => QInv p d q0 r.q r.o) (fun r => r.q.length) ⟨q0, []⟩ (QInv.start hc hn) (by simp) ?_
  rintro ⟨q, o⟩ hI
  simp only at hI ⊢
  have hxl := hI.xlen hp hd
  have hol := hI.len.2
  have c5 := isZero_ok p d (byV p d q) (by omega)
  refine S 60 _ _ ?_
  simp
  by_cases hx : byV p d q = []
  · have hq := hI.nil hp hd hx
    subst hq
    have ho := hI.done (by omega) hc
    subst ho
    rw [decide_eq_true hx] at c5
    refine CallW.ok (by decide) (by simp) c5 (by simp) (S 60 _ _ ?_)
    simp
  · rw [decide_eq_false hx] at c5
    obtain ⟨m, ts, hmt⟩ := List.exists_cons_of_ne_nil hx
    have c6 := first_ok p d m ts (by have := congrArg List.length hmt; simp at this; omega)
    rw [← hmt] at c6
    have hmem := maxT_mem ts m
    have hmax := maxT_max ts m
    rw [← hmt] at hmem hmax
    obtain ⟨e, q', h1, h2, h3, h4, h5, h6, h7⟩ := hI.stepI wL_ok hp hd hmem hmax
    generalize maxT m ts = t at *
    refine CallW.ok (by decide) (by simp) c5 (by simp) (S 60 _ _ ?_)
    simp
    refine CallW.ok (by decide) (by simp) c6 (by simp) (S 60 _ _ ?_)
    simp
    have hda : e.deg + (dE d).deg ≤ 255 := by have := h2.2.2; have := (vE_deg hd _ (dE_mem hd)).2.2; have := vdeg_le d; omega
    have hsub : ∀ {x y z : UInt8}, x = y + z → y.toNat + z.toNat < 256 → IntKind.u8.wrap ((x.toNat : Int) - y.toNat) = z.toNat := fun {x y z} hx hy => by
      rw [hx, UInt8.toNat_add, Nat.mod_eq_of_lt hy, show ((y.toNat + z.toNat : Nat) : Int) - y.toNat = z.toNat by omega]
      rw [wrapu8, by8_ofNat]; simp
    rw [addE_eq] at h1
    unfold Ex.deg at hda
    have wa : IntKind.u8.wrap ((t.e.a.toNat : Int) - (dE d).a.toNat) = e.a.toNat := hsub (by rw [h1]) (by omega)
    have wb : IntKind.u8.wrap ((t.e.b.toNat : Int) - (dE d).b.toNat) = e.b.toNat := hsub (by rw [h1]) (by omega)
    have wc : IntKind.u8.wrap ((t.e.c.toNat : Int) - (dE d).c.toNat) = e.c.toNat := hsub (by rw [h1]) (by omega)
    generalize dE d = de at *
    refine J.rounds 5 (LpW.step (S 60 _ _ ?_))
    simp
    refine J.dr hF mixed 10 [[], [], [], [1, 2], [1, 2, 3], [], [], [5, 6], [5, 6, 7], [1, 2, 3, 4, 5, 6, 7, 8], [0, 1, 2, 3, 4, 5, 6, 7, 8, 9], [0, 1, 2, 3, 4, 5, 6, 7, 8, 9, 10]] [[31, 32, 33, 34, 35, 36, 37, 38, 39, 40], [31, 32, 33, 34, 35, 36, 37, 38, 39, 40], [31, 32, 33, 34, 35, 36, 37, 38, 39, 40], [31, 34, 35, 36, 37, 38, 39, 40], [31, 35, 36, 37, 38, 39, 40], [31, 32, 33, 34, 35, 36, 37, 38, 39, 40], [31, 32, 33, 34, 35, 36, 37, 38, 39, 40], [31, 32, 33, 34, 35, 38, 39, 40], [31, 32, 33, 34, 35, 39, 40], [31, 40]] (by decide) ?_
    simp [wa]
    refine S 60 _ _ ?_
    simp
    refine LpW.inv (LpW.step (S 60 _ _ ?_))
    simp
    refine J.dr hF mixed 10 [[], [], [], [1, 2], [1, 2, 3], [], [], [5, 6], [5, 6, 7], [1, 2, 3, 4, 5, 6, 7, 8], [0, 1, 2, 3, 4, 5, 6, 7, 8, 9], [0, 1, 2, 3, 4, 5, 6, 7, 8, 9, 10]] [[31, 32, 33, 34, 35, 36, 37, 38, 39, 40], [31, 32, 33, 34, 35, 36, 37, 38, 39, 40], [31, 32, 33, 34, 35, 36, 37, 38, 39, 40], [31, 34, 35, 36, 37, 38, 39, 40], [31, 35, 36, 37, 38, 39, 40], [31, 32, 33, 34, 35, 36, 37, 38, 39, 40], [31, 32, 33, 34, 35, 36, 37, 38, 39, 40], [31, 32, 33, 34, 35, 38, 39, 40], [31, 32, 33, 34, 35, 39, 40], [31, 40]] (by decide) ?_
    simp [wb]
    refine S 60 _ _ ?_
    simp
    refine LpW.inv (LpW.step (S 60 _ _ ?_))
    simp
    refine J.dr hF mixed 10 [[], [], [], [1, 2], [1, 2, 3], [], [], [5, 6], [5, 6, 7], [1, 2, 3, 4, 5, 6, 7, 8], [0, 1, 2, 3, 4, 5, 6, 7, 8, 9], [0, 1, 2, 3, 4, 5, 6, 7, 8, 9, 10]] [[31, 32, 33, 34, 35, 36, 37, 38, 39, 40], [31, 32, 33, 34, 35, 36, 37, 38, 39, 40], [31, 32, 33, 34, 35, 36, 37, 38, 39, 40], [31, 34, 35, 36, 37, 38, 39, 40], [31, 35, 36, 37, 38, 39, 40], [31, 32, 33, 34, 35, 36, 37, 38, 39, 40], [31, 32, 33, 34, 35, 36, 37, 38, 39, 40], [31, 32, 33, 34, 35, 38, 39, 40], [31, 32, 33, 34, 35, 39, 40], [31, 40]] (by decide) ?_
    simp [wc]
    refine S 60 _ _ ?_
    simp
    refine LpW.inv (LpW.step (S 60 _ _ ?_))
    simp
    have wt : IntKind.i64.wrap t.v = t.v := wrap64 (by omega) (by omega)
    have hml := mono_len p e t.v
    have hmc := mono_can (show 0 < p by omega) e t.v
    have c7 := monomial_ok p d e t.v (by omega) (by omega)
    rw [mono_sum (by omega)] at c7
    have c8 := add_ok p d p d 1 o (mono p e t.v) (by omega) (by omega) hI.ocan hmc (by omega) (by omega) (by omega) (by omega)
    have c9 := mul_ok p d p d (mono p e t.v) (vanT p d) (by omega) (by omega) hmc v1 (by omega) (by omega)
    have hmt := (mul_tell (show 0 < p by omega) hmc v1).2.2.2.1
    have hmtl : (mulT p (mono p e t.v) (vanT p d)).length ≤ 8 := Nat.le_trans hmt (Nat.le_trans (Nat.mul_le_mul hml v2) (by omega))
    have c10 := add_ok p d p d (p - 1) (byV p d q) (mulT p (mono p e t.v) (vanT p d)) (by omega) (by omega) (byV_can (by omega) q) (mulT_can (by omega) _ _) (by omega) (by omega) (by omega) (by omega)
    rw [h6] at c10
    generalize plusT p o (mono p e t.v) 1 = o' at c8 h7
    have wp : IntKind.i64.wrap (p - 1) = p - 1 := wrap64 (by omega) (by omega)
    refine J.clean hw ⟨[(1, .c (.ref 64001 0)), (2, .c (.ref 64002 0)), (3, .c (.ref 64003 0)), (4, .c (.ref 64004 0)), (5, .c (.ref 64005 0)), (6, .c (.ref 64006 0)), (7, .c (.ref 64007 0))],
      [(64001, .var [.d (i64 p), .d (i64 d), .d (.vw false 4 (terms (byV p d q)))]), (64002, .var [.d (i64 0), .d (i64 0), .ob 64012]), (64012, .arr 57 4 []),
        (64003, .var [.d (i64 p), .d (i64 d), .ob 64013]), (64013, .arr 57 4 (terms (vanT p d))), (64004, .var [.d (u8 de.a), .d (u8 de.b), .d (u8 de.c), .d (i64 1)]),
        (64005, .var [.d (i64 p), .d (i64 d), .ob 64015]), (64015, .arr 57 4 (terms o)), (64006, .var [.d (u8 t.e.a), .d (u8 t.e.b), .d (u8 t.e.c), .d (i64 t.v)]), (64007, .var [.d (u8 e.a), .d (u8 e.b), .d (u8 e.c)])]⟩ (by simp) ?_
    refine J.dr hF mixed 15 [[], [0], [], [2], [], [], [5], [], [7], [], [9], [7, 8, 9, 10], [5, 6, 7, 8, 9, 10, 11], [0, 1, 2, 3, 4, 5, 6, 7, 8, 9, 10, 11, 12], [], [0, 1, 2, 3, 4, 5, 6, 7, 8, 9, 10, 11, 12, 13, 14]] [[43, 44, 45, 46, 47, 48, 49, 50, 51, 52, 53, 54, 55, 56, 9], [44, 45, 46, 47, 48, 49, 50, 51, 52, 53, 54, 55, 56, 9], [43, 44, 45, 46, 47, 48, 49, 50, 51, 52, 53, 54, 55, 56, 9], [43, 44, 46, 47, 48, 49, 50, 51, 52, 53, 54, 55, 56, 9], [43, 44, 45, 46, 47, 48, 49, 50, 51, 52, 53, 54, 55, 56, 9], [43, 44, 45, 46, 47, 48, 49, 50, 51, 52, 53, 54, 55, 56, 9], [43, 44, 45, 46, 47, 49, 50, 51, 52, 53, 54, 55, 56, 9], [43, 44, 45, 46, 47, 48, 49, 50, 51, 52, 53, 54, 55, 56, 9], [43, 44, 45, 46, 47, 48, 49, 51, 52, 53, 54, 55, 56, 9], [43, 44, 45, 46, 47, 48, 49, 50, 51, 52, 53, 54, 55, 56, 9], [43, 44, 45, 46, 47, 48, 49, 50, 51, 53, 54, 55, 56, 9], [43, 44, 45, 46, 47, 48, 49, 54, 55, 56, 9], [43, 44, 45, 46, 47, 55, 56, 9], [56, 9], [43, 44, 45, 46, 47, 48, 49, 50, 51, 52, 53, 54, 55, 56, 9]] (by decide) ?_
    simp
    refine DrC.ok hF (by rfl) (by simp) c4 (by simp) (by simp) ?_
    simp [wt]
    refine DrC.ok hF (by rfl) (by simp) c7 (by simp) (by simp) ?_
    simp
    refine S 60 _ _ ?_
    simp
    refine CallW.ok (by decide) (by simp) c8 (by simp) (S 60 _ _ ?_)
    simp
    refine J.dr hF mixed 7 [[], [], [], [1, 2], [], [4], [4, 5], [0, 1, 2, 3, 4, 5, 6], [0, 1, 2, 3, 4, 5, 6, 7]] [[60, 61, 62, 63, 64, 65, 66], [60, 61, 62, 63, 64, 65, 66], [60, 61, 62, 63, 64, 65, 66], [60, 63, 64, 65, 66], [60, 61, 62, 63, 64, 65, 66], [60, 61, 62, 63, 65, 66], [60, 61, 62, 63, 66]] (by decide) ?_
    simp
    refine DrC.ok hF (by rfl) (by simp) c9 (by simp) (by simp) ?_
    simp [wp]
    refine S 60 _ _ ?_
    simp
    refine CallW.ok (by decide) (by simp) c10 (by simp) (S 1 _ _ ?_)
    simp
    refine J.freezeC 64001 2 4290 (by rfl) (by rfl) (by rfl) ?_
    refine S 60 _ _ ?_
    simp
    exact Nxt.mk ⟨q', o'⟩ h7 (by simp) h3
set_option maxHeartbeats 1000000 in
set_option maxRecDepth 4000 in
theorem l08Quotient_ok (p d : Int) (q0 : List Tm) (hp : Pr p) (hd : 1 ≤ d ∧ d ≤ 3) (hc : Can p q0) (hn : AllE (DegLe d (12 - vdeg d)) q0) : CallOK Go.Proofs.Try.prog 25 [pv p d (byV p d q0)] (po p d q0) := by
  have hF := fnOk 68 [.cell 2 28]
  refine callOK hF 60 Go.Proofs.Try.func25 rfl rfl rfl (by decide) (by simp) rfl ?_
  intro w0 hw
  have S := @vc_sound w0 _ hF ⟨(po p d q0), []⟩ Go.Proofs.Try.f25 rfl (by simp)
  have hpp := hp.pos
  have c1 := l01Empty_ok p d
  have c2 := l08Vandermonde_ok p d hp hd
  obtain ⟨v1, v2⟩ := vanT_ok (show 0 < p by omega) d
  simp
  refine J.dr hF mixed 5 [[], [0], [], [2], [0, 1], [0, 1, 2, 3, 4]] [[12, 13, 14, 15, 3], [13, 14, 15, 3], [12, 13, 14, 15, 3], [12, 13, 15, 3], [14, 15, 3]] (by decide) ?_
  simp
  refine S 60 _ _ ?_
  simp
  refine CallW.ok (by decide) (by simp) c1 (by simp) (S 60 _ _ ?_)
  simp
  refine CallW.ok (by decide) (by simp) c2 (by simp) (S 60 _ _ ?_)
  simp
  refine J.locC 64 2 (by rfl) (by rfl) ?_
  refine J.loop hw (fun r : QS => ⟨[(1, .c (.ref 64001 0)), (2, .c (.ref 64002 0)), (3, .c (.d (i64 p))), (4, .c (.d (i64 d))), (5, .c (.ref 64005 0)), (6, .c (.ref 64006 0))],
      [(64001, .var [.d (i64 p), .d (i64 d), .d (.vw false 4 (terms (byV p d r.q)))]), (64002, .var [.d (i64 0), .d (i64 0), .ob 64012]), (64012, .arr 57 4 []),
        (64006, .var [.d (i64 p), .d (i64 d), .ob 64016]), (64016, .arr 57 4 (terms (vanT p d))),
        (64005, .var [.d (i64 p), .d (i64 d), .ob 64015]), (64015, .arr 57 4 (terms r.o))]⟩)
    (fun r => QInv p d q0 r.q r.o) (fun r => r.q.length) ⟨q0, []⟩ (QInv.start hc hn) (by simp) ?_
  rintro ⟨q, o⟩ hI
  simp only at hI ⊢
  have hxl := hI.xlen hp hd
  have hol := hI.len.2
  by_cases hx : byV p d q = []
  · have hq := hI.nil hp hd hx
    subst hq
    have ho := hI.done (by omega) hc
    subst ho
    rw [hx]
    refine S 60 _ _ ?_
    simp
  · have hl0 : 0 < (byV p d q).length := List.length_pos_iff.2 hx
    obtain ⟨t, hmem, hmax⟩ := max_of wG hx
    have c6 := l08First_ok p d (byV p d q) t (byV_can (by omega) q).1 hmem hmax (by omega)
    obtain ⟨e, q', h1, h2, h3, h4, h5, h6, h7⟩ := hI.stepS wG_ok hp hd hmem hmax
    have hda : e.deg + (dE d).deg ≤ 255 := by have := h2.2.2; have := (vE_deg hd _ (dE_mem hd)).2.2; have := vdeg_le d; omega
    have bu : ∀ x : UInt8, by8 (x.toNat : Int) = x := fun x => by rw [by8_ofNat]; simp
    have hsub : ∀ {x z : UInt8} {y : Nat}, x = UInt8.ofNat y + z → y + z.toNat < 256 → by8 ((x.toNat : Int) - (y : Int)) = z := fun {x z y} hx hy => by
      have h0 : (UInt8.ofNat y).toNat = y := by rw [UInt8.toNat_ofNat']; omega
      rw [hx, UInt8.toNat_add, h0, Nat.mod_eq_of_lt hy, show ((y + z.toNat : Nat) : Int) - y = z.toNat by omega]
      exact bu z
    have b0 : (by8 0).toNat = 0 := rfl
    have b1 : (by8 1).toNat = 1 := rfl
    have b2 : (by8 2).toNat = 2 := rfl
    have hml := mono_len p e 1
    have hmc := mono_can (show 0 < p by omega) e 1
    have hbo := coef_bound (show 0 < p by omega) hI.ocan e
    have c7 := l01Put_ok p d o e t.v (by omega) (by omega) (by omega) (by omega) (by omega)
    have c8 := l01One_ok p d e 1 (by omega) (by omega) (by omega) (by omega)
    rw [show putT p [] e 1 = mono p e 1 from rfl] at c8
    have hmd : degT (mono p e 1) = e.deg := by rw [mono_one (by omega)]; rfl
    have hvd : degT (vanT p d) ≤ vdeg d := degT_le ((van_all hp hd).mono (vE_deg hd))
    have hvl := vdeg_le d
    have hed := h2.2.2
    have c9 := l01TimesG_ok p d p d (mono p e 1) (vanT p d) (by omega) (by omega) hmc v1 (by omega) (by omega) (by omega) (by omega) (by unfold dg; omega)
    have hmt := (mul_tell (show 0 < p by omega) hmc v1).2.2.2.1
    have hmtl : (mulT p (mono p e 1) (vanT p d)).length ≤ 8 := Nat.le_trans hmt (Nat.le_trans (Nat.mul_le_mul hml v2) (by omega))
    have c10 := l01Plus_ok p d p d (p - t.v) (byV p d q) (mulT p (mono p e 1) (vanT p d)) (by omega) (by omega) (byV_can (by omega) q) (mulT_can (by omega) _ _) (by omega) (by omega) (by omega) (by omega)
    rw [h6] at c10
    have wp : IntKind.i64.wrap (p - t.v) = p - t.v := wrap64 (by omega) (by omega)
    have hd' : d = 1 ∨ d = 2 ∨ d = 3 := by omega
    rw [addE_eq] at h1
    unfold Ex.deg at hda
    have ha : t.e.a = (dE d).a + e.a := by rw [h1]
    have hb : t.e.b = (dE d).b + e.b := by rw [h1]
    have hc2 : t.e.c = (dE d).c + e.c := by rw [h1]
    generalize putT p o e t.v = o' at c7 h7
    generalize hx' : byV p d q' = x' at c10
    refine S 60 _ _ ?_
    simp
    refine ⟨fun _ => ?_, fun h => (hx h).elim⟩
    refine CallW.ok (by decide) (by simp) c6 (by simp) (S 60 _ _ ?_)
    simp
    refine J.clean hw ⟨[(1, .c (.ref 64001 0)), (2, .c (.ref 64002 0)), (3, .c (.d (i64 p))), (4, .c (.d (i64 d))), (5, .c (.ref 64005 0)), (6, .c (.ref 64006 0)), (7, .c (.ref 64007 0)), (8, .c (.ref 64008 0)), (9, .c (.d (i64 0)))],
      [(64001, .var [.d (i64 p), .d (i64 d), .d (.vw false 4 (terms (byV p d q)))]), (64002, .var [.d (i64 0), .d (i64 0), .ob 64012]), (64012, .arr 57 4 []),
        (64006, .var [.d (i64 p), .d (i64 d), .ob 64016]), (64016, .arr 57 4 (terms (vanT p d))),
        (64005, .var [.d (i64 p), .d (i64 d), .ob 64015]), (64015, .arr 57 4 (terms o)), (64007, .var [.d (u8 t.e.a), .d (u8 t.e.b), .d (u8 t.e.c), .d (i64 t.v)]), (64008, .var [.d (u8 t.e.a), .d (u8 t.e.b), .d (u8 t.e.c)])]⟩ (by simp) ?_
    rcases hd' with rfl | rfl | rfl
    · have wa : t.e.a = e.a := by rw [ha]; exact UInt8.zero_add _
      have wb : t.e.b = e.b := by rw [hb]; exact UInt8.zero_add _
      have wc : t.e.c = e.c := by rw [hc2]; exact UInt8.zero_add _
      refine J.rounds 5 (LpW.step (S 60 _ _ ?_))
      simp [wa, wb, wc, b0, bu]
      refine LpW.inv (LpW.step (S 60 _ _ ?_))
      simp
      refine CallW.ok (by decide) (by simp) c7 (by simp) (S 60 _ _ ?_)
      simp
      refine J.dr3 hF mixed 11 [[], [], [], [0, 1, 2], [], [0, 1, 2, 3, 4], [0, 1, 2, 3, 4, 5], [0, 1, 2, 3, 4, 5, 6], [0, 1, 2, 3, 4, 5, 6], [], [0, 1, 2, 3, 4, 5, 6, 7, 9], [0, 1, 2, 3, 4, 5, 6, 7, 8, 9, 10]] [[52, 53, 54, 55, 56, 57, 51, 58, 59, 10], [52, 53, 54, 55, 56, 57, 51, 58, 59, 10], [52, 53, 54, 55, 56, 57, 51, 58, 59, 10], [55, 56, 57, 51, 58, 59, 10], [52, 53, 54, 55, 56, 57, 51, 58, 59, 10], [57, 51, 58, 59, 10], [51, 58, 59, 10], [58, 59, 10], [58, 59, 10], [52, 53, 54, 55, 56, 57, 51, 58, 59, 10], [59]] [[], [], [], [], [], [], [], [], [], [], [640]] [[], [], [], [], [], [], [], [], [640], [], []] [] [] (by decide) ?_
      simp
      refine DrC3.ok hF (by rfl) (by simp) c8 (by simp) (by simp) ?_
      simp
      refine DrC3.ok hF (by rfl) (by simp) c9 (by simp) (by simp) ?_
      simp
      refine S 60 _ _ ?_
      simp [wp]
      refine CallW.ok (by decide) (by simp) c10 (by simp) (S 1 _ _ ?_)
      simp
      refine J.freezeC 64001 2 4226 (by rfl) (by rfl) (by rfl) ?_
      refine S 60 _ _ ?_
      simp
      exact Nxt.mk ⟨q', o'⟩ h7 (by simp [hx']) h3
    · have wa : by8 ((t.e.a.toNat : Int) - ((1 : Nat) : Int)) = e.a := hsub ha (by have : (dE 2).a.toNat = 1 := rfl; omega)
      have wb : t.e.b = e.b := by rw [hb]; exact UInt8.zero_add _
      have wc : t.e.c = e.c := by rw [hc2]; exact UInt8.zero_add _
      simp at wa
      refine J.rounds 5 (LpW.step (S 60 _ _ ?_))
      simp [wa, wb, wc, b1]
      refine LpW.inv (LpW.step (S 60 _ _ ?_))
      simp [b0, bu]
      refine LpW.inv (LpW.step (S 60 _ _ ?_))
      simp
      refine CallW.ok (by decide) (by simp) c7 (by simp) (S 60 _ _ ?_)
      simp
      refine J.dr3 hF mixed 11 [[], [], [], [0, 1, 2], [], [0, 1, 2, 3, 4], [0, 1, 2, 3, 4, 5], [0, 1, 2, 3, 4, 5, 6], [0, 1, 2, 3, 4, 5, 6], [], [0, 1, 2, 3, 4, 5, 6, 7, 9], [0, 1, 2, 3, 4, 5, 6, 7, 8, 9, 10]] [[52, 53, 54, 55, 56, 57, 51, 58, 59, 10], [52, 53, 54, 55, 56, 57, 51, 58, 59, 10], [52, 53, 54, 55, 56, 57, 51, 58, 59, 10], [55, 56, 57, 51, 58, 59, 10], [52, 53, 54, 55, 56, 57, 51, 58, 59, 10], [57, 51, 58, 59, 10], [51, 58, 59, 10], [58, 59, 10], [58, 59, 10], [52, 53, 54, 55, 56, 57, 51, 58, 59, 10], [59]] [[], [], [], [], [], [], [], [], [], [], [640]] [[], [], [], [], [], [], [], [], [640], [], []] [] [] (by decide) ?_
      simp
      refine DrC3.ok hF (by rfl) (by simp) c8 (by simp) (by simp) ?_
      simp
      refine DrC3.ok hF (by rfl) (by simp) c9 (by simp) (by simp) ?_
      simp
      refine S 60 _ _ ?_
      simp [wp]
      refine CallW.ok (by decide) (by simp) c10 (by simp) (S 1 _ _ ?_)
      simp
      refine J.freezeC 64001 2 4226 (by rfl) (by rfl) (by rfl) ?_
      refine S 60 _ _ ?_
      simp
      exact Nxt.mk ⟨q', o'⟩ h7 (by simp [hx']) h3
    · have wa : by8 ((t.e.a.toNat : Int) - ((2 : Nat) : Int)) = e.a := hsub ha (by have : (dE 3).a.toNat = 2 := rfl; omega)
      have wb : by8 ((t.e.b.toNat : Int) - ((1 : Nat) : Int)) = e.b := hsub hb (by have : (dE 3).b.toNat = 1 := rfl; omega)
      have wc : t.e.c = e.c := by rw [hc2]; exact UInt8.zero_add _
      simp at wa wb
      refine J.rounds 5 (LpW.step (S 60 _ _ ?_))
      simp [wa, wc, b2]
      refine LpW.inv (LpW.step (S 60 _ _ ?_))
      simp [wb, b1]
      refine LpW.inv (LpW.step (S 60 _ _ ?_))
      simp [b0, bu]
      refine LpW.inv (LpW.step (S 60 _ _ ?_))
      simp
      refine CallW.ok (by decide) (by simp) c7 (by simp) (S 60 _ _ ?_)
      simp
      refine J.dr3 hF mixed 11 [[], [], [], [0, 1, 2], [], [0, 1, 2, 3, 4], [0, 1, 2, 3, 4, 5], [0, 1, 2, 3, 4, 5, 6], [0, 1, 2, 3, 4, 5, 6], [], [0, 1, 2, 3, 4, 5, 6, 7, 9], [0, 1, 2, 3, 4, 5, 6, 7, 8, 9, 10]] [[52, 53, 54, 55, 56, 57, 51, 58, 59, 10], [52, 53, 54, 55, 56, 57, 51, 58, 59, 10], [52, 53, 54, 55, 56, 57, 51, 58, 59, 10], [55, 56, 57, 51, 58, 59, 10], [52, 53, 54, 55, 56, 57, 51, 58, 59, 10], [57, 51, 58, 59, 10], [51, 58, 59, 10], [58, 59, 10], [58, 59, 10], [52, 53, 54, 55, 56, 57, 51, 58, 59, 10], [59]] [[], [], [], [], [], [], [], [], [], [], [640]] [[], [], [], [], [], [], [], [], [640], [], []] [] [] (by decide) ?_
      simp
      refine DrC3.ok hF (by rfl) (by simp) c8 (by simp) (by simp) ?_
      simp
      refine DrC3.ok hF (by rfl) (by simp) c9 (by simp) (by simp) ?_
      simp
      refine S 60 _ _ ?_
      simp [wp]
      refine CallW.ok (by decide) (by simp) c10 (by simp) (S 1 _ _ ?_)
      simp
      refine J.freezeC 64001 2 4226 (by rfl) (by rfl) (by rfl) ?_
      refine S 60 _ _ ?_
      simp
      exact Nxt.mk ⟨q', o'⟩ h7 (by simp [hx']) h3

end Go.Sm
