/- Towards FnExactTransformWeightsSaid: the program's function returns what the reference's returns. Part 4 of 5. -/
import Derived.Test.YtihinogdolhjcaaPkQrTransformWeightsA
import Derived.Test.YtihinogdolhjcaaPkQrTransformWeightsB
import Derived.Test.YtihinogdolhjcaaPkQrTransformWeightsC
namespace Go.Sm
open Go.RowKit

/-- The exponents of a monomial. -/
structure Ex where
  a : UInt8
  b : UInt8
  c : UInt8
  deriving DecidableEq, Inhabited
/-- A term. -/
structure Tm where
  e : Ex
  v : Int
  deriving DecidableEq, Inhabited

abbrev u8 (x : UInt8) : D := .v (.int .u8 x.toNat)
abbrev Ex.ds (e : Ex) : List D := [u8 e.a, u8 e.b, u8 e.c]
abbrev terms (ts : List Tm) : List (List D) := ts.map fun t => [u8 t.e.a, u8 t.e.b, u8 t.e.c, i64 t.v]
abbrev vTerms (ts : List Tm) : D := .vw true 4 (terms ts)
abbrev oTerms (ts : List Tm) : D := .own 108 4 (terms ts)
/-- A polynomial: as an argument, and as a result. -/
abbrev pv (p d : Int) (ts : List Tm) : RV := .agg [i64 p, i64 d, vTerms ts]
abbrev po (p d : Int) (ts : List Tm) : RV := .agg [i64 p, i64 d, oTerms ts]
def Ex.deg (e : Ex) : Int := (e.a.toNat : Int) + e.b.toNat + e.c.toNat
/-- How two monomials stand to one another. -/
def cmpE (x y : Ex) : Int :=
  if x.deg - y.deg ≠ 0 then x.deg - y.deg else if x.a ≠ y.a then (y.a.toNat : Int) - x.a.toNat else (y.b.toNat : Int) - x.b.toNat

theorem cmpE_self (x : Ex) : cmpE x x = 0 := by simp [cmpE]
theorem u8_lt (x : UInt8) : x.toNat < 256 := x.toNat_lt
theorem deg_lt (x : Ex) : 0 ≤ x.deg ∧ x.deg < 768 := by
  have := u8_lt x.a; have := u8_lt x.b; have := u8_lt x.c
  unfold Ex.deg; omega

@[simp] theorem ble_tt {a b : Nat} (h : a ≤ b) : Nat.ble a b = true := by rw [Nat.ble_eq]; exact h
@[simp] theorem ble_ff {a b : Nat} (h : b < a) : Nat.ble a b = false := by
  cases hb : Nat.ble a b with
  | false => rfl
  | true => rw [Nat.ble_eq] at hb; omega
@[simp] theorem beq_tt (a : Nat) : Nat.beq a a = true := Nat.beq_refl a
@[simp] theorem beq_ff {a b : Nat} (h : a ≠ b) : Nat.beq a b = false := by
  cases hb : Nat.beq a b with
  | false => rfl
  | true => exact absurd (nat_beq hb) h
@[simp] theorem wrap64_0 : IntKind.i64.wrap 0 = 0 := rfl
@[simp] theorem wrap64_1 : IntKind.i64.wrap 1 = 1 := rfl
@[simp] theorem wrap64_2 : IntKind.i64.wrap 2 = 2 := rfl
@[simp] theorem wrap64_3 : IntKind.i64.wrap 3 = 3 := rfl
@[simp] theorem wrap64_4 : IntKind.i64.wrap 4 = 4 := rfl
@[simp] theorem wrap64_u8 (x : UInt8) : IntKind.i64.wrap (x.toNat : Int) = x.toNat := by
  have := u8_lt x
  exact wrap64 (by omega) (by omega)
@[simp] theorem wrap64_u8a (x y : UInt8) : IntKind.i64.wrap ((x.toNat : Int) + y.toNat) = x.toNat + y.toNat := by
  have := u8_lt x; have := u8_lt y
  exact wrap64 (by omega) (by omega)
@[simp] theorem wrap64_u8b (x y z : UInt8) : IntKind.i64.wrap ((x.toNat : Int) + y.toNat + z.toNat) = x.toNat + y.toNat + z.toNat := by
  have := u8_lt x; have := u8_lt y; have := u8_lt z
  exact wrap64 (by omega) (by omega)
@[simp] theorem wrap64_u8s (x y : UInt8) : IntKind.i64.wrap ((x.toNat : Int) - y.toNat) = x.toNat - y.toNat := by
  have := u8_lt x; have := u8_lt y
  exact wrap64 (by omega) (by omega)
@[simp] theorem wrap64_deg (x y : Ex) : IntKind.i64.wrap (x.deg - y.deg) = x.deg - y.deg := by
  have := deg_lt x; have := deg_lt y
  exact wrap64 (by omega) (by omega)
@[simp] theorem u8_bne (x y : UInt8) : ((x.toNat : Int) != (y.toNat : Int)) = (x != y) := by
  by_cases h : x = y
  · subst h; simp
  · have : (x.toNat : Int) ≠ y.toNat := fun e => h (UInt8.toNat_inj.1 (by omega))
    rw [show (x != y) = true from bne_iff_ne.2 h]
    exact bne_iff_ne.2 this
@[simp] theorem u8_beq (x y : UInt8) : ((x.toNat : Int) == (y.toNat : Int)) = (x == y) := by
  by_cases h : x = y
  · subst h; simp
  · have : (x.toNat : Int) ≠ y.toNat := fun e => h (UInt8.toNat_inj.1 (by omega))
    rw [show (x == y) = false from beq_eq_false_iff_ne.2 h]
    exact beq_eq_false_iff_ne.2 this
@[simp] theorem u8_beq0 (x : UInt8) : ((x.toNat : Int) == 0) = (x == 0) := u8_beq x 0
@[simp] theorem u8_bne0 (x : UInt8) : ((x.toNat : Int) != 0) = (x != 0) := u8_bne x 0

@[simp] theorem Ex.beq3 (x y : Ex) : (x.a == y.a && (x.b == y.b && x.c == y.c)) = decide (x = y) := by
  cases x; cases y
  rw [Bool.eq_iff_iff]
  simp

theorem degree_ok (e : Ex) : CallOK Go.Proofs.Try.prog 137 [.agg e.ds] (.one (i64 e.deg)) := by
  have hF := fnOk 14 [.tmp 2]
  refine callOK hF 60 Go.Proofs.Try.func137 rfl rfl rfl (by decide) (by simp) rfl ?_
  intro w0 hw
  have S := @vc_sound w0 _ hF ⟨(.one (i64 e.deg)), []⟩ Go.Proofs.Try.f137 rfl (by simp)
  simp [Ex.deg]

theorem l01Sum_ok (e : Ex) : CallOK Go.Proofs.Try.prog 148 [.agg e.ds] (.one (i64 e.deg)) := by
  have hF := fnOk 14 [.tmp 2]
  refine callOK hF 60 Go.Proofs.Try.func148 rfl rfl rfl (by decide) (by simp) rfl ?_
  intro w0 hw
  have S := @vc_sound w0 _ hF ⟨(.one (i64 e.deg)), []⟩ Go.Proofs.Try.f148 rfl (by simp)
  simp [Ex.deg]

theorem compareExps_ok (x y : Ex) : CallOK Go.Proofs.Try.prog 122 [.agg x.ds, .agg y.ds] (.one (i64 (cmpE x y))) := by
  have hF := fnOk 33 [.tmp 4]
  refine callOK hF 60 Go.Proofs.Try.func122 rfl rfl rfl (by decide) (by simp) rfl ?_
  intro w0 hw
  have S := @vc_sound w0 _ hF ⟨(.one (i64 (cmpE x y))), []⟩ Go.Proofs.Try.f122 rfl (by simp)
  have c1 := degree_ok x
  have c2 := degree_ok y
  simp at c1 c2 ⊢
  refine J.dr hF mixed 3 [[], [0], [], [0, 1, 2], [0, 1, 2, 3], [0, 1, 2, 3, 4]] [[6, 7, 8], [7, 8], [6, 7, 8]] (by decide) ?_
  simp
  refine DrC.ok hF (by rfl) (by simp) c1 (by simp) (by simp) ?_
  simp
  refine S 60 _ _ ?_
  simp
  refine CallW.ok (by decide) (by simp) c2 (by simp) ?_
  refine S 60 _ _ ?_
  by_cases h : x.deg = y.deg
  · by_cases h1 : x.a = y.a
    · simp [h, h1, cmpE]
    · simp [h, h1, cmpE]
  · have : x.deg - y.deg ≠ 0 := by omega
    have hb : (x.deg - y.deg != 0) = true := by simpa using this
    simp [this, cmpE, hb]

/-- A monomial in d letters of at most the greatest degree. -/
def InV (d : Int) (e : Ex) : Prop := (d ≤ 1 → e.b = 0) ∧ (d ≤ 2 → e.c = 0) ∧ e.deg ≤ 12
instance (d : Int) (e : Ex) : Decidable (InV d e) := by unfold InV; infer_instance

theorem l01Exps_ok (d : Int) (e : Ex) (h1 : 1 ≤ d) (h3 : d ≤ 3) : CallOK Go.Proofs.Try.prog 116 [.one (i64 d), .agg e.ds] (.one (bo (decide (InV d e)))) := by
  have hF := fnOk 18 [.tmp 4]
  refine callOK hF 60 Go.Proofs.Try.func116 rfl rfl rfl (by decide) (by simp) rfl ?_
  intro w0 hw
  have S := @vc_sound w0 _ hF ⟨(.one (bo (decide (InV d e)))), []⟩ Go.Proofs.Try.f116 rfl (by simp)
  have c1 := l01Sum_ok e
  have hd : d = 1 ∨ d = 2 ∨ d = 3 := by omega
  rcases hd with rfl | rfl | rfl <;> simp at c1 S ⊢
  · refine J.rounds 4 (LpW.step (S 60 _ _ ?_))
    simp
    refine ⟨fun hb hi => hb (hi.1 (by omega)), fun hb => LpW.inv (LpW.step (S 60 _ _ ?_))⟩
    simp
    refine ⟨fun hc hi => hc (hi.2.1 (by omega)), fun hc => LpW.inv (LpW.step (S 60 _ _ ?_))⟩
    simp
    refine CallW.ok (by decide) (by simp) c1 (by simp) (S 60 _ _ ?_)
    simp [InV, hb, hc]
  · refine J.rounds 4 (LpW.step (S 60 _ _ ?_))
    simp
    refine ⟨fun hc hi => hc (hi.2.1 (by omega)), fun hc => LpW.inv (LpW.step (S 60 _ _ ?_))⟩
    simp
    refine CallW.ok (by decide) (by simp) c1 (by simp) (S 60 _ _ ?_)
    simp [InV, hc]
  · refine J.rounds 4 (LpW.step (S 60 _ _ ?_))
    simp
    refine CallW.ok (by decide) (by simp) c1 (by simp) (S 60 _ _ ?_)
    simp [InV]

theorem l01Before_ok (x y : Ex) : CallOK Go.Proofs.Try.prog 119 [.agg x.ds, .agg y.ds] (.one (bo (decide (cmpE x y < 0)))) := by
  have hF := fnOk 30 [.tmp 4]
  refine callOK hF 60 Go.Proofs.Try.func119 rfl rfl rfl (by decide) (by simp) rfl ?_
  intro w0 hw
  have S := @vc_sound w0 _ hF ⟨(.one (bo (decide (cmpE x y < 0)))), []⟩ Go.Proofs.Try.f119 rfl (by simp)
  have c1 := l01Sum_ok x
  have c2 := l01Sum_ok y
  simp at c1 c2 ⊢
  refine J.dr hF mixed 3 [[], [0], [], [0, 1, 2], [0, 1, 2, 3]] [[5, 6, 7], [6, 7], [5, 6, 7]] (by decide) ?_
  simp
  refine DrC.ok hF (by rfl) (by simp) c1 (by simp) (by simp) ?_
  simp
  refine S 60 _ _ ?_
  simp
  refine CallW.ok (by decide) (by simp) c2 (by simp) ?_
  refine S 60 _ _ ?_
  by_cases h : x.deg = y.deg
  · have hb : (x.deg != y.deg) = false := by simpa using h
    by_cases h1 : x.a = y.a
    · simp [h, h1, cmpE]
      omega
    · simp [h, h1, cmpE]
      unfold Later
      omega
  · have hb : (x.deg != y.deg) = true := by simpa using h
    have : x.deg - y.deg ≠ 0 := by omega
    have e : decide (cmpE x y < 0) = decide (x.deg < y.deg) := by
      unfold cmpE
      rw [if_pos this]
      by_cases h2 : x.deg < y.deg
      · rw [decide_eq_true h2, decide_eq_true (by omega)]
      · rw [decide_eq_false h2, decide_eq_false (by omega)]
    rw [e] at S ⊢
    simp [hb]
    refine J.dr hF mixed 3 [[], [0], [], [0, 1, 2], [0, 1, 2, 3], [0, 1, 2, 3, 4]] [[10, 11, 12], [11, 12], [10, 11, 12]] (by decide) ?_
    simp
    refine DrC.ok hF (by rfl) (by simp) c1 (by simp) (by simp) ?_
    simp
    refine S 60 _ _ ?_
    simp
    refine CallW.ok (by decide) (by simp) c2 (by simp) ?_
    refine S 60 _ _ ?_
    simp

/-- The coefficient of a monomial. -/
def coef : List Tm → Ex → Int
  | [], _ => 0
  | t :: ts, e => if t.e = e then t.v else coef ts e

theorem l01At_ok (p d : Int) (ts : List Tm) (e : Ex) (hl : ts.length ≤ 1048576) : CallOK Go.Proofs.Try.prog 118 [pv p d ts, .agg e.ds] (.one (i64 (coef ts e))) := by
  have hF := fnOk 27 [.tmp 4]
  refine callOK hF 60 Go.Proofs.Try.func118 rfl rfl rfl (by decide) (by simp) rfl ?_
  intro w0 hw
  have S := @vc_sound w0 _ hF ⟨(.one (i64 (coef ts e))), []⟩ Go.Proofs.Try.f118 rfl (by simp)
  simp
  refine J.loop hw (fun i : Nat => ⟨[(5, .c (.d (i64 i))), (2, .c (.ref 64002 0)), (3, .c (.ref 64003 0))], [(64002, .var [.d (i64 p), .d (i64 d), .d (vTerms ts)]), (64003, .var [.d (u8 e.a), .d (u8 e.b), .d (u8 e.c)])]⟩)
    (fun i => i ≤ ts.length ∧ coef ts e = coef (ts.drop i) e) (fun i => ts.length - i) 0 (by simp) (by simp) ?_
  rintro i ⟨hi, hc⟩
  refine S 60 _ _ ?_
  simp
  refine ⟨fun hlt => ?_, fun hge => by rw [hc, List.drop_eq_nil_of_le hge]; rfl⟩
  refine J.dr hF mixed 7 [[], [0], [], [0, 1, 2], [0, 1, 2, 3], [0, 1, 2, 3, 4], [], [0, 1, 2, 3, 4, 5, 6]] [[13, 14, 15, 16, 17, 18, 19], [14, 15, 16, 17, 18, 19], [13, 14, 15, 16, 17, 18, 19], [16, 17, 18, 19], [17, 18, 19], [18, 19], [13, 14, 15, 16, 17, 18, 19]] (by decide) ?_
  simp
  refine ⟨hlt, fun a ha => ?_⟩
  refine S 60 _ _ ?_
  simp
  have hd := drop_cons ha
  rw [hd] at hc
  refine ⟨fun h1 => ⟨hlt, fun b hb => ?_⟩, fun hn => ?_⟩
  · rw [ha] at hb
    obtain rfl := Option.some.inj hb
    rw [hc]; simp [coef, h1]
  · refine Nxt.mk (i + 1) ⟨hlt, ?_⟩ (by simp [wrapS (i := i) (n := ts.length) hlt (by omega)]) (by omega)
    rw [hc]; simp [coef, hn]

end Go.Sm

namespace Go.Sm
open Go.RowKit

theorem tmod_mod (x p : Int) (hp : 0 < p) : (x.tmod p + p).tmod p = x % p := by
  have h1 : x.tmod p < p := Int.tmod_lt_of_pos x hp
  have h2 : -p < x.tmod p := by
    have := Int.lt_tmod_of_pos x hp
    omega
  have h3 : (x.tmod p + p).tmod p = (x.tmod p + p) % p := Int.tmod_eq_emod_of_nonneg (by omega)
  rw [h3, Int.add_emod_right]
  rcases Int.le_total 0 x with h | h
  · rw [Int.tmod_eq_emod_of_nonneg h, Int.emod_emod]
  · have e : x.tmod p = -((-x) % p) := by
      have : (-x).tmod p = (-x) % p := Int.tmod_eq_emod_of_nonneg (by omega)
      rw [← this, Int.neg_tmod, Int.neg_neg]
    rw [e]
    have : -((-x) % p) % p = x % p := by
      rw [Int.neg_emod_eq_sub_emod]
      have h4 := Int.emod_add_mul_ediv (-x) p
      rw [show p - (-x) % p = x + p * (1 + (-x) / p) by rw [Int.mul_add]; omega, Int.add_mul_emod_self_left]
    exact this

theorem tmod_range (x p : Int) (hp : 0 < p) : -p < x.tmod p ∧ x.tmod p < p := by
  have h1 : x.tmod p < p := Int.tmod_lt_of_pos x hp
  have h2 := Int.lt_tmod_of_pos x hp
  omega

theorem l01Mod_ok (p x : Int) (hp : 0 < p) (hp2 : p < 4000000000000000000) : CallOK Go.Proofs.Try.prog 117 [.one (i64 p), .one (i64 x)] (.one (i64 (x % p))) := by
  have hF := fnOk 12 [.tmp 4]
  refine callOK hF 60 Go.Proofs.Try.func117 rfl rfl rfl (by decide) (by simp) rfl ?_
  intro w0 hw
  have S := @vc_sound w0 _ hF ⟨(.one (i64 (x % p))), []⟩ Go.Proofs.Try.f117 rfl (by simp)
  have h := tmod_range x p hp
  have h0 : p ≠ 0 := by omega
  simp [h0, wrap64 (x := x.tmod p + p) (by omega) (by omega), tmod_mod x p hp]

theorem l01Empty_ok (p d : Int) : CallOK Go.Proofs.Try.prog 78 [.one (i64 p), .one (i64 d)] (po p d []) := by
  have hF := fnOk 9 [.cell 4 39]
  refine callOK hF 60 Go.Proofs.Try.func78 rfl rfl rfl (by decide) (by simp) rfl ?_
  intro w0 hw
  have S := @vc_sound w0 _ hF ⟨(po p d []), []⟩ Go.Proofs.Try.f78 rfl (by simp)
  simp

/-- A number put to the coefficient of e: what comes of the terms from here on. -/
def putGo (e : Ex) (v : Int) : Bool → List Tm → List Tm
  | done, [] => if done then [] else [⟨e, v⟩]
  | done, t :: ts => (if done = false ∧ cmpE e t.e < 0 then [⟨e, v⟩] else []) ++ ((if t.e = e then [] else [t]) ++ putGo e v (done || decide (cmpE e t.e < 0)) ts)
def putT (p : Int) (ts : List Tm) (e : Ex) (v : Int) : List Tm := putGo e ((v + coef ts e) % p) ((v + coef ts e) % p == 0) ts

set_option maxHeartbeats 4000000 in
theorem l01Put_ok (p d : Int) (ts : List Tm) (e : Ex) (v : Int) (hl : ts.length ≤ 1048576) (hp : 0 < p) (hp2 : p < 4000000000000000000) (h1 : -4611686018427387904 ≤ v + coef ts e) (h2 : v + coef ts e ≤ 4611686018427387904) : CallOK Go.Proofs.Try.prog 79 [pv p d ts, .agg e.ds, .one (i64 v)] (po p d (putT p ts e v)) := by
  have hF := fnOk 75 [.cell 6 39]
  refine callOK hF 60 Go.Proofs.Try.func79 rfl rfl rfl (by decide) (by simp) rfl ?_
  intro w0 hw
  have S := @vc_sound w0 _ hF ⟨(po p d (putT p ts e v)), []⟩ Go.Proofs.Try.f79 rfl (by simp)
  have c1 := l01Empty_ok p d
  have c2 := l01At_ok p d ts e hl
  have c3 := l01Mod_ok p (v + coef ts e) hp hp2
  have hw1 : IntKind.i64.wrap (v + coef ts e) = v + coef ts e := wrap64 (by omega) (by omega)
  simp at c1 c2 c3 ⊢
  refine CallW.ok (by decide) (by simp) c1 (by simp) (S 100 _ _ ?_)
  simp
  refine J.dr hF mixed 7 [[], [0], [], [], [], [3, 4], [2, 3, 4, 5], [0, 1, 2, 3, 4, 5, 6], [0, 1, 2, 3, 4, 5, 6, 7]] [[16, 17, 18, 19, 20, 21, 22], [17, 18, 19, 20, 21, 22], [16, 17, 18, 19, 20, 21, 22], [16, 17, 18, 19, 20, 21, 22], [16, 17, 18, 19, 20, 21, 22], [16, 17, 18, 21, 22], [16, 17, 22]] (by decide) ?_
  simp
  refine DrC.ok hF (by rfl) (by simp) c2 (by simp) (by simp) ?_
  simp [hw1]
  refine S 60 _ _ ?_
  simp
  refine CallW.ok (by decide) (by simp) c3 (by simp) (S 100 _ _ ?_)
  simp
  generalize hv' : (v + coef ts e) % p = v' at S ⊢
  refine J.loop hw (fun q : Nat × Bool × List Tm => ⟨[(9, .c (.d (i64 q.1))), (2, .c (.d (i64 v'))), (8, .c (.d (bo q.2.1))), (3, .c (.ref 64003 0)), (4, .c (.ref 64004 0)), (6, .c (.ref 64006 0)), (7, .c (.ref 64008 0))],
      [(64003, .var [.d (i64 p), .d (i64 d), .d (vTerms ts)]), (64004, .var [.d (u8 e.a), .d (u8 e.b), .d (u8 e.c)]), (64006, .var [.d (i64 0), .d (i64 0), .ob 64007]), (64007, .arr 108 4 []),
       (64008, .var [.d (i64 p), .d (i64 d), .ob 64009]), (64009, .arr 108 4 (terms q.2.2))]⟩)
    (fun q => q.1 ≤ ts.length ∧ q.2.2.length ≤ 2 * q.1 ∧ q.2.2 ++ putGo e v' q.2.1 (ts.drop q.1) = putGo e v' (v' == 0) ts) (fun q => ts.length - q.1) (0, v' == 0, []) (by simp) (by simp) ?_
  rintro ⟨i, done, acc⟩ ⟨hi, hlen, hacc⟩
  simp only at hi hlen hacc
  refine S 13 _ _ ?_
  simp
  refine ⟨fun hlt => ?_, fun hge => ?_⟩
  · refine S 14 _ _ ?_
    simp
    refine ⟨hlt, fun t ht => ?_⟩
    have hdr := drop_cons ht
    rw [hdr] at hacc
    have hb2 : (acc.length + 1) * 16 ≤ 140737488355328 := by omega
    have hb3 : acc.length + 1 ≤ 9223372036854775807 := by omega
    have c4 := l01Before_ok e t.e
    have fin : ∀ (dn : Bool) (add : List Tm), dn = (done || decide (cmpE e t.e < 0)) → add = (if done = false ∧ cmpE e t.e < 0 then [⟨e, v'⟩] else []) ++ (if t.e = e then [] else [t]) →
        (i + 1 ≤ ts.length ∧ (acc ++ add).length ≤ 2 * (i + 1) ∧ (acc ++ add) ++ putGo e v' dn (ts.drop (i + 1)) = putGo e v' (v' == 0) ts) := by
      intro dn add h1 h2
      refine ⟨hlt, ?_, ?_⟩
      · rw [List.length_append, h2, List.length_append]
        split <;> split <;> simp <;> omega
      · rw [← hacc, h1, h2]; simp [putGo]
    by_cases hte : t.e = e
    · cases done with
      | true =>
        refine S 100 _ _ ?_
        simp [hte]
        refine Nxt.mk (i + 1, true, acc) (by simpa using fin true [] (by simp) (by simp [hte])) (by simp [wrapS (i := i) (n := ts.length) hlt (by omega)]) (by show ts.length - (i + 1) < ts.length - i; omega)
      | false =>
        have hlt0 : ¬ cmpE e t.e < 0 := by rw [hte, cmpE_self]; omega
        rw [decide_eq_false hlt0] at c4
        refine S 100 _ _ ?_
        simp
        refine CallW.ok (by decide) (by simp) c4 (by simp) (S 100 _ _ ?_)
        simp [hte]
        refine Nxt.mk (i + 1, false, acc) (by simpa using fin false [] (by simp; omega) (by simp [hte, cmpE_self])) (by simp [wrapS (i := i) (n := ts.length) hlt (by omega)]) (by show ts.length - (i + 1) < ts.length - i; omega)
    · cases done with
      | true =>
        refine S 100 _ _ ?_
        simp [hte]
        refine ⟨⟨by omega, by omega⟩, ?_⟩
        refine Nxt.mk (i + 1, true, acc ++ [t]) (fin true [t] (by simp) (by simp [hte])) (by simp [wrapS (i := i) (n := ts.length) hlt (by omega)]) (by show ts.length - (i + 1) < ts.length - i; omega)
      | false =>
        by_cases hlt0 : cmpE e t.e < 0
        · rw [decide_eq_true hlt0] at c4
          refine S 100 _ _ ?_
          simp
          refine CallW.ok (by decide) (by simp) c4 (by simp) (S 16 _ _ ?_)
          simp
          refine ⟨⟨by omega, by omega⟩, ?_⟩
          refine S 60 _ _ ?_
          simp [hte]
          refine ⟨⟨by omega, by omega⟩, ?_⟩
          refine Nxt.mk (i + 1, true, acc ++ [⟨e, v'⟩, t]) (fin true [⟨e, v'⟩, t] (by simp [hlt0]) (by simp [hte, hlt0])) (by simp [wrapS (i := i) (n := ts.length) hlt (by omega)]) (by show ts.length - (i + 1) < ts.length - i; omega)
        · rw [decide_eq_false hlt0] at c4
          refine S 100 _ _ ?_
          simp
          refine CallW.ok (by decide) (by simp) c4 (by simp) (S 100 _ _ ?_)
          simp [hte]
          refine ⟨⟨by omega, by omega⟩, ?_⟩
          refine Nxt.mk (i + 1, false, acc ++ [t]) (fin false [t] (by simp; omega) (by simp [hte, hlt0])) (by simp [wrapS (i := i) (n := ts.length) hlt (by omega)]) (by show ts.length - (i + 1) < ts.length - i; omega)
  · have hnil : ts.drop i = [] := List.drop_eq_nil_of_le hge
    rw [hnil] at hacc
    have hput : putT p ts e v = acc ++ putGo e v' done [] := by rw [hacc]; unfold putT; rw [hv']
    rw [hput] at S ⊢
    cases done with
    | true =>
      refine S 60 _ _ ?_
      simp [putGo]
    | false =>
      refine S 60 _ _ ?_
      simp [putGo]
      omega

end Go.Sm

namespace Go.Sm

/-- A list by its places. -/
def rm (N : Nat) (f : Nat → Int) : List Int := (List.range N).map f
theorem rm_length (N : Nat) (f : Nat → Int) : (rm N f).length = N := by simp [rm]
theorem rm_get {N : Nat} {f : Nat → Int} {k : Nat} (h : k < N) : (rm N f)[k]? = some (f k) := by simp [rm, h]
theorem rm_ext {N : Nat} {f g : Nat → Int} (h : ∀ k < N, f k = g k) : rm N f = rm N g := List.map_congr_left fun k hk => h k (List.mem_range.1 hk)
theorem rm_zero (N : Nat) : rm N (fun _ => 0) = List.replicate N 0 := by
  refine List.ext_getElem (by simp [rm]) fun i h1 h2 => by simp [rm]
/-- A list of which the first k places are done. -/
def mx (k : Nat) (g f : Nat → Int) : Nat → Int := fun j => if j < k then g j else f j
theorem rm_set {N k : Nat} {g f : Nat → Int} (h : k < N) : (rm N (mx k g f)).set k (g k) = rm N (mx (k + 1) g f) := by
  refine List.ext_getElem (by simp [rm]) fun i h1 h2 => ?_
  rw [List.getElem_set]
  split
  · rename_i e; subst e; simp [rm, mx]
  · rename_i e
    simp only [rm, List.getElem_map, List.getElem_range, mx]
    by_cases h3 : i < k
    · rw [if_pos h3, if_pos (by omega)]
    · rw [if_neg h3, if_neg (by omega)]
theorem rm_mx {N : Nat} {g f : Nat → Int} {k : Nat} (h : k < N) : (rm N (mx k g f))[k]? = some (f k) := by rw [rm_get h]; simp [mx]
theorem rm_start (N : Nat) (g f : Nat → Int) : rm N (mx 0 g f) = rm N f := rm_ext fun k _ => by simp [mx]
theorem rm_end {N k : Nat} (g f : Nat → Int) (h : N ≤ k) : rm N (mx k g f) = rm N g := rm_ext fun j hj => by simp [mx, show j < k by omega]

def krN (p : Int) (n i k : Nat) : Int := (kraw p n i n).getD k 0
theorem krN_get {p : Int} {n i k : Nat} (h : k < n + 1) : (kraw p n i n)[k]? = some (krN p n i k) := by
  have := kraw_length p n i n
  unfold krN
  rw [List.getD_eq_getElem?_getD, List.getElem?_eq_getElem (by omega)]; simp
theorem krN_bound {p : Int} (hp : 2 ≤ p ∧ p ≤ 13) {n i k : Nat} (hn : n ≤ 10) (h : k < n + 1) : -137858491849 ≤ krN p n i k ∧ krN p n i k ≤ 137858491849 := by
  have h1 := kraw_bound hp n i n _ (List.mem_of_getElem? (krN_get (p := p) (i := i) h))
  have h13 : (13 : Int) ^ n ≤ 13 ^ 10 := by exact_mod_cast Nat.pow_le_pow_right (n := 13) (by omega) hn
  have e : (13 : Int) ^ 10 = 137858491849 := by decide
  omega

/-! ### the program's parts -/
def oI (p : Int) (n : Nat) (ws : List Int) (T : Int) : Nat → Nat → Int
  | 0, _ => 0
  | i + 1, k => oI p n ws T i k + ws.getD i 0 * krN p n i k / T
def rI (p : Int) (n : Nat) (ws : List Int) (T : Int) : Nat → Nat → Int
  | 0, _ => 0
  | i + 1, k => rI p n ws T i k + ws.getD i 0 * krN p n i k % T
theorem oI_sum {p : Int} {n : Nat} {ws : List Int} {T : Int} (k : Nat) : ∀ i, oI p n ws T i k * T + rI p n ws T i k = sumK p n ws k i
  | 0 => by simp [oI, rI, sumK]
  | i + 1 => by
    have h1 := oI_sum (p := p) (n := n) (ws := ws) (T := T) k i
    have h2 := Int.mul_ediv_add_emod (ws.getD i 0 * krN p n i k) T
    simp only [oI, rI, sumK]
    have e : (kraw p n i n).getD k 0 = krN p n i k := rfl
    rw [e, ← h1, Int.add_mul, Int.mul_comm (ws.getD i 0 * krN p n i k / T) T]
    omega
theorem wk_bound {w K T : Int} (hw : 0 ≤ w ∧ w ≤ T) (hT : 0 < T) (hK : -137858491849 ≤ K ∧ K ≤ 137858491849) : -137858491849 ≤ w * K / T ∧ w * K / T ≤ 137858491849 := by
  have k1 := mul_bound2 (F := T) (c := 137858491849) hw hK
  exact ⟨(Int.le_ediv_iff_mul_le hT).2 (by omega), Int.ediv_le_of_le_mul hT (by omega)⟩
theorem oI_bound {p : Int} (hp : 2 ≤ p ∧ p ≤ 13) {n : Nat} (hn : n ≤ 10) {ws : List Int} {T : Int} (hT : 0 < T) (hw : ∀ i, 0 ≤ ws.getD i 0 ∧ ws.getD i 0 ≤ T) {k : Nat} (hk : k < n + 1) :
    ∀ i : Nat, (-(137858491849 * i) ≤ oI p n ws T i k ∧ oI p n ws T i k ≤ 137858491849 * i) ∧ (0 ≤ rI p n ws T i k ∧ rI p n ws T i k ≤ T * i)
  | 0 => by simp [oI, rI]
  | i + 1 => by
    obtain ⟨h1, h2⟩ := oI_bound hp hn hT hw hk i
    have h3 := wk_bound (hw i) hT (krN_bound (p := p) (i := i) hp hn hk)
    have h4 := Int.emod_nonneg (ws.getD i 0 * krN p n i k) (show T ≠ 0 by omega)
    have h5 := Int.emod_lt_of_pos (ws.getD i 0 * krN p n i k) hT
    simp only [oI, rI]
    have e : T * ((i + 1 : Nat) : Int) = T * i + T := by push_cast; rw [Int.mul_add]; omega
    rw [e]
    constructor
    · push_cast; omega
    · omega

/-! ### the reference's parts -/
def rest1 (w K R T : Int) : Int := R + K.tmod T * w
def oS' (p : Int) (n : Nat) (ws : List Int) (T : Int) : Nat → Nat → Int × Int
  | 0, _ => (0, 0)
  | i + 1, k => ((oS' p n ws T i k).1 + (krN p n i k).tdiv T * ws.getD i 0 + (rest1 (ws.getD i 0) (krN p n i k) (oS' p n ws T i k).2 T).tdiv T,
      (rest1 (ws.getD i 0) (krN p n i k) (oS' p n ws T i k).2 T).tmod T)
theorem oS_sum {p : Int} {n : Nat} {ws : List Int} {T : Int} (k : Nat) : ∀ i, (oS' p n ws T i k).1 * T + (oS' p n ws T i k).2 = sumK p n ws k i
  | 0 => by simp [oS', sumK]
  | i + 1 => by
    have h1 := oS_sum (p := p) (n := n) (ws := ws) (T := T) k i
    simp only [oS', sumK]
    have e : (kraw p n i n).getD k 0 = krN p n i k := rfl
    rw [e, ← h1]
    have h2 := Int.mul_tdiv_add_tmod (krN p n i k) T
    have h3 := Int.mul_tdiv_add_tmod (rest1 (ws.getD i 0) (krN p n i k) (oS' p n ws T i k).2 T) T
    generalize (rest1 (ws.getD i 0) (krN p n i k) (oS' p n ws T i k).2 T).tdiv T = a at h3 ⊢
    generalize (rest1 (ws.getD i 0) (krN p n i k) (oS' p n ws T i k).2 T).tmod T = b at h3 ⊢
    unfold rest1 at h3
    generalize (krN p n i k).tdiv T = q at h2 ⊢
    generalize (krN p n i k).tmod T = r at h2 h3
    generalize ws.getD i 0 = w at h3 ⊢
    rw [← h2, Int.add_mul, Int.add_mul, Int.mul_add, Int.mul_comm a T]
    have e2 : w * (T * q) = q * w * T := by rw [Int.mul_comm T q, ← Int.mul_assoc, Int.mul_comm w q]
    rw [e2, Int.mul_comm w r]
    omega
theorem tdiv_bound {x T C : Int} (hT : 0 < T) (h : -C ≤ x ∧ x ≤ C) : -C ≤ x.tdiv T ∧ x.tdiv T ≤ C := by
  have h1 := Int.mul_tdiv_add_tmod x T
  have h2 := tmod_range x T hT
  have hC : 0 ≤ C := by omega
  rcases Int.le_total 0 (x.tdiv T) with h0 | h0
  · have : x.tdiv T ≤ T * x.tdiv T := by
      have := Int.mul_le_mul_of_nonneg_right (show 1 ≤ T by omega) h0; omega
    refine ⟨by omega, ?_⟩
    by_cases h3 : 0 < x.tdiv T
    · have hx : 0 ≤ x := Decidable.byContradiction fun hn => by
        have : T * 1 ≤ T * x.tdiv T := Int.mul_le_mul_of_nonneg_left (by omega) (by omega)
        omega
      have := Int.tmod_nonneg T hx
      omega
    · omega
  · have : T * x.tdiv T ≤ x.tdiv T := by
      have := Int.mul_le_mul_of_nonneg_right (show 1 ≤ T by omega) (show 0 ≤ -x.tdiv T by omega)
      simp only [Int.mul_neg, Int.one_mul] at this; omega
    refine ⟨?_, by omega⟩
    by_cases h3 : x.tdiv T < 0
    · have hx : x ≤ 0 := Decidable.byContradiction fun hn => by
        have : T * x.tdiv T ≤ T * (-1) := Int.mul_le_mul_of_nonneg_left (by omega) (by omega)
        omega
      have h4 : x.tmod T ≤ 0 := by
        have := Int.tmod_nonneg T (show 0 ≤ -x by omega)
        rw [Int.neg_tmod] at this; omega
      omega
    · omega
theorem whole_bound {w K T : Int} (hw : 0 ≤ w ∧ w ≤ T) (hT : 0 < T) (hK : -137858491849 ≤ K ∧ K ≤ 137858491849) : -137858491849 ≤ K.tdiv T * w ∧ K.tdiv T * w ≤ 137858491849 := by
  have h1 := Int.mul_tdiv_add_tmod K T
  rcases Int.le_total 0 K with h0 | h0
  · have h2 : 0 ≤ K.tdiv T := Int.tdiv_nonneg h0 (by omega)
    have h3 : K.tdiv T * w ≤ K.tdiv T * T := Int.mul_le_mul_of_nonneg_left hw.2 h2
    have h4 := Int.mul_nonneg h2 hw.1
    have h5 := Int.tmod_nonneg T h0
    rw [Int.mul_comm (K.tdiv T) T] at h3
    omega
  · have h2 : 0 ≤ -K.tdiv T := by rw [← Int.neg_tdiv]; exact Int.tdiv_nonneg (by omega) (by omega)
    have h3 : -K.tdiv T * w ≤ -K.tdiv T * T := Int.mul_le_mul_of_nonneg_left hw.2 h2
    have h4 := Int.mul_nonneg h2 hw.1
    have h5 : 0 ≤ -K.tmod T := by rw [← Int.neg_tmod]; exact Int.tmod_nonneg T (by omega)
    rw [Int.neg_mul, Int.neg_mul, Int.mul_comm (K.tdiv T) T] at h3
    rw [Int.neg_mul] at h4
    omega
theorem part_bound {w K T : Int} (hw : 0 ≤ w ∧ w ≤ 100000000) (hT : 0 < T ∧ T ≤ 1100000000) : -110000000000000000 ≤ K.tmod T * w ∧ K.tmod T * w ≤ 110000000000000000 := by
  have h := tmod_range K T hT.1
  have := mul_bound2 (f := w) (b := K.tmod T) (F := 100000000) (c := 1100000000) hw (by omega)
  rw [Int.mul_comm]; omega
theorem oS_bound {p : Int} (hp : 2 ≤ p ∧ p ≤ 13) {n : Nat} (hn : n ≤ 10) {ws : List Int} {T : Int} (hT : 0 < T ∧ T ≤ 1100000000) (hw : ∀ i, 0 ≤ ws.getD i 0 ∧ ws.getD i 0 ≤ T ∧ ws.getD i 0 ≤ 100000000) {k : Nat} (hk : k < n + 1) :
    ∀ i : Nat, (-(130000000000000000 * i) ≤ (oS' p n ws T i k).1 ∧ (oS' p n ws T i k).1 ≤ 130000000000000000 * i) ∧ (-T < (oS' p n ws T i k).2 ∧ (oS' p n ws T i k).2 < T)
  | 0 => by simp [oS']; omega
  | i + 1 => by
    obtain ⟨h1, h2⟩ := oS_bound hp hn hT hw hk i
    have h3 := whole_bound ⟨(hw i).1, (hw i).2.1⟩ hT.1 (krN_bound (p := p) (i := i) hp hn hk)
    have h4 := part_bound (K := krN p n i k) ⟨(hw i).1, (hw i).2.2⟩ hT
    have h5 := tmod_range (rest1 (ws.getD i 0) (krN p n i k) (oS' p n ws T i k).2 T) T hT.1
    have h6 := tdiv_bound (x := rest1 (ws.getD i 0) (krN p n i k) (oS' p n ws T i k).2 T) (C := 120000000000000000) hT.1 (by unfold rest1; omega)
    simp only [oS']
    constructor
    · push_cast; omega
    · omega

/-! ### the end -/
theorem dvd_of_sum {O R S T : Int} (h : O * T + R = S) : T ∣ S ↔ T ∣ R := by
  rw [← h]
  exact ⟨fun hd => by have := Int.dvd_sub hd (Int.dvd_mul_left O T); rwa [show O * T + R - O * T = R by omega] at this, fun hd => Int.dvd_add (Int.dvd_mul_left O T) hd⟩
theorem quo_of_sum {O R S T : Int} (hT : 0 < T) (h : O * T + R = S) : S / T = O + R / T := by
  rw [← h, Int.add_comm, Int.add_mul_ediv_right _ _ (by omega)]; omega
theorem small_dvd {R T : Int} (h : -T < R ∧ R < T) : T ∣ R ↔ R = 0 := by
  refine ⟨fun ⟨c, hc⟩ => ?_, fun h => by rw [h]; exact Int.dvd_zero T⟩
  rcases Int.lt_trichotomy c 0 with h0 | h0 | h0
  · have : T * c ≤ T * (-1) := Int.mul_le_mul_of_nonneg_left (by omega) (by omega)
    omega
  · rw [hc, h0]; simp
  · have : T * 1 ≤ T * c := Int.mul_le_mul_of_nonneg_left (by omega) (by omega)
    omega

end Go.Sm

namespace Go.Sm
open Go.RowKit

variable {P : Program} {N : Nat} {w0 : Base} {s : St} {a : Act} {w : World} {β : Nat → Value}

def tkAt (tk : List (List Nat)) (i : Nat) : List Nat := (tk[i]?).getD []
def badR3 (ops : List Oper) (m : Nat) (rows : List (List Nat)) (i : Nat) : List Nat := ((List.range m).filter fun j => !(row rows i).elem j).filterMap fun j => (ops[j]?).bind (·.dst)
def hidR (m : Nat) (rows tk : List (List Nat)) (alts : List (Nat × Nat × Nat)) (i : Nat) : List Nat := ((List.range m).filter fun j => !(row rows i).elem j && !(row rows j).elem i && !Nat.beq j i).flatMap fun j => (tkAt tk j).filter fun x => !(lk alts i == some (j, x))

def cut2 (bad hid : List Nat) (s : St) : St := ⟨s.tm.filter (fun p => !bad.elem p.1), s.ob.filter (fun p => !bad.elem (p.1 / 64) && !hid.elem p.1)⟩
def nsOk3 (d : Option Nat) (tk : List Nat) (ns : List (Nat × Ob)) : Bool := ns.all fun p => d == some (p.1 / 64) || tk.elem p.1
/-- What op i writes, if it was told ahead. -/
def noOk (no : List (Nat × Ob)) (tk : List Nat) (i : Nat) (ns : List (Nat × Ob)) : Prop := match lk no i with
  | none => True
  | some ob => ∀ x ∈ tk, lk ns x = some ob

/-- One operation, wherever no less is known than in t. -/
def GoodOp3 (F : Fn) (w0 : Base) (Q : Exit → Act → World → Prop) (all : Array Oper) (i : Nat) (t : St) (d : Option Nat) (v : FV) (ns : List (Nat × Ob)) (fk : List Nat) : Prop :=
  ∀ s a w β (K : Act → World → Prop), Rel F.N w0 s a w β → Le (lk t.tm) (lk s.tm) → Le (lk t.ob) (lk s.ob) → (∀ x ∈ fk, lk s.ob x = none) →
    (∀ a' w' β', Rel F.N w0 ((⟨s.tm, ns ++ s.ob⟩ : St).put d v) a' w' β' → K a' w') → wpOp F.P all Q i K a w

/-- The same where another operation, of no known order, may have written. -/
def AltOp (F : Fn) (w0 : Base) (Q : Exit → Act → World → Prop) (all : Array Oper) (alts : List (Nat × Nat × Nat)) (no : List (Nat × Ob)) (i : Nat) (b h : List Nat) (s : St) (d : Option Nat) (v : FV) (ns : List (Nat × Ob)) (fk : List Nat) : Prop :=
  match lk alts i with
  | none => True
  | some (j, x) => match lk no j with
    | some ob => GoodOp3 F w0 Q all i (cut2 b h ⟨s.tm, (x, ob) :: s.ob⟩) d v ns fk
    | none => False

/-- The quiet operations in the order of the list, and what comes then. -/
def DrS3 (F : Fn) (w0 : Base) (Q : Exit → Act → World → Prop) (all : Array Oper) (k : List It) (m : Nat) (tk : List (List Nat)) (alts : List (Nat × Nat × Nat)) (no : List (Nat × Ob)) : List (List Nat) → List (List Nat) → Nat → List Oper → St → Prop
  | _, _, _, [], s => J F.P F.N w0 (cont F.P F.N w0 Q k) [.ops all (all.toList.drop m)] s
  | b :: bs, h :: hs, i, o :: os, s => ∃ v ns fk, (∀ x ∈ fk, o.dst = some (x / 64) ∧ lk s.ob x = none) ∧ nsOk3 o.dst (tkAt tk i) ns = true ∧ GoodOp3 F w0 (cont F.P F.N w0 Q k) all i (cut2 b h s) o.dst v ns fk ∧
      AltOp F w0 (cont F.P F.N w0 Q k) all alts no i b h s o.dst v ns fk ∧ noOk no (tkAt tk i) i ns ∧ DrS3 F w0 Q all k m tk alts no bs hs (i + 1) os ((⟨s.tm, ns ++ s.ob⟩ : St).put o.dst v)
  | _, _, _, _ :: _, _ => False

def drawOk3 (ops : List Oper) (m : Nat) (rows bs tk hs : List (List Nat)) (alts : List (Nat × Nat × Nat)) : Bool :=
  Nat.ble m ops.length && nodupB ((ops.take m).filterMap (·.dst)) &&
  ((List.range ops.length).all fun i => (aftI ops i).all fun j => Nat.blt j i) &&
  ((List.range ops.length).all fun j => Nat.blt j m || (List.range j).all fun i => (row rows j).elem i) &&
  ((List.range ops.length).all fun i => (row rows i).all fun j => (aftI ops i).elem j || (aftI ops i).any fun k => (row rows k).elem j) &&
  (bs == (List.range m).map (badR3 ops m rows)) && (hs == (List.range m).map (hidR m rows tk alts)) &&
  ((List.range m).all fun j => (tkAt tk j).all fun x => (List.range m).all fun i => (!((ops[i]?).bind (·.dst) == some (x / 64)) || (row rows j).elem i)) &&
  ((List.range m).all fun j => (tkAt tk j).all fun x => (List.range j).all fun i => (!(tkAt tk i).elem x || (row rows j).elem i)) &&
  (alts.all fun q => Nat.blt q.1 q.2.1 && Nat.blt q.2.1 m && (tkAt tk q.2.1).elem q.2.2 && !(tkAt tk q.1).elem q.2.2 && ((List.range m).all fun j => (!(tkAt tk j).elem q.2.2 || Nat.ble j q.2.1)))

/-- The state s is s0 with the outcomes of the operations in D. -/
structure Kn3 (m : Nat) (d : Nat → Option Nat) (v : Nat → FV) (ns : Nat → List (Nat × Ob)) (s0 : St) (D : Nat → Prop) (s : St) : Prop where
  t1 : ∀ i < m, D i → ∀ x, d i = some x → lk s.tm x = some (v i)
  t2 : ∀ x, (∀ i < m, D i → d i ≠ some x) → lk s.tm x = lk s0.tm x
  o1 : ∀ x, ∀ i < m, D i → x ∈ (ns i).map (·.1) → (∀ j < m, D j → x ∈ (ns j).map (·.1) → j ≤ i) → lk s.ob x = lk (ns i) x
  o2 : ∀ x, (∀ i < m, D i → x ∉ (ns i).map (·.1)) → lk s.ob x = lk s0.ob x

theorem greatest {p : Nat → Prop} : ∀ (m : Nat), (∃ i, i < m ∧ p i) → ∃ i, i < m ∧ p i ∧ ∀ j < m, p j → j ≤ i
  | 0, ⟨i, h, _⟩ => absurd h (Nat.not_lt_zero _)
  | m + 1, ⟨i, h, hp⟩ => by
    by_cases hm : p m
    · exact ⟨m, Nat.lt_succ_self m, hm, fun j hj _ => Nat.le_of_lt_succ hj⟩
    · have hi : i < m := by
        rcases Nat.lt_or_ge i m with h' | h'
        · exact h'
        · exact absurd (by rwa [show i = m by omega] at hp) hm
      obtain ⟨g, g1, g2, g3⟩ := greatest m ⟨i, hi, hp⟩
      refine ⟨g, Nat.lt_succ_of_lt g1, g2, fun j hj hpj => ?_⟩
      rcases Nat.lt_or_ge j m with h' | h'
      · exact g3 j h' hpj
      · exact absurd (by rwa [show j = m by omega] at hpj) hm

variable {m : Nat} {d : Nat → Option Nat} {v : Nat → FV} {ns : Nat → List (Nat × Ob)} {s0 : St} {D D' : Nat → Prop}

theorem Kn3.step (K : Kn3 m d v ns s0 D s) (hd : ∀ i < m, ∀ j < m, ∀ x, d i = some x → d j = some x → i = j) {i : Nat} (hi : i < m)
    (hord : ∀ j < m, D j → ∀ x, x ∈ (ns j).map (·.1) → x ∈ (ns i).map (·.1) → j ≤ i) (hD' : ∀ j < m, D' j ↔ D j ∨ j = i) :
    Kn3 m d v ns s0 D' ((⟨s.tm, ns i ++ s.ob⟩ : St).put (d i) (v i)) := by
  have hob : ((⟨s.tm, ns i ++ s.ob⟩ : St).put (d i) (v i)).ob = ns i ++ s.ob := by cases d i <;> rfl
  have htm : ∀ x, lk ((⟨s.tm, ns i ++ s.ob⟩ : St).put (d i) (v i)).tm x = if d i = some x then some (v i) else lk s.tm x := by
    intro x
    cases hdi : d i with
    | none => simp [St.put]
    | some y =>
      simp only [St.put, lk_cons, Option.some.injEq]
  have hself : D' i := (hD' i hi).2 (.inr rfl)
  refine ⟨?_, ?_, ?_, ?_⟩
  · intro j hj hDj x hx
    rw [htm]
    by_cases e : j = i
    · subst e; rw [if_pos hx]
    · have : D j := ((hD' j hj).1 hDj).resolve_right e
      rw [if_neg (fun h => e (hd j hj i hi x hx h))]
      exact K.t1 j hj this x hx
  · intro x hx
    rw [htm, if_neg (hx i hi hself)]
    exact K.t2 x fun j hj hDj => hx j hj ((hD' j hj).2 (.inl hDj))
  · intro x j hj hDj hxj hgr
    rw [hob, lk_append]
    by_cases e : j = i
    · subst e
      cases hl : lk (ns j) x with
      | none => exact absurd hxj (lk_none_iff.1 hl)
      | some o => rfl
    · have hDj' : D j := ((hD' j hj).1 hDj).resolve_right e
      have hxi : x ∉ (ns i).map (·.1) := by
        intro hxi
        have h1 := hgr i hi hself hxi
        have h2 := hord j hj hDj' x hxj hxi
        exact e (by omega)
      rw [lk_none_iff.2 hxi]
      exact K.o1 x j hj hDj' hxj fun j' hj' hD hx' => hgr j' hj' ((hD' j' hj').2 (.inl hD)) hx'
  · intro x hx
    rw [hob, lk_append, lk_none_iff.2 (hx i hi hself)]
    exact K.o2 x fun j hj hDj => hx j hj ((hD' j hj).2 (.inl hDj))

theorem Kn3.tm_eq {s' : St} (K : Kn3 m d v ns s0 D s) (K' : Kn3 m d v ns s0 D' s') (h : ∀ i < m, D i ↔ D' i) (x : Nat) : lk s'.tm x = lk s.tm x := by
  by_cases hx : ∃ i, i < m ∧ D i ∧ d i = some x
  · obtain ⟨i, hi, hD, hd⟩ := hx
    rw [K.t1 i hi hD x hd, K'.t1 i hi ((h i hi).1 hD) x hd]
  · rw [K.t2 x fun i hi hD e => hx ⟨i, hi, hD, e⟩, K'.t2 x fun i hi hD e => hx ⟨i, hi, (h i hi).2 hD, e⟩]

/-- Two states of which the same operations have written at x know the same of x. -/
theorem Kn3.ob_at {s' : St} {x : Nat} (K : Kn3 m d v ns s0 D s) (K' : Kn3 m d v ns s0 D' s') (h : ∀ i < m, x ∈ (ns i).map (·.1) → (D i ↔ D' i)) : lk s.ob x = lk s'.ob x := by
  by_cases hx : ∃ i, i < m ∧ (D i ∧ x ∈ (ns i).map (·.1))
  · obtain ⟨g, g1, ⟨g2, g3⟩, g4⟩ := greatest m hx
    rw [K.o1 x g g1 g2 g3 fun j hj hD hk => g4 j hj ⟨hD, hk⟩, K'.o1 x g g1 ((h g g1 g3).1 g2) g3 fun j hj hD hk => g4 j hj ⟨(h j hj hk).2 hD, hk⟩]
  · rw [K.o2 x fun i hi hD e => hx ⟨i, hi, hD, e⟩, K'.o2 x fun i hi hD e => hx ⟨i, hi, (h i hi e).2 hD, e⟩]

theorem DrS3.get {F : Fn} {Q : Exit → Act → World → Prop} {all : Array Oper} {k : List It} {m : Nat} {tk : List (List Nat)} {alts : List (Nat × Nat × Nat)} {no : List (Nat × Ob)} : ∀ {os : List Oper} {bs hs : List (List Nat)} {i : Nat} {s : St}, DrS3 F w0 Q all k m tk alts no bs hs i os s →
    ∃ (d : Nat → Option Nat) (v : Nat → FV) (ns : Nat → List (Nat × Ob)) (fk : Nat → List Nat) (st : Nat → St), st i = s ∧
      (∀ j, i ≤ j → j < i + os.length → (∀ o, os[j - i]? = some o → o.dst = d j) ∧ (∀ x ∈ fk j, d j = some (x / 64) ∧ lk (st j).ob x = none) ∧ nsOk3 (d j) (tkAt tk j) (ns j) = true ∧
        (∀ b h, bs[j - i]? = some b → hs[j - i]? = some h → GoodOp3 F w0 (cont F.P F.N w0 Q k) all j (cut2 b h (st j)) (d j) (v j) (ns j) (fk j) ∧ AltOp F w0 (cont F.P F.N w0 Q k) all alts no j b h (st j) (d j) (v j) (ns j) (fk j)) ∧
        noOk no (tkAt tk j) j (ns j) ∧ st (j + 1) = (⟨(st j).tm, ns j ++ (st j).ob⟩ : St).put (d j) (v j)) ∧
      J F.P F.N w0 (cont F.P F.N w0 Q k) [.ops all (all.toList.drop m)] (st (i + os.length))
  | [], bs, hs, i, s, h => by
    have h : J F.P F.N w0 (cont F.P F.N w0 Q k) [.ops all (all.toList.drop m)] s := by cases bs <;> cases hs <;> simpa only [DrS3] using h
    exact ⟨fun _ => none, fun _ => .und, fun _ => [], fun _ => [], fun _ => s, rfl, fun j h1 h2 => by simp at h2; omega, h⟩
  | o :: os, [], hs, i, s, h => by simp only [DrS3] at h
  | o :: os, _ :: _, [], i, s, h => by simp only [DrS3] at h
  | o :: os, b :: bs, h' :: hs, i, s, h => by
    simp only [DrS3] at h
    obtain ⟨v0, ns0, fk0, h3, h4, h5, ha, hn, h6⟩ := h
    obtain ⟨d, v, ns, fk, st, g1, g2, g3⟩ := DrS3.get h6
    refine ⟨fun j => if j = i then o.dst else d j, fun j => if j = i then v0 else v j, fun j => if j = i then ns0 else ns j, fun j => if j = i then fk0 else fk j, fun j => if j = i then s else st j, by simp, ?_, ?_⟩
    · intro j hj1 hj2
      by_cases e : j = i
      · subst e
        simp only [if_true, Nat.sub_self]
        refine ⟨fun o' ho' => by simp at ho'; subst ho'; rfl, h3, h4, fun b' h'' hb' hh' => by simp at hb' hh'; subst hb'; subst hh'; exact ⟨h5, ha⟩, hn, ?_⟩
        rw [if_neg (by omega)]; exact g1
      · simp only [if_neg e]
        rw [if_neg (by omega)]
        have := g2 j (by omega) (by simp at hj2; omega)
        have hs : j - i = (j - (i + 1)) + 1 := by omega
        rw [hs]
        simpa using this
    · have e : i + (o :: os).length = i + 1 + os.length := by simp; omega
      have hne : ¬ i + (o :: os).length = i := by simp
      show J _ _ _ _ _ (if i + (o :: os).length = i then s else st (i + (o :: os).length))
      rw [if_neg hne, e]; exact g3

theorem getD_flip {listed : Array Bool} {i : Nat} (hi : i < listed.size) (b c : Bool) : listed.getD i b = listed.getD i c := by
  rw [Array.getD_eq_getD_getElem?, Array.getD_eq_getD_getElem?]; simp [hi]

theorem lk_mem2 {α : Type} : ∀ {l : List (Nat × α)} {i : Nat} {q : α}, lk l i = some q → (i, q) ∈ l
  | [], _, _, h => by simp [lk] at h
  | (y, z) :: l, i, q, h => by
    rw [lk_cons] at h
    split at h
    · rename_i e; subst e
      simp only [Option.some.injEq] at h; subst h
      exact List.mem_cons_self ..
    · exact List.mem_cons_of_mem _ (lk_mem2 h)

/-- THE DRAWN ORDER: operations that may write, in the order of the list; then the rest. -/
theorem J.draw3 {F : Fn} {Q : Exit → Act → World → Prop} {id : Nat} {ops : Array Oper} {k : List It} (hmix : F.P.follows .mixedOrders = true) (m : Nat) (rows bs tk hs : List (List Nat)) (alts : List (Nat × Nat × Nat)) (no : List (Nat × Ob))
    (hok : drawOk3 ops.toList m rows bs tk hs alts = true)
    (h : DrS3 F w0 Q ops k m tk alts no bs hs 0 (ops.toList.take m) s) : J F.P F.N w0 Q (.code (.region id ops true) :: k) s := by
  simp only [drawOk3, Bool.and_eq_true, List.all_eq_true, List.mem_range, Bool.or_eq_true] at hok
  obtain ⟨⟨⟨⟨⟨⟨⟨⟨⟨hm, hnd⟩, hpre⟩, hrow⟩, hrows⟩, hbs⟩, hhs⟩, htd⟩, htt⟩, hal⟩ := hok
  have hbs : bs = (List.range m).map (badR3 ops.toList m rows) := by simpa using hbs
  have hhs : hs = (List.range m).map (hidR m rows tk alts) := by simpa using hhs
  have hm : m ≤ ops.size := by simpa using Nat.le_of_ble_eq_true hm
  have hlen : (ops.toList.take m).length = m := by simp; omega
  obtain ⟨d, v, ns, fk, st, g1, g2, g3⟩ := DrS3.get h
  simp only [Nat.zero_add, hlen] at g2 g3
  have hop : ∀ i < m, ∃ o, ops[i]? = some o ∧ o.dst = d i ∧ (ops.toList.take m)[i]? = some o := by
    intro i hi
    have hs : i < ops.size := by omega
    refine ⟨ops[i], by simp [hs], ?_, by simp [hi, hs]⟩
    exact (g2 i (Nat.zero_le _) hi).1 _ (by simp [hi, hs])
  have hdst : ∀ i < m, (ops.toList[i]?).bind (·.dst) = d i := by
    intro i hi
    obtain ⟨o, h1, h2, _⟩ := hop i hi
    simp [h1, h2]
  have hd : ∀ i < m, ∀ j < m, ∀ x, d i = some x → d j = some x → i = j := by
    have hnd' := nodupB_iff hnd
    have key : ∀ i < m, ∀ j < m, i < j → ∀ x, d i = some x → d j = some x → False := by
      intro i hi j hj hij x hx hx'
      have hp := (List.pairwise_filterMap.1 hnd')
      have := List.pairwise_iff_getElem.1 hp i j (by rw [hlen]; exact hi) (by rw [hlen]; exact hj) hij
      obtain ⟨o, h1, h2, h3⟩ := hop i hi
      obtain ⟨o', h1', h2', h3'⟩ := hop j hj
      have e1 := (List.getElem?_eq_some_iff.1 h3).2
      have e2 := (List.getElem?_eq_some_iff.1 h3').2
      rw [e1, e2] at this
      exact this x (h2.trans hx) x (h2'.trans hx') rfl
    intro i hi j hj x hx hx'
    rcases Nat.lt_trichotomy i j with hlt | he | hgt
    · exact (key i hi j hj hlt x hx hx').elim
    · exact he
    · exact (key j hj i hi hgt x hx' hx).elim
  have hn : ∀ i < m, ∀ x ∈ (ns i).map (·.1), d i = some (x / 64) ∨ x ∈ tkAt tk i := by
    intro i hi x hx
    obtain ⟨p, hp, rfl⟩ := List.mem_map.1 hx
    have := (List.all_eq_true.1 (g2 i (Nat.zero_le _) hi).2.2.1) p hp
    simp only [Bool.or_eq_true] at this
    exact this.imp (fun h => by simpa using h) elem_iff.1
  have htd' : ∀ j < m, ∀ x ∈ tkAt tk j, ∀ i < m, d i = some (x / 64) → i ∈ row rows j := by
    intro j hj x hx i hi e
    have := htd j hj x hx i hi
    rw [hdst i hi, e] at this
    simpa using this
  have htt' : ∀ j < m, ∀ x ∈ tkAt tk j, ∀ i < j, x ∈ tkAt tk i → i ∈ row rows j := by
    intro j hj x hx i hi hx'
    have := htt j hj x hx i hi
    rw [elem_iff.2 hx'] at this
    simpa using this
  have hpre' : ∀ i < ops.size, ∀ j ∈ aftI ops.toList i, j < i := by
    intro i hi j hj
    have := hpre i (by simpa using hi) j hj
    simpa [Nat.blt_eq] using this
  have hinv : ∀ {x : Nat} {o : Oper}, ops[x]? = some o → ∀ y, y ∈ aftI ops.toList x ↔ ∃ e ∈ o.after, Region.binds .any e = true ∧ e.on = y := by
    intro x o ho y
    simp only [aftI, Array.getElem?_toList, ho, Option.map_some, Option.getD_some, aft, List.mem_map, List.mem_filter]
    constructor
    · rintro ⟨e, ⟨h1, h2⟩, h3⟩; exact ⟨e, by simpa using h1, h2, h3⟩
    · rintro ⟨e, h1, h2, h3⟩; exact ⟨e, ⟨by simpa using h1, h2⟩, h3⟩
  have haft : ∀ j o, ops[j]? = some o → ∀ e ∈ o.after, Region.binds .any e = true → e.on < j := by
    intro j o ho e he hb
    have hj : j < ops.size := (Array.getElem?_eq_some_iff.1 ho).1
    exact hpre' j hj e.on ((hinv ho _).2 ⟨e, he, hb, rfl⟩)
  have hAn : ∀ i, i < ops.size → ∀ j ∈ row rows i, An ops.toList j i := by
    intro i
    induction i using Nat.strongRecOn with
    | _ i ih =>
      intro hi j hj
      rcases hrows i (by simpa using hi) j hj with hd' | hex
      · exact .d (elem_iff.1 hd')
      · obtain ⟨k, hk, hjk⟩ := List.any_eq_true.1 hex
        have hki := hpre' i hi k hk
        exact .t (ih k hki (by omega) j (elem_iff.1 hjk)) hk
  have hrow' : ∀ j, m ≤ j → j < ops.size → ∀ i < j, An ops.toList i j := by
    intro j hmj hj i hi
    rcases hrow j (by simpa using hj) with hb | hall
    · have : j < m := by simpa [Nat.blt_eq] using hb
      omega
    · exact hAn j hj i (elem_iff.1 (hall i hi))
  have hAnlt : ∀ {x y : Nat}, An ops.toList x y → y < ops.size → x < y := by
    intro x y h
    induction h with
    | @d i' h => intro hy; exact hpre' i' hy x h
    | @t k i' _ h2 ih =>
      intro hy
      have := hpre' i' hy k h2
      have := ih (by omega)
      omega
  have hrowlt : ∀ i < m, ∀ j ∈ row rows i, j < i := fun i hi j hj => hAnlt (hAn i (by omega) j hj) (by omega)
  have hnslt : ∀ i < m, ∀ j < m, ∀ x, x ∈ (ns j).map (·.1) → x ∈ (ns i).map (·.1) → i < j → i ∈ row rows j := by
    intro i hi j hj x hxj hxi hij
    rcases hn j hj x hxj with h1 | h1
    · rcases hn i hi x hxi with h2 | h2
      · exact absurd (hd i hi j hj _ h2 h1) (by omega)
      · have := hrowlt i hi j (htd' i hi x h2 j hj h1); omega
    · rcases hn i hi x hxi with h2 | h2
      · exact htd' j hj x h1 i hi h2
      · exact htt' j hj x h1 i hij h2
  have hst : ∀ j, j ≤ m → Kn3 m d v ns s (fun i => i < j) (st j) := by
    intro j
    induction j with
    | zero =>
      intro _
      rw [g1]
      exact ⟨fun i _ h => absurd h (Nat.not_lt_zero _), fun _ _ => rfl, fun _ i _ h => absurd h (Nat.not_lt_zero _), fun _ _ => rfl⟩
    | succ j ih =>
      intro hj
      rw [(g2 j (Nat.zero_le _) hj).2.2.2.2.2]
      exact (ih (Nat.le_of_succ_le hj)).step hd hj (fun j' _ hlt _ _ _ => Nat.le_of_lt hlt) fun i _ => by omega
  intro a w β R
  simp only [cont]
  refine wp_region_any hmix ?_
  have R' : Rel F.N w0 s a { w with drawn := w.drawn + 1 } β := R.world ⟨⟨rfl, rfl, rfl, Nat.le_refl _, fun _ _ => rfl⟩, Nat.le_succ _⟩
  generalize ({ w with drawn := w.drawn + 1 } : World) = w at R'
  clear R
  have fin : ∀ (fuel : Nat) (listed : Array Bool) (s' : St) (a : Act) (w : World) (β : Nat → Value), listed.size = ops.size → left ops.size listed ≤ fuel → (∀ j, m ≤ j → j < ops.size → listed.getD j true = false) →
      Kn3 m d v ns s (fun i => listed.getD i false = true) s' → Rel F.N w0 s' a w β → (∀ i < m, listed.getD i false = true) → wpAny F.P .any ops (cont F.P F.N w0 Q k) fuel listed a w := by
    intro fuel listed s' a w β hsz hle hun K R hdone
    have hiff : ∀ i < m, (i < m ↔ listed.getD i false = true) := fun i hi => ⟨fun _ => hdone i hi, fun _ => hi⟩
    have R2 := R.ext (s' := st m) (fun t => K.tm_eq (hst m (Nat.le_refl _)) (fun i hi => (hiff i hi).symm) t) (fun t => K.ob_at (hst m (Nat.le_refl _)) (fun i hi _ => (hiff i hi).symm))
    have := g3 a w β R2
    simp only [cont] at this
    exact wpAny_row hrow' haft (ops.size - m) m _ listed a w (by omega) (Nat.le_refl _) hsz hle hdone hun this
  have main : ∀ (fuel : Nat) (listed : Array Bool) (s' : St) (a : Act) (w : World) (β : Nat → Value), listed.size = ops.size → left ops.size listed ≤ fuel →
      (∀ j, m ≤ j → j < ops.size → listed.getD j true = false) → (∀ x, listed.getD x false = true → ∀ y ∈ aftI ops.toList x, listed.getD y false = true) → Kn3 m d v ns s (fun i => listed.getD i false = true) s' → Rel F.N w0 s' a w β → wpAny F.P .any ops (cont F.P F.N w0 Q k) fuel listed a w := by
    intro fuel
    induction fuel with
    | zero =>
      intro listed s' a w β hsz hle hun hcl K R
      refine fin 0 listed s' a w β hsz hle hun K R fun i hi => ?_
      have hs : i < listed.size := by omega
      cases hb : listed.getD i true with
      | true => rw [getD_flip hs false true]; exact hb
      | false => have := left_pos (by omega : i < ops.size) hb; omega
    | succ fuel ih =>
      intro listed s' a w β hsz hle hun hcl K R
      by_cases hdone : ∀ i < m, listed.getD i false = true
      · exact fin _ listed s' a w β hsz hle hun K R hdone
      · have hex : ∃ i, i < m ∧ listed.getD i false = false := by
          refine Classical.byContradiction fun hc => hdone fun i hi => ?_
          cases hb : listed.getD i false with
          | true => rfl
          | false => exact absurd ⟨i, hi, hb⟩ hc
        have hleast : ∃ i, i < m ∧ listed.getD i false = false ∧ ∀ j < i, listed.getD j false = true := by
          obtain ⟨i, hi⟩ := hex
          induction i using Nat.strongRecOn with
          | _ i ihi =>
            by_cases hj : ∃ j, j < i ∧ listed.getD j false = false
            · obtain ⟨j, hj1, hj2⟩ := hj
              exact ihi j hj1 ⟨by omega, hj2⟩
            · refine ⟨i, hi.1, hi.2, fun j hj' => ?_⟩
              cases hb : listed.getD j false with
              | true => rfl
              | false => exact absurd ⟨j, hj', hb⟩ hj
        obtain ⟨i0, hi0, hu0, hb0⟩ := hleast
        refine ⟨fun hnil => ?_, fun i hi => ?_⟩
        · have : i0 ∈ Region.ready .any ops listed := by
            obtain ⟨o, ho, _⟩ := hop i0 hi0
            exact ready_iff.2 ⟨by omega, by rw [getD_flip (by omega) true false]; exact hu0, o, ho, fun e he hb => hb0 _ (haft i0 o ho e he hb)⟩
          rw [hnil] at this; cases this
        · obtain ⟨r1, r2, o, ho, r3⟩ := ready_iff.1 hi
          have him : i < m := by
            refine Nat.lt_of_not_le fun hge => ?_
            have := (hrow' i hge r1 i0 (by omega)).listed (L := fun x => listed.getD x false = true) hcl (fun y hy => by
              obtain ⟨e, he, hb, rfl⟩ := (hinv ho y).1 hy
              exact r3 e he hb)
            rw [hu0] at this; cases this
          have g := g2 i (Nat.zero_le _) him
          have hbsi : bs[i - 0]? = some (badR3 ops.toList m rows i) := by
            rw [hbs, Nat.sub_zero, List.getElem?_map, List.getElem?_range him]; rfl
          have hhsi : hs[i - 0]? = some (hidR m rows tk alts i) := by
            rw [hhs, Nat.sub_zero, List.getElem?_map, List.getElem?_range him]; rfl
          obtain ⟨good, alt⟩ := g.2.2.2.1 _ _ hbsi hhsi
          have Ki := hst i (Nat.le_of_lt him)
          have hbad : ∀ j < m, ∀ x, d j = some x → x ∉ badR3 ops.toList m rows i → j ∈ row rows i := by
            intro j hj x hx hnb
            refine Classical.byContradiction fun hc => hnb ?_
            simp only [badR3, List.mem_filterMap, List.mem_filter, List.mem_range]
            refine ⟨j, ⟨hj, ?_⟩, (hdst j hj).trans hx⟩
            have : ¬ (row rows i).elem j = true := fun h => hc (elem_iff.1 h)
            simpa using this
          have hhid : ∀ j < m, j ≠ i → ∀ x ∈ tkAt tk j, x ∉ hidR m rows tk alts i → j ∈ row rows i ∨ i ∈ row rows j ∨ lk alts i = some (j, x) := by
            intro j hj hne x hx hnh
            refine Classical.byContradiction fun hc => hnh ?_
            simp only [not_or] at hc
            simp only [hidR, List.mem_flatMap, List.mem_filter, List.mem_range]
            refine ⟨j, ⟨hj, ?_⟩, hx, ?_⟩
            · have h1 : ¬ (row rows i).elem j = true := fun h => hc.1 (elem_iff.1 h)
              have h3 : ¬ (row rows j).elem i = true := fun h => hc.2.1 (elem_iff.1 h)
              have h2 : Nat.beq j i = false := by
                cases hb : Nat.beq j i with
                | false => rfl
                | true => exact absurd (nat_beq hb) hne
              rw [h2]
              simpa using And.intro h1 h3
            · simpa using hc.2.2
          have hdir : ∀ y ∈ aftI ops.toList i, listed.getD y false = true := fun y hy => by
            obtain ⟨e, he, hb, rfl⟩ := (hinv ho y).1 hy
            exact r3 e he hb
          have haftD : ∀ j, j ∈ row rows i → j < i ∧ listed.getD j false = true := by
            intro j hj
            have hA := hAn i r1 j hj
            exact ⟨hAnlt hA r1, hA.listed (L := fun x => listed.getD x false = true) hcl hdir⟩
          have hul : ¬ listed.getD i false = true := by rw [getD_flip (by omega) false true, r2]; simp
          -- what is done before i when something before j is
          have hbef : ∀ j < m, i ∈ row rows j → ¬ listed.getD j false = true := by
            intro j hj hij hl
            exact hul ((hAn j (by omega) i hij).listed (L := fun x => listed.getD x false = true) hcl (fun y hy => hcl j hl y hy))
          have hLt : Le (lk (st i).tm) (lk (st i).tm) := fun _ _ h => h
          have htmLe : ∀ x f, ¬ x ∈ badR3 ops.toList m rows i → lk (st i).tm x = some f → lk s'.tm x = some f := by
            intro x f hnb hx
            by_cases hxi : ∃ j, j < m ∧ d j = some x
            · obtain ⟨j, hj, hdj⟩ := hxi
              obtain ⟨hji, hjl⟩ := haftD j (hbad j hj x hdj hnb)
              rw [Ki.t1 j hj hji x hdj] at hx
              rw [K.t1 j hj hjl x hdj]; exact hx
            · have hno : ∀ j < m, d j ≠ some x := fun j hj e => hxi ⟨j, hj, e⟩
              rw [Ki.t2 x fun j hj _ => hno j hj] at hx
              rw [K.t2 x fun j hj _ => hno j hj]; exact hx
          have hobEq : ∀ x, ¬ x / 64 ∈ badR3 ops.toList m rows i → ¬ x ∈ hidR m rows tk alts i → (∀ j, lk alts i = some (j, x) → ¬ listed.getD j false = true) → (∀ j, lk alts i = some (j, x) → i < j) → lk (st i).ob x = lk s'.ob x := by
            intro x hnb hnh hal1 hal2
            refine Ki.ob_at K fun j hj hk => ?_
            have hcase : j = i ∨ j ∈ row rows i ∨ i ∈ row rows j ∨ lk alts i = some (j, x) := by
              by_cases e : j = i
              · exact .inl e
              · rcases hn j hj x hk with h1 | h1
                · exact .inr (.inl (hbad j hj _ h1 hnb))
                · exact .inr (hhid j hj e x h1 hnh)
            rcases hcase with rfl | h1 | h1 | h1
            · exact ⟨fun h => absurd h (Nat.lt_irrefl _), fun h => absurd h hul⟩
            · obtain ⟨q1, q2⟩ := haftD j h1
              exact ⟨fun _ => q2, fun _ => q1⟩
            · have := hrowlt j hj i h1
              exact ⟨fun h => absurd h (by omega), fun h => absurd h (hbef j hj h1)⟩
            · have q1 := hal1 j h1
              have q2 := hal2 j h1
              exact ⟨fun h => absurd h (by omega), fun h => absurd h q1⟩
          have hfr : ∀ x ∈ fk i, lk s'.ob x = none := by
            intro x hx
            obtain ⟨hxd, hxn⟩ := g.2.1 x hx
            rw [← hxn]
            refine (Ki.ob_at K fun j hj hk => ?_).symm
            rcases hn j hj x hk with h1 | h1
            · have e := hd j hj i him _ h1 hxd
              subst e
              exact ⟨fun h => absurd h (Nat.lt_irrefl _), fun h => absurd h hul⟩
            · have hij := htd' j hj x h1 i him hxd
              have := hrowlt j hj i hij
              exact ⟨fun h => absurd h (by omega), fun h => absurd h (hbef j hj hij)⟩
          have hnext : ∀ a' w' β', Rel F.N w0 ((⟨s'.tm, ns i ++ s'.ob⟩ : St).put (d i) (v i)) a' w' β' → wpAny F.P .any ops (cont F.P F.N w0 Q k) fuel (listed.setIfInBounds i true) a' w' := by
            intro a' w' β' R'
            have hsi : i < listed.size := by omega
            refine ih _ _ a' w' β' (by simp [hsz]) (by have := left_set hsz r1 r2; omega) (fun j hj hjs => ?_) (fun x hx y hy => ?_) (K.step hd him (fun j hj hl x hxj hxi => ?_) fun j hj => ?_) R'
            · rw [getD_set hsi, if_neg (by omega)]; exact hun j hj hjs
            · rw [getD_set hsi] at hx ⊢
              split
              · rfl
              · by_cases e : i = x
                · subst e; exact hdir y hy
                · rw [if_neg e] at hx; exact hcl x hx y hy
            · refine Nat.le_of_not_lt fun hlt => ?_
              exact hbef j hj (hnslt i him j hj x hxj hxi hlt) hl
            · rw [getD_set hsi]
              by_cases e : i = j
              · simp [e]
              · simp [e, Ne.symm e]
          have htmcut : ∀ (ob : List (Nat × Ob)), Le (lk (cut2 (badR3 ops.toList m rows i) (hidR m rows tk alts i) ⟨(st i).tm, ob⟩).tm) (lk s'.tm) := by
            intro ob x f hx
            simp only [cut2] at hx
            rw [lk_filter (fun y => !(badR3 ops.toList m rows i).elem y)] at hx
            split at hx
            · rename_i hnb
              exact htmLe x f (fun h => by rw [elem_iff.2 h] at hnb; simp at hnb) hx
            · cases hx
          have hobcut : ∀ (ob : List (Nat × Ob)), (∀ x f, ¬ x / 64 ∈ badR3 ops.toList m rows i → ¬ x ∈ hidR m rows tk alts i → lk ob x = some f → lk s'.ob x = some f) →
              Le (lk (cut2 (badR3 ops.toList m rows i) (hidR m rows tk alts i) ⟨(st i).tm, ob⟩).ob) (lk s'.ob) := by
            intro ob hq x f hx
            simp only [cut2] at hx
            rw [lk_filter (fun y => !(badR3 ops.toList m rows i).elem (y / 64) && !(hidR m rows tk alts i).elem y)] at hx
            split at hx
            · rename_i hnb
              simp only [Bool.and_eq_true, Bool.not_eq_true'] at hnb
              exact hq x f (fun h => by rw [elem_iff.2 h] at hnb; simp at hnb) (fun h => by rw [elem_iff.2 h] at hnb; simp at hnb) hx
            · cases hx
          cases hlka : lk alts i with
          | none =>
            refine good s' a w β _ R (htmcut _) (hobcut _ fun x f h1 h2 hx => ?_) hfr hnext
            rw [← hobEq x h1 h2 (fun j h => by rw [hlka] at h; cases h) (fun j h => by rw [hlka] at h; cases h)]; exact hx
          | some q =>
            obtain ⟨j0, x0⟩ := q
            unfold AltOp at alt
            rw [hlka] at alt
            simp only at alt
            have hmem : (i, j0, x0) ∈ alts := lk_mem2 hlka
            have hq := hal _ hmem
            obtain ⟨⟨⟨⟨hq1, hq2⟩, hq3⟩, hq4⟩, hq5⟩ := hq
            have hq1 : i < j0 := by simpa [Nat.blt_eq] using hq1
            have hq2 : j0 < m := by simpa [Nat.blt_eq] using hq2
            have hq3 : x0 ∈ tkAt tk j0 := elem_iff.1 hq3
            have hq5 : ∀ j < m, x0 ∈ tkAt tk j → j ≤ j0 := by
              intro j hj hx
              have := hq5 j hj
              rw [elem_iff.2 hx] at this
              simpa [Nat.ble_eq] using this
            have hgt : ∀ x j, lk alts i = some (j, x) → i < j := by
              intro x j h
              rw [hlka] at h
              simp only [Option.some.injEq, Prod.mk.injEq] at h
              omega
            cases hno : lk no j0 with
            | none => rw [hno] at alt; exact alt.elim
            | some ob =>
              rw [hno] at alt
              by_cases hl0 : listed.getD j0 false = true
              · refine alt s' a w β _ R (htmcut _) (hobcut _ fun x f h1 h2 hx => ?_) hfr hnext
                rw [lk_cons] at hx
                split at hx
                · rename_i e; subst e
                  simp only [Option.some.injEq] at hx; subst hx
                  have hw := (g2 j0 (Nat.zero_le _) hq2).2.2.2.2.1
                  unfold noOk at hw
                  rw [hno] at hw
                  have hw := hw x0 hq3
                  rw [K.o1 x0 j0 hq2 hl0 ?_ ?_, hw]
                  · refine Classical.byContradiction fun hc => ?_
                    rw [lk_none_iff.2 hc] at hw; cases hw
                  · intro j hj hjl hk
                    rcases hn j hj x0 hk with h3 | h3
                    · exact Nat.le_of_lt (hrowlt j0 hq2 j (htd' j0 hq2 x0 hq3 j hj h3))
                    · exact hq5 j hj h3
                · rename_i e
                  rw [← hobEq x h1 h2 (fun j h => by rw [hlka] at h; simp only [Option.some.injEq, Prod.mk.injEq] at h; exact absurd h.2 e) (hgt x)]; exact hx
              · refine good s' a w β _ R (htmcut _) (hobcut _ fun x f h1 h2 hx => ?_) hfr hnext
                rw [← hobEq x h1 h2 (fun j h => by rw [hlka] at h; simp only [Option.some.injEq, Prod.mk.injEq] at h; rw [← h.1]; exact hl0) (hgt x)]; exact hx
  have hf0 : ∀ i, (Array.replicate ops.size false).getD i false = false := by
    intro i
    rw [Array.getD_eq_getD_getElem?]
    by_cases hi : i < ops.size <;> simp [hi]
  refine main ops.size _ s a w β (by simp) ?_ (fun j _ hj => by simp [hj]) (fun x hx => by rw [hf0] at hx; cases hx) ?_ R'
  · unfold left
    refine Nat.le_trans List.countP_le_length (by simp)
  · exact ⟨fun i _ h => absurd ((hf0 i).symm.trans h) (by simp), fun _ _ => rfl, fun _ i _ h => absurd ((hf0 i).symm.trans h) (by simp), fun _ _ => rfl⟩

end Go.Sm

namespace Go.Sm
open Go.RowKit

variable {w0 : Base} {s : St} {a : Act} {w : World} {β : Nat → Value}

theorem lk_cut2_tm (b h : List Nat) (s : St) (x : Nat) : lk (cut2 b h s).tm x = if (!b.elem x) = true then lk s.tm x else none := lk_filter (fun y => !b.elem y) s.tm x
theorem lk_cut2_ob (b h : List Nat) (s : St) (x : Nat) : lk (cut2 b h s).ob x = if (!b.elem (x / 64) && !h.elem x) = true then lk s.ob x else none := lk_filter (fun y => !b.elem (y / 64) && !h.elem y) s.ob x

/-- What may be read of the objects. -/
def obB2 (b h : List Nat) (s : St) (k : Nat) : Option Ob := match b.elem (k / 64) with
  | true => none
  | false => match h.elem k with
    | true => none
    | false => lk s.ob k
theorem tmB2_eq (b h : List Nat) (s : St) : lk (cut2 b h s).tm = tmB b s := by
  funext t
  rw [lk_cut2_tm, tmB]
  cases b.elem t <;> rfl
theorem obB2_eq (b h : List Nat) (s : St) : lk (cut2 b h s).ob = obB2 b h s := by
  funext t
  rw [lk_cut2_ob, obB2]
  cases b.elem (t / 64) <;> cases h.elem t <;> rfl
theorem opdB2_eq (b h : List Nat) (s : St) : (cut2 b h s).opd = opdB b s := by
  funext x
  cases x with
  | tmp t => show lk (cut2 b h s).tm t = tmB b s t; rw [tmB2_eq]
  | _ => rfl

theorem DrS3.ext {F : Fn} {Q : Exit → Act → World → Prop} {all : Array Oper} {k : List It} {m : Nat} {tk : List (List Nat)} {alts : List (Nat × Nat × Nat)} {no : List (Nat × Ob)} : ∀ {os : List Oper} {bs hs : List (List Nat)} {i : Nat} {s s' : St}, (∀ t, lk s'.tm t = lk s.tm t) → s'.ob = s.ob →
    DrS3 F w0 Q all k m tk alts no bs hs i os s → DrS3 F w0 Q all k m tk alts no bs hs i os s'
  | [], bs, hs, i, s, s', ht, ho, h => by
    have h : J F.P F.N w0 (cont F.P F.N w0 Q k) [.ops all (all.toList.drop m)] s := by cases bs <;> cases hs <;> simpa only [DrS3] using h
    have h' : J F.P F.N w0 (cont F.P F.N w0 Q k) [.ops all (all.toList.drop m)] s' := fun a w β R => h a w β (R.ext (fun t => (ht t).symm) fun k => by rw [ho])
    cases bs <;> cases hs <;> simpa only [DrS3] using h'
  | o :: os, [], hs, i, s, s', ht, ho, h => by simp only [DrS3] at h
  | o :: os, _ :: _, [], i, s, s', ht, ho, h => by simp only [DrS3] at h
  | o :: os, b :: bs, h0 :: hs, i, s, s', ht, ho, h => by
    simp only [DrS3] at h ⊢
    obtain ⟨v, ns, fk, h3, h4, h5, ha, hn, h6⟩ := h
    have good : ∀ (ob : List (Nat × Ob)), GoodOp3 F w0 (cont F.P F.N w0 Q k) all i (cut2 b h0 ⟨s.tm, ob⟩) o.dst v ns fk → GoodOp3 F w0 (cont F.P F.N w0 Q k) all i (cut2 b h0 ⟨s'.tm, ob⟩) o.dst v ns fk := by
      intro ob hg s2 a w β K R l1 l2 fr nx
      refine hg s2 a w β K R (fun x f hx => l1 x f ?_) l2 fr nx
      rw [lk_cut2_tm] at hx ⊢; rw [ht]; exact hx
    refine ⟨v, ns, fk, fun x hx => ⟨(h3 x hx).1, by rw [ho]; exact (h3 x hx).2⟩, h4, ?_, ?_, hn, DrS3.ext ?_ ?_ h6⟩
    · have := good s.ob h5
      rw [← ho] at this; exact this
    · unfold AltOp at ha ⊢
      split at ha
      · trivial
      · rename_i j x hl
        split at ha
        · rename_i ob hno
          rw [ho]; exact good _ ha
        · exact ha.elim
    · intro t
      cases o.dst with
      | none => exact ht t
      | some d => simp only [St.put, lk_cons, ht]
    · rw [ho]; cases o.dst <;> rfl

/-- A call in the quiet part. -/
def DrC3 (F : Fn) (w0 : Base) (Q : Exit → Act → World → Prop) (all : Array Oper) (k : List It) (m : Nat) (tk : List (List Nat)) (alts : List (Nat × Nat × Nat)) (no : List (Nat × Ob)) (bs hs : List (List Nat)) (i : Nat) (os : List Oper) (s : St) (b h : List Nat) (d f : Nat) (fs : List FV) : Prop :=
  ∃ args q, argsR (obB2 b h s) fs = some args ∧ CallOK F.P f args q ∧ freshOs s.ob (impOs (d * 64) (cellsR q)) = true ∧ nsOk d (impOs (d * 64) (cellsR q)) = true ∧
    DrS3 F w0 Q all k m tk alts no bs hs i os ⟨(d, impF (d * 64) q) :: s.tm, impOs (d * 64) (cellsR q) ++ s.ob⟩

/-- A literal that takes arrays of one's own in, in the quiet part. -/
def DrB3 (F : Fn) (w0 : Base) (Q : Exit → Act → World → Prop) (all : Array Oper) (k : List It) (m : Nat) (tk : List (List Nat)) (alts : List (Nat × Nat × Nat)) (no : List (Nat × Ob)) (bs hs : List (List Nat)) (i : Nat) (os : List Oper) (s : St) (b h tki : List Nat) (d t len : Nat) (qs : List (Nat × List C)) : Prop :=
  ∃ (v : FV) (ns : List (Nat × Ob)) (fk : List Nat), (∀ x ∈ fk, some d = some (x / 64) ∧ lk s.ob x = none) ∧ nsOk3 (some d) tki ns = true ∧
    (∀ s2 a w β, Rel F.N w0 s2 a w β → Le (lk (cut2 b h s).tm) (lk s2.tm) → Le (lk (cut2 b h s).ob) (lk s2.ob) → (∀ x ∈ fk, lk s2.ob x = none) → ∀ vs, PartsRel (s2.en w w0.arg β) qs vs →
      ∃ val w' β', (Instr.buildSlice t len vs.toArray).run F.P w = .ok val w' ∧ Rel F.N w0 ((⟨s2.tm, ns ++ s2.ob⟩ : St).put (some d) v) (a.put (some d) val) w' β') ∧
    DrS3 F w0 Q all k m tk alts no bs hs i os ((⟨s.tm, ns ++ s.ob⟩ : St).put (some d) v)

def none' {α : Type} : Option α → Bool
  | none => true
  | some _ => false
def inTk (tk : List Nat) (ns : List (Nat × Ob)) : Bool := ns.all fun p => tk.elem p.1

def dr3 (F : Fn) (w0 : Base) (Q : Exit → Act → World → Prop) (all : Array Oper) (k : List It) (m : Nat) (tk : List (List Nat)) (alts : List (Nat × Nat × Nat)) (no : List (Nat × Ob)) : List (List Nat) → List (List Nat) → Nat → List Oper → St → Prop
  | _, _, _, [], s => J F.P F.N w0 Q (.ops all (all.toList.drop m) :: k) s
  | b :: bs, h :: hs, i, o :: os, s =>
    let go (s : St) : Prop := match o.dst with
      | some d => Nat.blt d F.N = true ∧ match ev F.T F.E (opdB b s) (obB2 b h s) (d * 64) o.type o.op with
        | .q p v ns => p ∧ freshOs s.ob ns = true ∧ nsOk d ns = true ∧
            (match lk alts i with
              | none => True
              | some (j, x) => match lk no j with
                | some ob => (match ev F.T F.E (opdB b s) (obB2 b h ⟨s.tm, (x, ob) :: s.ob⟩) (d * 64) o.type o.op with
                  | .q p' v' ns' => p' ∧ v' = v ∧ ns' = ns
                  | _ => False)
                | none => False) ∧ noOk no (tkAt tk i) i ns ∧
            dr3 F w0 Q all k m tk alts no bs hs (i + 1) os ⟨(d, v) :: s.tm, ns ++ s.ob⟩
        | .el xs j => none' (lk alts i) = true ∧ none' (lk no i) = true ∧ (0 ≤ j ∧ j < xs.length) ∧ Later (∀ e, xs[j.toNat]? = some e → dr3 F w0 Q all k m tk alts no bs hs (i + 1) os ⟨(d, .c (.rd e)) :: s.tm, s.ob⟩)
        | .ld xs j j' size agg => none' (lk alts i) = true ∧ none' (lk no i) = true ∧ j < xs.length ∧ Later (∀ e, xs[j]? = some e → dr3 F w0 Q all k m tk alts no bs hs (i + 1) os ⟨(d, ldV e j' size agg) :: s.tm, s.ob⟩)
        | .call f fs => none' (lk alts i) = true ∧ none' (lk no i) = true ∧ DrC3 F w0 Q all k m tk alts no bs hs (i + 1) os s b h d f fs
        | .bs t len qs => none' (lk alts i) = true ∧ none' (lk no i) = true ∧ DrB3 F w0 Q all k m tk alts no bs hs (i + 1) os s b h (tkAt tk i) d t len qs
        | .ef p v ns => none' (lk alts i) = true ∧ p ∧ (lk s.ob (d * 64)).isNone = true ∧ inTk (tkAt tk i) ns = true ∧ noOk no (tkAt tk i) i ns ∧
            dr3 F w0 Q all k m tk alts no bs hs (i + 1) os ⟨(d, v) :: s.tm, ns ++ s.ob⟩
        | _ => False
      | none => match ev F.T F.E (opdB b s) (obB2 b h s) 0 o.type o.op with
        | .ef p .und ns => none' (lk alts i) = true ∧ p ∧ inTk (tkAt tk i) ns = true ∧ noOk no (tkAt tk i) i ns ∧ dr3 F w0 Q all k m tk alts no bs hs (i + 1) os ⟨s.tm, ns ++ s.ob⟩
        | _ => False
    match o.guard with
    | none => go s
    | some (j, want) => match (all[j]?).bind (·.dst), o.dst with
      | some d, some d' => Nat.blt d' F.N = true ∧ none' (lk alts i) = true ∧ none' (lk no i) = true ∧ match tmB b s d with
        | some (.c (.d (.v (.bool x)))) => br x want (go ⟨(d, .c (.d (.v (.bool want)))) :: s.tm, s.ob⟩)
            (dr3 F w0 Q all k m tk alts no bs hs (i + 1) os ⟨(d', .und) :: (d, .c (.d (.v (.bool (!want))))) :: s.tm, s.ob⟩)
        | some .und => dr3 F w0 Q all k m tk alts no bs hs (i + 1) os ⟨(d', .und) :: s.tm, s.ob⟩
        | _ => False
      | _, _ => False
  | _, _, _, _ :: _, _ => False

/-- One operation that writes. -/
theorem core_ef {F : Fn} (hF : FnOk F) {o : Oper} {k : Nat} {t : St} {p : Prop} {v : FV} {ns : List (Nat × Ob)} (he : ev F.T F.E t.opd (lk t.ob) k o.type o.op = .ef p v ns) (hp : p)
    (hd : ∀ d, o.dst = some d → d < F.N) (hv : o.dst = none → v = .und) {K : Act → World → Prop} {Q : Exit → Act → World → Prop} (R : Rel F.N w0 s a w β) (h1 : Le (lk t.tm) (lk s.tm)) (h2 : Le (lk t.ob) (lk s.ob))
    (hfr : ∀ d, o.dst = some d → lk s.ob k = none) (hK : ∀ a' w' β', Rel F.N w0 ((⟨s.tm, ns ++ s.ob⟩ : St).put o.dst v) a' w' β' → K a' w') : o.wp F.P a w K Q := by
  have he' : ev F.T F.E s.opd (lk s.ob) k o.type o.op = .ef p v ns := ev_mono (opd_mono h1) h2 he (by simp)
  unfold Oper.wp
  rcases ev_ef hF.T hF.E R he' hp with ⟨w', β', r1, rfl, r2⟩ | ⟨hne, hval⟩
  · rw [r1, Oper.upon_skip]
    refine hK _ _ β' ?_
    cases hod : o.dst with
    | none => simpa [St.put, Act.put] using r2
    | some d => exact r2.setTm (hd d hod) (by simp only [FVRel])
  · cases hod : o.dst with
    | none => exact absurd (hv hod) hne
    | some d =>
      obtain ⟨val, w', β', r1, r2, r3⟩ := hval (hfr d hod)
      rw [r1, Oper.upon_value, hod]
      refine hK _ _ β' ?_
      rw [hod]
      exact r2.setTm (hd d hod) r3

theorem nsOk3_of {d : Nat} {tk : List Nat} {ns : List (Nat × Ob)} (h : nsOk d ns = true) : nsOk3 (some d) tk ns = true := by
  unfold nsOk3
  rw [List.all_eq_true]
  intro p hp
  have := nat_beq ((List.all_eq_true.1 h) p hp)
  simp [this]
theorem nsOk3_tk {d : Option Nat} {tk : List Nat} {ns : List (Nat × Ob)} (h : inTk tk ns = true) : nsOk3 d tk ns = true := by
  unfold nsOk3
  rw [List.all_eq_true]
  intro p hp
  have := (List.all_eq_true.1 h) p hp
  rw [this]; simp
theorem noOk_none {no : List (Nat × Ob)} {tk : List Nat} {i : Nat} {ns : List (Nat × Ob)} (h : none' (lk no i) = true) : noOk no tk i ns := by
  unfold noOk
  cases hl : lk no i with
  | none => trivial
  | some x => rw [hl] at h; cases h
theorem altOp_none {F : Fn} {Q : Exit → Act → World → Prop} {all : Array Oper} {alts : List (Nat × Nat × Nat)} {no : List (Nat × Ob)} {i : Nat} {b h : List Nat} {d : Option Nat} {v : FV} {ns : List (Nat × Ob)} {fk : List Nat} (hn : none' (lk alts i) = true) :
    AltOp F w0 Q all alts no i b h s d v ns fk := by
  unfold AltOp
  cases hl : lk alts i with
  | none => trivial
  | some x => rw [hl] at hn; cases hn
theorem freshOs_fk {ob : List (Nat × Ob)} {ns : List (Nat × Ob)} {d : Nat} (hf : freshOs ob ns = true) (hn : nsOk d ns = true) : ∀ x ∈ ns.map (·.1), some d = some (x / 64) ∧ lk ob x = none := fun x hx => ⟨by rw [nsOk_key hn hx], (freshOs_iff.1 hf).1 x hx⟩
theorem freshOs_of {ob ob' : List (Nat × Ob)} {ns : List (Nat × Ob)} (hf : freshOs ob ns = true) (h : ∀ x ∈ ns.map (·.1), lk ob' x = none) : freshOs ob' ns = true := freshOs_iff.2 ⟨h, (freshOs_iff.1 hf).2⟩

theorem dr3_sound {F : Fn} (hF : FnOk F) {Q : Exit → Act → World → Prop} {all : Array Oper} {k : List It} {m : Nat} {tk : List (List Nat)} {alts : List (Nat × Nat × Nat)} {no : List (Nat × Ob)} : ∀ {os : List Oper} {bs hs : List (List Nat)} {i : Nat} {s : St}, (∀ j o, os[j]? = some o → all[i + j]? = some o) →
    dr3 F w0 Q all k m tk alts no bs hs i os s → DrS3 F w0 Q all k m tk alts no bs hs i os s
  | [], bs, hs, i, s, _, h => by
    have h : J F.P F.N w0 Q (.ops all (all.toList.drop m) :: k) s := by cases bs <;> cases hs <;> simpa only [dr3] using h
    have h' : J F.P F.N w0 (cont F.P F.N w0 Q k) [.ops all (all.toList.drop m)] s := by
      intro a w β R
      have := h a w β R
      simp only [cont] at this ⊢
      exact this
    cases bs <;> cases hs <;> simpa only [DrS3] using h'
  | o :: os, [], hs, i, s, _, h => by simp only [dr3] at h
  | o :: os, _ :: _, [], i, s, _, h => by simp only [dr3] at h
  | o :: os, b :: bs, hh :: hs, i, s, hall, h => by
    have hi : all[i]? = some o := by simpa using hall 0 o rfl
    have hall' : ∀ j o, os[j]? = some o → all[i + 1 + j]? = some o := fun j o' h => by
      rw [show i + 1 + j = i + (j + 1) by omega]; exact hall (j + 1) o' (by simpa using h)
    -- one operation that is carried out, in the state s'
    have go : ∀ {s' : St}, (∀ {t : St} {v : FV} {ns : List (Nat × Ob)} {fk : List Nat}, t.tm = s'.tm → (∀ s a w β (K : Act → World → Prop), Rel F.N w0 s a w β → Le (lk (cut2 b hh t).tm) (lk s.tm) → Le (lk (cut2 b hh t).ob) (lk s.ob) → (∀ x ∈ fk, lk s.ob x = none) →
          (∀ a' w' β', Rel F.N w0 ((⟨s.tm, ns ++ s.ob⟩ : St).put o.dst v) a' w' β' → K a' w') → o.wp F.P a w K (cont F.P F.N w0 Q k)) → GoodOp3 F w0 (cont F.P F.N w0 Q k) all i (cut2 b hh t) o.dst v ns fk) →
        (match o.dst with
      | some d => Nat.blt d F.N = true ∧ match ev F.T F.E (cut2 b hh s').opd (lk (cut2 b hh s').ob) (d * 64) o.type o.op with
        | .q p v ns => p ∧ freshOs s'.ob ns = true ∧ nsOk d ns = true ∧
            (match lk alts i with
              | none => True
              | some (j, x) => match lk no j with
                | some ob => (match ev F.T F.E (cut2 b hh s').opd (lk (cut2 b hh ⟨s'.tm, (x, ob) :: s'.ob⟩).ob) (d * 64) o.type o.op with
                  | .q p' v' ns' => p' ∧ v' = v ∧ ns' = ns
                  | _ => False)
                | none => False) ∧ noOk no (tkAt tk i) i ns ∧
            dr3 F w0 Q all k m tk alts no bs hs (i + 1) os ⟨(d, v) :: s'.tm, ns ++ s'.ob⟩
        | .el xs j => none' (lk alts i) = true ∧ none' (lk no i) = true ∧ (0 ≤ j ∧ j < xs.length) ∧ (∀ e, xs[j.toNat]? = some e → dr3 F w0 Q all k m tk alts no bs hs (i + 1) os ⟨(d, .c (.rd e)) :: s'.tm, s'.ob⟩)
        | .ld xs j j' size agg => none' (lk alts i) = true ∧ none' (lk no i) = true ∧ j < xs.length ∧ (∀ e, xs[j]? = some e → dr3 F w0 Q all k m tk alts no bs hs (i + 1) os ⟨(d, ldV e j' size agg) :: s'.tm, s'.ob⟩)
        | .call f fs => none' (lk alts i) = true ∧ none' (lk no i) = true ∧ DrC3 F w0 Q all k m tk alts no bs hs (i + 1) os s' b hh d f fs
        | .bs t len qs => none' (lk alts i) = true ∧ none' (lk no i) = true ∧ DrB3 F w0 Q all k m tk alts no bs hs (i + 1) os s' b hh (tkAt tk i) d t len qs
        | .ef p v ns => none' (lk alts i) = true ∧ p ∧ (lk s'.ob (d * 64)).isNone = true ∧ inTk (tkAt tk i) ns = true ∧ noOk no (tkAt tk i) i ns ∧
            dr3 F w0 Q all k m tk alts no bs hs (i + 1) os ⟨(d, v) :: s'.tm, ns ++ s'.ob⟩
        | _ => False
      | none => match ev F.T F.E (cut2 b hh s').opd (lk (cut2 b hh s').ob) 0 o.type o.op with
        | .ef p .und ns => none' (lk alts i) = true ∧ p ∧ inTk (tkAt tk i) ns = true ∧ noOk no (tkAt tk i) i ns ∧ dr3 F w0 Q all k m tk alts no bs hs (i + 1) os ⟨s'.tm, ns ++ s'.ob⟩
        | _ => False) → DrS3 F w0 Q all k m tk alts no (b :: bs) (hh :: hs) i (o :: os) s' := by
      intro s' hgood h
      simp only [DrS3]
      cases hd : o.dst with
      | none =>
        rw [hd] at h hgood
        simp only at h
        split at h
        · rename_i p ns he
          obtain ⟨q1, q2, q3, q4, q5⟩ := h
          refine ⟨.und, ns, [], fun _ hx => (nomatch hx), nsOk3_tk q3, hgood rfl fun s a w β K R l1 l2 f n => ?_, altOp_none q1, q4, dr3_sound hF hall' q5⟩
          exact core_ef hF he q2 (fun d h => absurd (hd.symm.trans h) (by simp)) (fun _ => rfl) R l1 l2 (fun d h => absurd (hd.symm.trans h) (by simp)) (by rw [hd]; exact n)
        · exact h.elim
      | some d =>
        rw [hd] at h hgood
        obtain ⟨hlt, h⟩ := h
        have hlt : d < F.N := by simpa [Nat.blt_eq] using hlt
        split at h
        · rename_i p v ns he
          obtain ⟨hp, hf, hn, ha, hno, h⟩ := h
          refine ⟨v, ns, ns.map (·.1), freshOs_fk hf hn, nsOk3_of hn, hgood rfl fun s a w β K R l1 l2 f n => core hF hd hlt he (.inl ⟨p, rfl, hp⟩) R l1 l2 (freshOs_of hf f) n, ?_, hno, dr3_sound hF hall' h⟩
          unfold AltOp
          split
          · trivial
          · rename_i j x hl
            rw [hl] at ha
            simp only at ha
            split
            · rename_i ob hob
              rw [hob] at ha
              simp only at ha
              split at ha
              · rename_i p' v' ns' he'
                obtain ⟨a1, rfl, rfl⟩ := ha
                refine hgood rfl fun s a w β K R l1 l2 f n => core hF hd hlt (t := cut2 b hh ⟨s'.tm, (x, ob) :: s'.ob⟩) (by rw [opdB2_eq] at he' ⊢; exact he') (.inl ⟨p', rfl, a1⟩) R l1 l2 (freshOs_of hf f) n
              · exact ha.elim
            · rename_i hob
              rw [hob] at ha; exact ha.elim
        · rename_i xs j he
          obtain ⟨n1, n2, hj, h⟩ := h
          have hx : xs[j.toNat]? = some (xs[j.toNat]'(by omega)) := by simp
          exact ⟨_, [], [], fun _ hx => (nomatch hx), rfl, hgood rfl fun s a w β K R l1 l2 f n => core hF hd hlt he (.inr (.inl ⟨xs, j, _, rfl, hj, hx, rfl, rfl⟩)) R l1 l2 rfl n, altOp_none n1, noOk_none n2, dr3_sound hF hall' (h _ hx)⟩
        · rename_i xs j j' size agg he
          obtain ⟨n1, n2, hj, h⟩ := h
          have hx : xs[j]? = some (xs[j]'hj) := by simp
          exact ⟨_, [], [], fun _ hx => (nomatch hx), rfl, hgood rfl fun s a w β K R l1 l2 f n => core hF hd hlt he (.inr (.inr (.inl ⟨xs, j, j', size, agg, _, rfl, hx, rfl, rfl⟩))) R l1 l2 rfl n, altOp_none n1, noOk_none n2, dr3_sound hF hall' (h _ hx)⟩
        · rename_i f fs he
          obtain ⟨n1, n2, args, q, g1, g2, g3, g4, g5⟩ := h
          rw [← obB2_eq] at g1
          exact ⟨_, _, _, freshOs_fk g3 g4, nsOk3_of g4, hgood rfl fun s a w β K R l1 l2 f n => core hF hd hlt he (.inr (.inr (.inr ⟨_, _, args, q, rfl, g1, g2, rfl, rfl⟩))) R l1 l2 (freshOs_of g3 f) n, altOp_none n1, noOk_none n2, g5⟩
        · rename_i t len qs he
          obtain ⟨n1, n2, v, ns, fk, g1, g2, g3, g4⟩ := h
          refine ⟨v, ns, fk, fun x hx => g1 x hx, g2, hgood rfl fun s2 a w β K R l1 l2 f n => ?_, altOp_none n1, noOk_none n2, g4⟩
          have he' := ev_mono (opd_mono l1) l2 he (by simp)
          obtain ⟨vs, r1, r2⟩ := ev_bs (P := F.P) R he'
          obtain ⟨val, w', β', q1, q2⟩ := g3 s2 a w β R l1 l2 f vs r1
          unfold Oper.wp
          rw [r2 val w' q1, Oper.upon_value, hd]
          exact n _ _ _ q2
        · rename_i p v ns he
          obtain ⟨n1, hp, hfr, htk, hno, h⟩ := h
          simp only [Option.isNone_iff_eq_none] at hfr
          refine ⟨v, ns, [d * 64], fun x hx => ?_, nsOk3_tk htk, hgood rfl fun s a w β K R l1 l2 f n => ?_, altOp_none n1, hno, dr3_sound hF hall' h⟩
          · simp only [List.mem_singleton] at hx; subst hx
            exact ⟨by simp, hfr⟩
          · exact core_ef hF he hp (fun d' h => by rw [hd] at h; simp only [Option.some.injEq] at h; subst h; exact hlt) (fun h => by rw [hd] at h; cases h) R l1 l2 (fun d' h => f _ (List.mem_singleton.2 rfl)) (by rw [hd]; exact n)
        · exact h.elim
    simp only [dr3, ← opdB2_eq b hh, ← obB2_eq, ← tmB2_eq b hh] at h
    have good0 : ∀ {t : St} {v : FV} {ns : List (Nat × Ob)} {fk : List Nat}, o.guard = none → (∀ s a w β (K : Act → World → Prop), Rel F.N w0 s a w β → Le (lk (cut2 b hh t).tm) (lk s.tm) → Le (lk (cut2 b hh t).ob) (lk s.ob) → (∀ x ∈ fk, lk s.ob x = none) →
          (∀ a' w' β', Rel F.N w0 ((⟨s.tm, ns ++ s.ob⟩ : St).put o.dst v) a' w' β' → K a' w') → o.wp F.P a w K (cont F.P F.N w0 Q k)) → GoodOp3 F w0 (cont F.P F.N w0 Q k) all i (cut2 b hh t) o.dst v ns fk := by
      intro t v ns fk hg hc s2 a w β K R l1 l2 fr nx
      have hw : Region.wanted o (yielded all a.tmps) = true := by simp [Region.wanted, hg]
      simp only [wpOp, hi, if_pos hw]
      exact .inl (hc s2 a w β K R l1 l2 fr nx)
    cases hg : o.guard with
    | none =>
      rw [hg] at h
      exact go (fun _ hc => good0 hg hc) h
    | some g =>
      obtain ⟨j, want⟩ := g
      rw [hg] at h
      simp only at h
      split at h
      · rename_i dj d' hj hd'
        obtain ⟨hlt, n1, n2, h⟩ := h
        have hlt : d' < F.N := by simpa [Nat.blt_eq] using hlt
        have ext1 : ∀ {x : Bool}, lk (cut2 b hh s).tm dj = some (.c (.d (.v (.bool x)))) → ∀ t, lk s.tm t = lk ((dj, FV.c (.d (.v (.bool x)))) :: s.tm) t := by
          intro x hx t
          rw [lk_cut2_tm] at hx
          split at hx
          · rw [lk_cons]
            split
            · rename_i e; rw [← e]; exact hx
            · rfl
          · cases hx
        have wantd : ∀ {x : Bool} {s2 : St} {a : Act} {w : World} {β : Nat → Value}, lk (cut2 b hh s).tm dj = some (.c (.d (.v (.bool x)))) → Rel F.N w0 s2 a w β → Le (lk (cut2 b hh s).tm) (lk s2.tm) →
            Region.wanted o (yielded all a.tmps) = (x == want) := by
          intro x s2 a w β hx R l
          have hv := bool_rel (R.tm dj _ (l _ _ hx))
          have hy := yielded_bool hj hv
          simp only [Region.wanted, hg, hy]
          cases x <;> cases want <;> rfl
        split at h
        · rename_i x hx
          have lecut : ∀ {c : Bool} {ob : List (Nat × Ob)}, x = c → ∀ t, lk (cut2 b hh ⟨(dj, .c (.d (.v (.bool c)))) :: s.tm, ob⟩).tm t = lk (cut2 b hh s).tm t := by
            intro c ob e t
            rw [lk_cut2_tm, lk_cut2_tm, ← e]
            split
            · exact (ext1 hx t).symm
            · rfl
          by_cases hxw : x = want
          · have := go (s' := ⟨(dj, .c (.d (.v (.bool want)))) :: s.tm, s.ob⟩) (fun {t v ns fk} ht hc => ?_) (h.1 hxw)
            · have e1 := ext1 hx
              rw [hxw] at e1
              exact @DrS3.ext w0 F Q all k m tk alts no (o :: os) (b :: bs) (hh :: hs) i ⟨(dj, .c (.d (.v (.bool want)))) :: s.tm, s.ob⟩ s e1 rfl this
            · intro s2 a w β K R l1 l2 fr nx
              have l1' : Le (lk (cut2 b hh s).tm) (lk s2.tm) := fun y f hy => l1 y f (by
                have e2 := lecut (ob := t.ob) hxw y
                have e3 : (⟨(dj, FV.c (.d (.v (.bool want)))) :: s.tm, t.ob⟩ : St) = t := by cases t; simp only at ht; subst ht; rfl
                rw [e3] at e2
                rw [e2]; exact hy)
              have hw := wantd hx R l1'
              rw [hxw] at hw
              simp only [wpOp, hi]
              rw [if_pos (by rw [hw]; cases want <;> rfl)]
              exact .inl (hc s2 a w β K R l1 l2 fr nx)
          · have hxn : x = (!want) := by cases x <;> cases want <;> first | rfl | exact absurd rfl hxw
            have h2 := dr3_sound hF hall' (h.2 hxn)
            simp only [DrS3]
            refine ⟨.und, [], [], fun _ hx => (nomatch hx), rfl, ?_, altOp_none n1, noOk_none n2, ?_⟩
            · intro s2 a w β K R l1 l2 fr nx
              have hw := wantd hx R l1
              simp only [wpOp, hi]
              rw [if_neg (by rw [hw, hxn]; cases want <;> simp), hd']
              rw [hd'] at nx
              exact nx _ _ _ (R.setTm hlt (by simp only [FVRel]))
            · rw [hd']
              refine @DrS3.ext w0 F Q all k m tk alts no os bs hs (i + 1) ⟨(d', .und) :: (dj, .c (.d (.v (.bool (!want))))) :: s.tm, s.ob⟩ ⟨(d', .und) :: s.tm, s.ob⟩ (fun t => ?_) rfl h2
              simp only [lk_cons]
              split
              · rfl
              · have := ext1 hx t
                rw [hxn, lk_cons] at this
                exact this
        · rename_i hx
          have h2 := dr3_sound hF hall' h
          simp only [DrS3]
          refine ⟨.und, [], [], fun _ hx => (nomatch hx), rfl, ?_, altOp_none n1, noOk_none n2, by rw [hd']; exact h2⟩
          intro s2 a w β K R l1 l2 fr nx
          have hv := R.tm dj _ (l1 _ _ hx)
          simp only [FVRel] at hv
          have hy := yielded_undef hj hv
          simp only [wpOp, hi]
          rw [if_neg (by simp [Region.wanted, hg, hy]), hd']
          rw [hd'] at nx
          exact nx _ _ _ (R.setTm hlt (by simp only [FVRel]))
        · exact h.elim
      · exact h.elim

/-- A call in the quiet part; what is left of it is worked out from the state behind. -/
theorem DrC3.ok {F : Fn} (hF : FnOk F) {Q : Exit → Act → World → Prop} {all : Array Oper} {k : List It} {m : Nat} {tk : List (List Nat)} {alts : List (Nat × Nat × Nat)} {no : List (Nat × Ob)} {bs hs : List (List Nat)} {i : Nat} {os : List Oper} {b h : List Nat} {d f : Nat} {fs : List FV} {args : List RV} {q : RV}
    (hall : (all.toList.drop i).take os.length = os) (ha : argsR (obB2 b h s) fs = some args) (hc : CallOK F.P f args q) (hfr : freshOs s.ob (impOs (d * 64) (cellsR q)) = true)
    (hns : nsOk d (impOs (d * 64) (cellsR q)) = true) (hj : dr3 F w0 Q all k m tk alts no bs hs i os ⟨(d, impF (d * 64) q) :: s.tm, impOs (d * 64) (cellsR q) ++ s.ob⟩) : DrC3 F w0 Q all k m tk alts no bs hs i os s b h d f fs := by
  refine ⟨args, q, ha, hc, hfr, hns, dr3_sound hF (fun j o ho => ?_) hj⟩
  rw [← hall, List.getElem?_take] at ho
  split at ho
  · rw [List.getElem?_drop] at ho
    simpa using ho
  · cases ho

theorem J.dr3 {F : Fn} (hF : FnOk F) {Q : Exit → Act → World → Prop} {id : Nat} {ops : Array Oper} {k : List It} (hmix : F.P.follows .mixedOrders = true) (m : Nat) (rows bs tk hs : List (List Nat)) (alts : List (Nat × Nat × Nat)) (no : List (Nat × Ob)) (hok : drawOk3 ops.toList m rows bs tk hs alts = true)
    (h : dr3 F w0 Q ops k m tk alts no bs hs 0 (ops.toList.take m) s) : J F.P F.N w0 Q (.code (.region id ops true) :: k) s := by
  refine J.draw3 hmix m rows bs tk hs alts no hok (dr3_sound hF (fun j o ho => ?_) h)
  rw [List.getElem?_take] at ho
  split at ho
  · simpa using ho
  · cases ho

attribute [simp] dr3 obB2 none' inTk tkAt noOk

end Go.Sm

namespace Go.Sm
open Go.RowKit

abbrev tres (r : List Int × Int) : RV := .tup [(false, [oInts r.1]), (false, [i64 r.2])]

theorem sum_take {xs : List Int} {i : Nat} {x : Int} (h : xs[i]? = some x) : (xs.take (i + 1)).sum = (xs.take i).sum + x := by
  rw [List.take_add_one, h]; simp
theorem sum_bounds {c : Int} : ∀ {xs : List Int}, (∀ x ∈ xs, 0 ≤ x ∧ x ≤ c) → 0 ≤ xs.sum ∧ xs.sum ≤ c * xs.length
  | [], _ => by simp
  | x :: xs, h => by
    have h1 := h x (List.mem_cons_self ..)
    have h2 := sum_bounds fun y hy => h y (List.mem_cons_of_mem _ hy)
    simp only [List.sum_cons, List.length_cons]
    push_cast
    rw [Int.mul_add]
    omega
theorem le_sum : ∀ {xs : List Int}, (∀ x ∈ xs, 0 ≤ x) → ∀ x ∈ xs, x ≤ xs.sum
  | y :: xs, h, x, hx => by
    have h0 := h y (List.mem_cons_self ..)
    have hs : ∀ {l : List Int}, (∀ x ∈ l, 0 ≤ x) → 0 ≤ l.sum := fun {l} hl => by
      induction l with
      | nil => simp
      | cons z l ih => simp only [List.sum_cons]; have := hl z (List.mem_cons_self ..); have := ih fun q hq => hl q (List.mem_cons_of_mem _ hq); omega
    simp only [List.sum_cons]
    rcases List.mem_cons.1 hx with rfl | hx
    · have := hs fun q hq => h q (List.mem_cons_of_mem _ hq); omega
    · have := le_sum (fun q hq => h q (List.mem_cons_of_mem _ hq)) x hx; omega
theorem getD_facts {xs : List Int} (hc : Cnt xs) (i : Nat) (hT : 0 ≤ xs.sum) : 0 ≤ xs.getD i 0 ∧ xs.getD i 0 ≤ xs.sum ∧ xs.getD i 0 ≤ 100000000 := by
  by_cases h : i < xs.length
  · have hm : xs.getD i 0 ∈ xs := by rw [List.getD_eq_getElem?_getD, List.getElem?_eq_getElem h]; exact List.getElem_mem h
    have h1 := hc.1 _ hm
    have h2 := le_sum (fun x hx => (hc.1 x hx).1) _ hm
    omega
  · rw [List.getD_eq_getElem?_getD, List.getElem?_eq_none (by omega)]; simp; exact hT

set_option maxHeartbeats 2000000 in
set_option maxRecDepth 4000 in
theorem TransformWeights_ok (p : Int) (ws : List Int) (hl : ws.length ≤ 1048576) : CallOK Go.Proofs.Try.prog 17 [.one (i64 p), .one (vInts ws)] (tres (twOf p ws)) := by
  have hF := fnOk 145 [.tmp 4, .tmp 5]
  refine callOK hF 60 Go.Proofs.Try.func17 rfl rfl rfl (by decide) (by simp) rfl ?_
  intro w0 hw
  have S := @vc_sound w0 _ hF ⟨(tres (twOf p ws)), []⟩ Go.Proofs.Try.f17 rfl (by simp)
  have c1 := isPrime_ok p
  have c2 := areCounts_ok ws hl
  by_cases hp : Pr p
  · rw [decide_eq_true hp] at c1
    by_cases hc : Cnt ws
    · rw [decide_eq_true hc] at c2
      have hpp : 2 ≤ p ∧ p ≤ 13 := by unfold Pr at hp; omega
      have hsb := fun i => sum_bounds (xs := ws.take i) (c := 100000000) (fun x hx => by have := hc.1 x (List.take_subset _ _ hx); omega)
      have hlen := hc.2
      have htw : twOf p ws = if ws.sum = 0 then ([], 5) else if ∀ k < ws.length, ws.sum ∣ sumK p (ws.length - 1) ws k ws.length then ((List.range ws.length).map fun k => sumK p (ws.length - 1) ws k ws.length / ws.sum, 0) else ([], 5) := if_pos ⟨hp, hc⟩
      have hgd := getD_facts hc
      generalize hres : twOf p ws = res at htw S ⊢
      have hw1 : IntKind.i64.wrap ((ws.length : Int) - 1) = ((ws.length - 1 : Nat) : Int) := by rw [wrap64] <;> omega
      simp
      refine CallW.ok (by decide) (by simp) c1 (by simp) (S 60 _ _ ?_)
      simp
      refine CallW.ok (by decide) (by simp) c2 (by simp) (S 60 _ _ ?_)
      simp [hw1]
      obtain ⟨n, hn⟩ : ∃ n, ws.length = n + 1 := ⟨ws.length - 1, by omega⟩
      have hn1 : ws.length - 1 = n := by omega
      rw [hn1] at htw ⊢
      refine J.loop hw (fun i : Nat => ⟨[(0, .c (.d (i64 p))), (1, .c (.d (vInts ws))), (6, .c (.d (i64 n))), (35, .c (.d (vInts ws))), (36, .c (.d (i64 ws.length))), (37, .c (.d (i64 i))), (7, .c (.d (i64 (ws.take i).sum)))], []⟩)
        (fun i => i ≤ ws.length) (fun i => ws.length - i) 0 (by simp) (by simp) ?_
      intro i hi
      have hsi := hsb i
      have hss := hsb (i + 1)
      rw [List.length_take] at hsi hss
      have hst := fun x (h : ws[i]? = some x) => sum_take h
      refine S 8 _ _ ?_
      simp
      refine ⟨fun hlt => ?_, fun hge => ?_⟩
      · obtain ⟨x, hx⟩ : ∃ x, ws[i]? = some x := ⟨ws[i], List.getElem?_eq_getElem hlt⟩
        have hst := hst x hx
        generalize (ws.take i).sum = sm at hsi hst
        have hwS : IntKind.i64.wrap (sm + x) = sm + x := wrap64 (by omega) (by omega)
        refine S 60 _ _ ?_
        simp
        refine ⟨hlt, fun x' hx' => ?_⟩
        obtain rfl : x = x' := Option.some.inj (hx.symm.trans hx')
        simp [hwS]
        exact Nxt.mk (i + 1) hlt (by simp [wrapS (i := i) (n := ws.length) hlt (by omega), hst]) (by omega)
      · have e : ws.take i = ws := List.take_of_length_le hge
        rw [e] at hsi ⊢
        clear hi hss hst hge e
        by_cases hT0 : ws.sum = 0
        · rw [if_pos hT0] at htw
          subst htw
          rw [hT0]
          refine S 60 _ _ ?_
          simp
        · rw [if_neg hT0] at htw
          have hT : 0 < ws.sum ∧ ws.sum ≤ 1100000000 := by omega
          have hgd := fun i => hgd i (by omega)
          generalize ws.sum = T at htw hT hT0 hgd ⊢
          have hTb : (T == 0) = false := by simpa using hT0
          have hwn : IntKind.i64.wrap ((n : Int) + 1) = ((n + 1 : Nat) : Int) := by rw [wrap64] <;> omega
          have hzero : (ints (List.replicate (n + 1) 0)) = List.replicate (n + 1) [i64 0] := by simp [ints, List.map_replicate]
          refine S 60 _ _ ?_
          simp [hTb, hwn]
          refine ⟨⟨by omega, by omega, by omega⟩, ?_⟩
          refine J.loop hw (fun i : Nat => ⟨[(0, .c (.d (i64 p))), (1, .c (.d (vInts ws))), (6, .c (.d (i64 n))), (7, .c (.d (i64 T))), (10, .c (.ob 64010)), (11, .c (.ob 64011)), (53, .c (.d (vInts ws))), (54, .c (.d (i64 ws.length))), (55, .c (.d (i64 i)))], [(64010, .arr 2 1 (ints (rm (n + 1) (oI p n ws T i)))), (64011, .arr 2 1 (ints (rm (n + 1) (rI p n ws T i))))]⟩)
            (fun i => i ≤ ws.length) (fun i => ws.length - i) 0 (by simp) (by simp [oI, rI, rm_zero]) ?_
          intro i hi
          refine S 8 _ _ ?_
          simp
          refine ⟨fun hlt => ?_, fun hge => ?_⟩
          · obtain ⟨wt, hwt⟩ : ∃ wt, ws[i]? = some wt := ⟨ws[i], List.getElem?_eq_getElem hlt⟩
            have hwe : ws.getD i 0 = wt := by rw [List.getD_eq_getElem?_getD, hwt]; rfl
            have hwb := hgd i
            rw [hwe] at hwb
            refine S 7 _ _ ?_
            simp
            refine ⟨hlt, fun x' hx' => ?_⟩
            obtain rfl : wt = x' := Option.some.inj (hwt.symm.trans hx')
            refine S 60 _ _ ?_
            simp [hwn]
            refine ⟨⟨by omega, by omega, by omega⟩, ?_⟩
            refine J.loop hw (fun k : Nat => ⟨[(0, .c (.d (i64 p))), (1, .c (.d (vInts ws))), (6, .c (.d (i64 n))), (7, .c (.d (i64 T))), (10, .c (.ob 64010)), (11, .c (.ob 64011)), (53, .c (.d (vInts ws))), (54, .c (.d (i64 ws.length))), (55, .c (.d (i64 i))), (12, .c (.d (i64 i))), (13, .c (.d (i64 wt))), (14, .c (.ob 64014)), (65, .c (.d (i64 n))), (66, .c (.d (i64 k)))], [(64010, .arr 2 1 (ints (rm (n + 1) (oI p n ws T i)))), (64011, .arr 2 1 (ints (rm (n + 1) (rI p n ws T i)))), (64014, .arr 2 1 (ints (kraw p n i k)))]⟩)
              (fun k => k ≤ n) (fun k => n - k) 0 (by omega) (by simp [kraw, List.map_replicate, List.replicate_succ]) ?_
            intro k hk
            have hkb := kraw_bound hpp n i k
            have hkl := kraw_length p n i k
            have h13 : (13 : Int) ^ k ≤ 13 ^ 10 := by exact_mod_cast Nat.pow_le_pow_right (n := 13) (by omega) (show k ≤ 10 by omega)
            have hwp : IntKind.i64.wrap (p - 1) = p - 1 := by rw [wrap64] <;> omega
            refine S 8 _ _ ?_
            simp
            refine ⟨fun hkn => ?_, fun hkn => ?_⟩
            · refine S 60 _ _ ?_
              simp [hwp]
              refine ⟨fun hki => ?_, fun hki => ?_⟩
              · refine J.loop hw (fun q : Nat × List Int => ⟨[(0, .c (.d (i64 p))), (1, .c (.d (vInts ws))), (6, .c (.d (i64 n))), (7, .c (.d (i64 T))), (10, .c (.ob 64010)), (11, .c (.ob 64011)), (53, .c (.d (vInts ws))), (54, .c (.d (i64 ws.length))), (55, .c (.d (i64 i))), (12, .c (.d (i64 i))), (13, .c (.d (i64 wt))), (14, .c (.ob 64014)), (65, .c (.d (i64 n))), (66, .c (.d (i64 k))), (16, .c (.d (i64 (p - 1)))), (17, .c (.d (i64 q.1)))], [(64010, .arr 2 1 (ints (rm (n + 1) (oI p n ws T i)))), (64011, .arr 2 1 (ints (rm (n + 1) (rI p n ws T i)))), (64014, .arr 2 1 (ints q.2))]⟩)
                  (fun q => q.1 ≤ n ∧ q.2 = (kraw p n i k).take (q.1 + 1) ++ (kraw p n i (k + 1)).drop (q.1 + 1)) (fun q => q.1) (n, kraw p n i k) ⟨Nat.le_refl _, by rw [List.take_of_length_le (by rw [kraw_length]; omega), List.drop_of_length_le (by rw [kraw_length]; omega), List.append_nil]⟩ (by simp) ?_
                rintro ⟨j, zs⟩ ⟨hj, hz⟩
                simp only at hj hz
                have hzl : zs.length = n + 1 := by rw [hz]; simp [kraw_length]; omega
                refine S 12 _ _ ?_
                simp
                refine ⟨fun hj0 => ?_, fun hj0 => ?_⟩
                · obtain ⟨j, rfl⟩ : ∃ j', j = j' + 1 := ⟨j - 1, by omega⟩
                  have hw2 : IntKind.i64.wrap (j : Int) = (j : Int) := by rw [wrap64] <;> omega
                  refine S 60 _ _ ?_
                  simp
                  refine J.dr hF mixed 11 [[], [], [0, 1], [0, 1, 2], [], [], [], [6], [5, 6, 7], [5, 6, 7, 8], [4, 5, 6, 7, 8, 9], [0, 1, 2, 3, 4, 5, 6, 7, 8, 9, 10], [0, 1, 2, 3, 4, 5, 6, 7, 8, 9, 10, 11], [0, 1, 2, 3, 4, 5, 6, 7, 8, 9, 10, 11, 12]] [[79, 80, 81, 82, 83, 84, 85, 86, 87, 88, 89], [79, 80, 81, 82, 83, 84, 85, 86, 87, 88, 89], [81, 82, 83, 84, 85, 86, 87, 88, 89], [82, 83, 84, 85, 86, 87, 88, 89], [79, 80, 81, 82, 83, 84, 85, 86, 87, 88, 89], [79, 80, 81, 82, 83, 84, 85, 86, 87, 88, 89], [79, 80, 81, 82, 83, 84, 85, 86, 87, 88, 89], [79, 80, 81, 82, 83, 84, 86, 87, 88, 89], [79, 80, 81, 82, 83, 87, 88, 89], [79, 80, 81, 82, 83, 88, 89], [79, 80, 81, 82, 89]] (by decide) ?_
                  simp [hw2]
                  refine ⟨⟨by omega, by omega⟩, by omega, fun a ha => ⟨by omega, fun b hb => ?_⟩⟩
                  have ha' : (kraw p n i k)[j + 1]? = some a := by
                    rw [hz, List.getElem?_append_left (by simp [kraw_length]; omega), List.getElem?_take] at ha
                    simpa using ha
                  have hb' : (kraw p n i k)[j]? = some b := by
                    rw [hz, List.getElem?_append_left (by simp [kraw_length]; omega), List.getElem?_take] at hb
                    simpa [show j < j + 1 + 1 by omega] using hb
                  have ba := hkb a (List.mem_of_getElem? ha')
                  have bb := hkb b (List.mem_of_getElem? hb')
                  have hm1 : (p - 1) * b ≤ 12 * 13 ^ 10 := by
                    have := (mul_bound (f := p - 1) (b := b) (c := 13 ^ 10) (by omega) (by omega)).2; omega
                  have hm2 : -(12 * 13 ^ 10) ≤ (p - 1) * b := (mul_bound (f := p - 1) (b := b) (c := 13 ^ 10) (by omega) (by omega)).1
                  have hw3 : IntKind.i64.wrap ((p - 1) * b) = (p - 1) * b := by rw [wrap64] <;> omega
                  have hw4 : IntKind.i64.wrap (a + (p - 1) * b) = a + (p - 1) * b := by rw [wrap64] <;> omega
                  have hset : zs.set (j + 1) (a + (p - 1) * b) = (kraw p n i k).take (j + 1) ++ (kraw p n i (k + 1)).drop (j + 1) := by
                    rw [hz]
                    have := ms_step (f := p - 1) ha' hb'
                    simpa [kraw, show ¬ k < i by omega] using this
                  have hbj : j + 1 < zs.length := by omega
                  refine S 60 _ _ ?_
                  simp [hw3, hw4]
                  refine ⟨⟨by omega, by omega⟩, by omega, ?_⟩
                  refine Nxt.mk (j, zs.set (j + 1) (a + (p - 1) * b)) ⟨by show j ≤ n; omega, hset⟩ (by simp [hw2, List.map_set]) (by show j < j + 1; omega)
                · have hj : j = 0 := by omega
                  subst hj
                  have hzn : zs = kraw p n i (k + 1) := by rw [hz]; exact ms_done _ _
                  rw [hzn]
                  refine S 60 _ _ ?_
                  simp
                  exact Nxt.mk (k + 1) hkn (by simp [wrapS (i := k) (n := n) hkn (by omega)]) (by show n - (k + 1) < n - k; omega)
              · refine J.loop hw (fun q : Nat × List Int => ⟨[(0, .c (.d (i64 p))), (1, .c (.d (vInts ws))), (6, .c (.d (i64 n))), (7, .c (.d (i64 T))), (10, .c (.ob 64010)), (11, .c (.ob 64011)), (53, .c (.d (vInts ws))), (54, .c (.d (i64 ws.length))), (55, .c (.d (i64 i))), (12, .c (.d (i64 i))), (13, .c (.d (i64 wt))), (14, .c (.ob 64014)), (65, .c (.d (i64 n))), (66, .c (.d (i64 k))), (16, .c (.d (i64 (-1)))), (17, .c (.d (i64 q.1)))], [(64010, .arr 2 1 (ints (rm (n + 1) (oI p n ws T i)))), (64011, .arr 2 1 (ints (rm (n + 1) (rI p n ws T i)))), (64014, .arr 2 1 (ints q.2))]⟩)
                  (fun q => q.1 ≤ n ∧ q.2 = (kraw p n i k).take (q.1 + 1) ++ (kraw p n i (k + 1)).drop (q.1 + 1)) (fun q => q.1) (n, kraw p n i k) ⟨Nat.le_refl _, by rw [List.take_of_length_le (by rw [kraw_length]; omega), List.drop_of_length_le (by rw [kraw_length]; omega), List.append_nil]⟩ (by simp) ?_
                rintro ⟨j, zs⟩ ⟨hj, hz⟩
                simp only at hj hz
                have hzl : zs.length = n + 1 := by rw [hz]; simp [kraw_length]; omega
                refine S 12 _ _ ?_
                simp
                refine ⟨fun hj0 => ?_, fun hj0 => ?_⟩
                · obtain ⟨j, rfl⟩ : ∃ j', j = j' + 1 := ⟨j - 1, by omega⟩
                  have hw2 : IntKind.i64.wrap (j : Int) = (j : Int) := by rw [wrap64] <;> omega
                  refine S 60 _ _ ?_
                  simp
                  refine J.dr hF mixed 11 [[], [], [0, 1], [0, 1, 2], [], [], [], [6], [5, 6, 7], [5, 6, 7, 8], [4, 5, 6, 7, 8, 9], [0, 1, 2, 3, 4, 5, 6, 7, 8, 9, 10], [0, 1, 2, 3, 4, 5, 6, 7, 8, 9, 10, 11], [0, 1, 2, 3, 4, 5, 6, 7, 8, 9, 10, 11, 12]] [[79, 80, 81, 82, 83, 84, 85, 86, 87, 88, 89], [79, 80, 81, 82, 83, 84, 85, 86, 87, 88, 89], [81, 82, 83, 84, 85, 86, 87, 88, 89], [82, 83, 84, 85, 86, 87, 88, 89], [79, 80, 81, 82, 83, 84, 85, 86, 87, 88, 89], [79, 80, 81, 82, 83, 84, 85, 86, 87, 88, 89], [79, 80, 81, 82, 83, 84, 85, 86, 87, 88, 89], [79, 80, 81, 82, 83, 84, 86, 87, 88, 89], [79, 80, 81, 82, 83, 87, 88, 89], [79, 80, 81, 82, 83, 88, 89], [79, 80, 81, 82, 89]] (by decide) ?_
                  simp [hw2]
                  refine ⟨⟨by omega, by omega⟩, by omega, fun a ha => ⟨by omega, fun b hb => ?_⟩⟩
                  have ha' : (kraw p n i k)[j + 1]? = some a := by
                    rw [hz, List.getElem?_append_left (by simp [kraw_length]; omega), List.getElem?_take] at ha
                    simpa using ha
                  have hb' : (kraw p n i k)[j]? = some b := by
                    rw [hz, List.getElem?_append_left (by simp [kraw_length]; omega), List.getElem?_take] at hb
                    simpa [show j < j + 1 + 1 by omega] using hb
                  have ba := hkb a (List.mem_of_getElem? ha')
                  have bb := hkb b (List.mem_of_getElem? hb')
                  have hm1 : -1 * b ≤ 12 * 13 ^ 10 := by omega
                  have hw3 : IntKind.i64.wrap (-b) = -b := by rw [wrap64] <;> omega
                  have hw4 : IntKind.i64.wrap (a + -b) = a + -b := by rw [wrap64] <;> omega
                  have hset : zs.set (j + 1) (a + -b) = (kraw p n i k).take (j + 1) ++ (kraw p n i (k + 1)).drop (j + 1) := by
                    rw [hz]
                    have := ms_step (f := -1) ha' hb'
                    simpa [kraw, show k < i by omega] using this
                  have hbj : j + 1 < zs.length := by omega
                  refine S 60 _ _ ?_
                  simp [hw3, hw4]
                  refine ⟨⟨by omega, by omega⟩, by omega, ?_⟩
                  refine Nxt.mk (j, zs.set (j + 1) (a + -b)) ⟨by show j ≤ n; omega, hset⟩ (by simp [hw2, List.map_set]) (by show j < j + 1; omega)
                · have hj : j = 0 := by omega
                  subst hj
                  have hzn : zs = kraw p n i (k + 1) := by rw [hz]; exact ms_done _ _
                  rw [hzn]
                  refine S 60 _ _ ?_
                  simp
                  exact Nxt.mk (k + 1) hkn (by simp [wrapS (i := k) (n := n) hkn (by omega)]) (by show n - (k + 1) < n - k; omega)
            · have e : k = n := by omega
              rw [e]
              have hkl := kraw_length p n i n
              clear hk hkb h13 hkn
              refine S 60 _ _ ?_
              simp [hkl]
              refine J.loop hw (fun j : Nat => ⟨[(0, .c (.d (i64 p))), (1, .c (.d (vInts ws))), (6, .c (.d (i64 n))), (7, .c (.d (i64 T))), (10, .c (.ob 64010)), (11, .c (.ob 64011)), (53, .c (.d (vInts ws))), (54, .c (.d (i64 ws.length))), (55, .c (.d (i64 i))), (13, .c (.d (i64 wt))), (93, .c (.ob 64014)), (94, .c (.d (i64 ((n + 1 : Nat) : Int)))), (95, .c (.d (i64 j)))], [(64010, .arr 2 1 (ints (rm (n + 1) (mx j (oI p n ws T (i + 1)) (oI p n ws T i))))), (64011, .arr 2 1 (ints (rm (n + 1) (mx j (rI p n ws T (i + 1)) (rI p n ws T i))))), (64014, .arr 2 1 (ints (kraw p n i n)))]⟩)
                (fun j => j ≤ n + 1) (fun j => n + 1 - j) 0 (by omega) (by simp [rm_start]) ?_
              intro j hj
              have hO1 := rm_length (n + 1) (mx j (oI p n ws T (i + 1)) (oI p n ws T i))
              have hR1 := rm_length (n + 1) (mx j (rI p n ws T (i + 1)) (rI p n ws T i))
              have hO2 := fun h : j < n + 1 => rm_mx (g := oI p n ws T (i + 1)) (f := oI p n ws T i) h
              have hR2 := fun h : j < n + 1 => rm_mx (g := rI p n ws T (i + 1)) (f := rI p n ws T i) h
              have hO3 := fun h : j < n + 1 => rm_set (g := oI p n ws T (i + 1)) (f := oI p n ws T i) h
              have hR3 := fun h : j < n + 1 => rm_set (g := rI p n ws T (i + 1)) (f := rI p n ws T i) h
              have hO4 := rm_end (N := n + 1) (k := j) (oI p n ws T (i + 1)) (oI p n ws T i)
              have hR4 := rm_end (N := n + 1) (k := j) (rI p n ws T (i + 1)) (rI p n ws T i)
              generalize rm (n + 1) (mx j (oI p n ws T (i + 1)) (oI p n ws T i)) = os at hO1 hO2 hO3 hO4
              generalize rm (n + 1) (mx j (rI p n ws T (i + 1)) (rI p n ws T i)) = rs at hR1 hR2 hR3 hR4
              refine S 8 _ _ ?_
              simp
              refine ⟨fun hlt2 => ?_, fun hge2 => ?_⟩
              · have hj1 : j < n + 1 := by omega
                have hO2 := hO2 hj1
                have hR2 := hR2 hj1
                have hO3 := hO3 hj1
                have hR3 := hR3 hj1
                obtain ⟨bO, bR⟩ := oI_bound (p := p) hpp (n := n) (by omega) (ws := ws) hT.1 (fun i => ⟨(hgd i).1, (hgd i).2.1⟩) hj1 i
                obtain ⟨bO', bR'⟩ := oI_bound (p := p) hpp (n := n) (by omega) (ws := ws) hT.1 (fun i => ⟨(hgd i).1, (hgd i).2.1⟩) hj1 (i + 1)
                have bTi : T * i ≤ 1100000000 * 11 := Int.mul_le_mul (by omega) (by omega) (by omega) (by omega)
                have bTi' : T * ((i + 1 : Nat) : Int) ≤ 1100000000 * 11 := Int.mul_le_mul (by omega) (by omega) (by omega) (by omega)
                have hK := krN_get (p := p) (n := n) (i := i) hj1
                have hKb := krN_bound (p := p) (i := i) hpp (n := n) (by omega) hj1
                have c5 := parted_ok wt (krN p n i j) T ⟨hwb.1, hwb.2.2⟩ hKb hT hwb.2.1
                have eO : oI p n ws T (i + 1) j = oI p n ws T i j + wt * krN p n i j / T := by rw [oI, hwe]
                have eR : rI p n ws T (i + 1) j = rI p n ws T i j + wt * krN p n i j % T := by rw [rI, hwe]
                rw [eO] at hO3 bO'
                rw [eR] at hR3 bR'
                generalize krN p n i j = K at hK c5 eO eR hO3 hR3 bO' bR'
                generalize oI p n ws T i j = o at hO2 hO3 bO bO' eO
                generalize rI p n ws T i j = r at hR2 hR3 bR bR' eR
                generalize wt * K / T = wh at c5 hO3 bO' eO
                generalize wt * K % T = pt at c5 hR3 bR' eR
                have wO : IntKind.i64.wrap (o + wh) = o + wh := wrap64 (by omega) (by omega)
                have wR : IntKind.i64.wrap (r + pt) = r + pt := wrap64 (by omega) (by omega)
                refine S 7 _ _ ?_
                simp [hkl]
                refine ⟨by omega, hj1, fun K' hK' => ?_⟩
                obtain rfl : K = K' := Option.some.inj (hK.symm.trans hK')
                refine S 60 _ _ ?_
                simp
                refine CallW.ok (by decide) (by simp) c5 (by simp) (S 13 _ _ ?_)
                simp [hO1, hR1]
                refine ⟨by omega, hj1, fun o' ho' => ?_⟩
                obtain rfl : o = o' := Option.some.inj (hO2.symm.trans ho')
                refine S 4 _ _ ?_
                simp [wO, hO1, hR1]
                refine ⟨by omega, hj1, ?_⟩
                refine S 7 _ _ ?_
                simp [wO, hO1, hR1]
                refine ⟨by omega, hj1, fun r' hr' => ?_⟩
                obtain rfl : r = r' := Option.some.inj (hR2.symm.trans hr')
                refine S 4 _ _ ?_
                simp [wR, hO1, hR1]
                refine ⟨by omega, hj1, ?_⟩
                refine S 60 _ _ ?_
                simp
                exact Nxt.mk (j + 1) hj1 (by simp [wrapS (i := j) (n := n + 1) hj1 (by omega), ← hO3, ← hR3, List.map_set]) (by omega)
              · rw [hO4 (by omega), hR4 (by omega)]
                refine S 60 _ _ ?_
                simp
                exact Nxt.mk (i + 1) hlt (by simp [wrapS (i := i) (n := ws.length) hlt (by omega)]) (by omega)
          · have ein : i = n + 1 := by omega
            have hdv : ∀ k < n + 1, (T ∣ sumK p n ws k (n + 1) ↔ T ∣ rI p n ws T (n + 1) k) := fun k _ => dvd_of_sum (oI_sum k (n + 1))
            have hqu : ∀ k < n + 1, sumK p n ws k (n + 1) / T = oI p n ws T (n + 1) k + rI p n ws T (n + 1) k / T := fun k _ => quo_of_sum hT.1 (oI_sum k (n + 1))
            rw [hn] at htw
            rw [ein]
            clear hi hge ein hsi
            refine S 60 _ _ ?_
            simp [rm_length]
            refine J.loop hw (fun j : Nat => ⟨[(0, .c (.d (i64 p))), (1, .c (.d (vInts ws))), (6, .c (.d (i64 n))), (7, .c (.d (i64 T))), (10, .c (.ob 64010)), (11, .c (.ob 64011)), (123, .c (.ob 64011)), (124, .c (.d (i64 ((n + 1 : Nat) : Int)))), (125, .c (.d (i64 j)))],
                [(64010, .arr 2 1 (ints (rm (n + 1) (mx j (fun k => oI p n ws T (n + 1) k + rI p n ws T (n + 1) k / T) (oI p n ws T (n + 1)))))), (64011, .arr 2 1 (ints (rm (n + 1) (rI p n ws T (n + 1)))))]⟩)
              (fun j => j ≤ n + 1 ∧ ∀ k < j, T ∣ rI p n ws T (n + 1) k) (fun j => n + 1 - j) 0 (by simp) (by simp [rm_start]) ?_
            rintro j ⟨hj, hall⟩
            refine S 8 _ _ ?_
            simp [rm_length]
            refine ⟨fun hlt2 => ?_, fun hge2 => ?_⟩
            · have hlt2 : j < n + 1 := by omega
              obtain ⟨bO, bR⟩ := oI_bound (p := p) hpp (n := n) (by omega) (ws := ws) hT.1 (fun i => ⟨(hgd i).1, (hgd i).2.1⟩) hlt2 (n + 1)
              have bTi : T * ((n + 1 : Nat) : Int) ≤ 1100000000 * 11 := Int.mul_le_mul (by omega) (by omega) (by omega) (by omega)
              have hR2 := rm_get (f := rI p n ws T (n + 1)) hlt2
              have hO1 := rm_length (n + 1) (mx j (fun k => oI p n ws T (n + 1) k + rI p n ws T (n + 1) k / T) (oI p n ws T (n + 1)))
              have hR1 := rm_length (n + 1) (rI p n ws T (n + 1))
              have hO2 := rm_mx (g := fun k => oI p n ws T (n + 1) k + rI p n ws T (n + 1) k / T) (f := oI p n ws T (n + 1)) hlt2
              have hO3 := rm_set (g := fun k => oI p n ws T (n + 1) k + rI p n ws T (n + 1) k / T) (f := oI p n ws T (n + 1)) hlt2
              have hbad : ¬ T ∣ rI p n ws T (n + 1) j → res = ([], 5) := fun hn => by rw [htw, if_neg fun h => hn ((hdv j hlt2).1 (h j hlt2))]
              have hdvj : (rI p n ws T (n + 1) j % T = 0 ↔ T ∣ rI p n ws T (n + 1) j) := ⟨Int.dvd_of_emod_eq_zero, Int.emod_eq_zero_of_dvd⟩
              have hmod : (rI p n ws T (n + 1) j).tmod T = rI p n ws T (n + 1) j % T := Int.tmod_eq_emod_of_nonneg bR.1
              have hdiv : (rI p n ws T (n + 1) j).tdiv T = rI p n ws T (n + 1) j / T := Int.tdiv_eq_ediv_of_nonneg bR.1
              have hdb : 0 ≤ rI p n ws T (n + 1) j / T ∧ rI p n ws T (n + 1) j / T ≤ rI p n ws T (n + 1) j := ⟨Int.ediv_nonneg bR.1 (by omega), Int.ediv_le_self _ bR.1⟩
              generalize rm (n + 1) (mx j (fun k => oI p n ws T (n + 1) k + rI p n ws T (n + 1) k / T) (oI p n ws T (n + 1))) = os at hO1 hO2 hO3 ⊢
              generalize hrs : rm (n + 1) (rI p n ws T (n + 1)) = rs at hR1 hR2 ⊢
              have hall2 : T ∣ rI p n ws T (n + 1) j → ∀ k < j + 1, T ∣ rI p n ws T (n + 1) k := fun h k hk => by
                by_cases e : k = j
                · rw [e]; exact h
                · exact hall k (by omega)
              generalize rI p n ws T (n + 1) j = r at hR2 hO3 bR hbad hdvj hmod hdiv hdb hall2
              generalize oI p n ws T (n + 1) j = o at hO2 hO3 bO
              have wO : IntKind.i64.wrap (o + r / T) = o + r / T := wrap64 (by omega) (by omega)
              refine S 7 _ _ ?_
              simp [hR1]
              refine ⟨by omega, hlt2, fun r' hr' => ?_⟩
              obtain rfl : r = r' := Option.some.inj (hR2.symm.trans hr')
              have wD : IntKind.i64.wrap (r / T) = r / T := wrap64 (by omega) (by omega)
              by_cases hd : T ∣ r
              · have hz := hdvj.2 hd
                rw [hz] at hmod
                refine S 60 _ _ ?_
                simp [hmod, hT0]
                refine J.dr hF mixed 7 [[], [], [0, 1], [0, 1, 2], [], [], [4, 5], [0, 1, 2, 3, 4, 5, 6], [0, 1, 2, 3, 4, 5, 6, 7], [0, 1, 2, 3, 4, 5, 6, 7, 8]] [[134, 135, 136, 137, 138, 139, 140], [134, 135, 136, 137, 138, 139, 140], [136, 137, 138, 139, 140], [137, 138, 139, 140], [134, 135, 136, 137, 138, 139, 140], [134, 135, 136, 137, 138, 139, 140], [134, 135, 136, 137, 140]] (by decide) ?_
                simp [hO1, hT0]
                refine ⟨by omega, hlt2, fun o' ho' => ?_⟩
                obtain rfl : o = o' := Option.some.inj (hO2.symm.trans ho')
                simp [hdiv, wD, wO]
                refine S 60 _ _ ?_
                simp [hO1, wO]
                exact ⟨by omega, hlt2, Nxt.mk (j + 1) ⟨hlt2, hall2 hd⟩ (by simp [wrapS (i := j) (n := n + 1) hlt2 (by omega), ← hO3, List.map_set]) (by omega)⟩
              · have e := hbad hd
                have hne : ¬ r % T = 0 := fun h => hd (hdvj.1 h)
                subst e
                refine S 60 _ _ ?_
                simp [hmod, hT0, hne]
            · have hjn : j = n + 1 := by omega
              rw [hjn] at hall ⊢
              have hres2 : res = (rm (n + 1) (fun k => oI p n ws T (n + 1) k + rI p n ws T (n + 1) k / T), 0) := by
                rw [htw, if_pos fun k hk => (hdv k hk).2 (hall k hk)]
                congr 1
                exact List.map_congr_left fun k hk => hqu k (List.mem_range.1 hk)
              rw [rm_end _ _ (Nat.le_refl _)]
              subst hres2
              refine S 60 _ _ ?_
              simp
    · rw [decide_eq_false hc] at c2
      have e : twOf p ws = ([], 2) := if_neg fun h => hc h.2
      rw [e] at S ⊢
      simp
      refine CallW.ok (by decide) (by simp) c1 (by simp) (S 60 _ _ ?_)
      simp
      refine CallW.ok (by decide) (by simp) c2 (by simp) (S 60 _ _ ?_)
      simp
  · rw [decide_eq_false hp] at c1
    have e : twOf p ws = ([], 2) := if_neg fun h => hp h.1
    rw [e] at S ⊢
    simp
    refine CallW.ok (by decide) (by simp) c1 (by simp) (S 60 _ _ ?_)
    simp

end Go.Sm

namespace Go.Sm
open Go.RowKit

theorem J.cleanT {P : Program} {N : Nat} {w0 : Base} {s : St} (hw : w0.ok64) {Q : Exit → Act → World → Prop} {k : List It} (t : St) (h : Fit (autoRn s t) s t) (hj : J P N w0 Q k t) : J P N w0 Q k s := J.fit hw h hj

set_option maxHeartbeats 2000000 in
set_option maxRecDepth 4000 in
theorem specTransformWeights_ok (p : Int) (ws : List Int) (hl : ws.length ≤ 1048576) : CallOK Go.Proofs.Try.prog 15 [.one (i64 p), .one (vInts ws)] (tres (twOf p ws)) := by
  have hF := fnOk 136 [.tmp 4, .tmp 5]
  refine callOK hF 60 Go.Proofs.Try.func15 rfl rfl rfl (by decide) (by simp) rfl ?_
  intro w0 hw
  have S := @vc_sound w0 _ hF ⟨(tres (twOf p ws)), []⟩ Go.Proofs.Try.f15 rfl (by simp)
  have c1 := l01Prime_ok p
  have c2 := l10Counts_ok ws hl
  by_cases hp : Pr p
  · rw [decide_eq_true hp] at c1
    by_cases hc : Cnt ws
    · rw [decide_eq_true hc] at c2
      have hpp : 2 ≤ p ∧ p ≤ 13 := by unfold Pr at hp; omega
      have hsb := fun i => sum_bounds (xs := ws.take i) (c := 100000000) (fun x hx => by have := hc.1 x (List.take_subset _ _ hx); omega)
      have hlen := hc.2
      have htw : twOf p ws = if ws.sum = 0 then ([], 5) else if ∀ k < ws.length, ws.sum ∣ sumK p (ws.length - 1) ws k ws.length then ((List.range ws.length).map fun k => sumK p (ws.length - 1) ws k ws.length / ws.sum, 0) else ([], 5) := if_pos ⟨hp, hc⟩
      have hgd := getD_facts hc
      generalize hres : twOf p ws = res at htw S ⊢
      have hw1 : IntKind.i64.wrap ((ws.length : Int) - 1) = ((ws.length - 1 : Nat) : Int) := by rw [wrap64] <;> omega
      simp
      refine CallW.ok (by decide) (by simp) c1 (by simp) (S 60 _ _ ?_)
      simp
      refine CallW.ok (by decide) (by simp) c2 (by simp) (S 60 _ _ ?_)
      simp [hw1]
      obtain ⟨n, hn⟩ : ∃ n, ws.length = n + 1 := ⟨ws.length - 1, by omega⟩
      have hn1 : ws.length - 1 = n := by omega
      rw [hn1] at htw ⊢
      refine J.loop hw (fun i : Nat => ⟨[(0, .c (.d (i64 p))), (1, .c (.d (vInts ws))), (6, .c (.d (i64 n))), (8, .c (.d (i64 i))), (7, .c (.d (i64 (ws.take i).sum)))], []⟩)
        (fun i => i ≤ ws.length) (fun i => ws.length - i) 0 (by simp) (by simp) ?_
      intro i hi
      have hsi := hsb i
      have hss := hsb (i + 1)
      rw [List.length_take] at hsi hss
      have hst := fun x (h : ws[i]? = some x) => sum_take h
      refine S 12 _ _ ?_
      simp
      refine ⟨fun hlt => ?_, fun hge => ?_⟩
      · obtain ⟨x, hx⟩ : ∃ x, ws[i]? = some x := ⟨ws[i], List.getElem?_eq_getElem hlt⟩
        have hst := hst x hx
        generalize (ws.take i).sum = sm at hsi hst
        have hwS : IntKind.i64.wrap (sm + x) = sm + x := wrap64 (by omega) (by omega)
        refine S 60 _ _ ?_
        simp
        refine ⟨hlt, fun x' hx' => ?_⟩
        obtain rfl : x = x' := Option.some.inj (hx.symm.trans hx')
        simp [hwS]
        exact Nxt.mk (i + 1) hlt (by simp [wrapS (i := i) (n := ws.length) hlt (by omega), hst]) (by omega)
      · have e : ws.take i = ws := List.take_of_length_le hge
        rw [e] at hsi ⊢
        clear hi hss hst hge e
        by_cases hT0 : ws.sum = 0
        · rw [if_pos hT0] at htw
          subst htw
          rw [hT0]
          refine S 60 _ _ ?_
          simp
        · rw [if_neg hT0] at htw
          have hT : 0 < ws.sum ∧ ws.sum ≤ 1100000000 := by omega
          have hgd := fun i => hgd i (by omega)
          generalize ws.sum = T at htw hT hT0 hgd ⊢
          have hTb : (T == 0) = false := by simpa using hT0
          have hwn : IntKind.i64.wrap ((n : Int) + 1) = ((n + 1 : Nat) : Int) := by rw [wrap64] <;> omega
          refine S 60 _ _ ?_
          simp [hTb]
          refine J.dr hF mixed 7 [[], [0], [0, 1], [], [3], [3, 4], [0, 1, 2], [0, 1, 2, 3, 4, 5, 6]] [[42, 43, 44, 45, 46, 47, 9], [43, 44, 45, 46, 47, 9], [44, 45, 46, 47, 9], [42, 43, 44, 45, 46, 47, 9], [42, 43, 44, 46, 47, 9], [42, 43, 44, 47, 9], [45, 46, 47, 9]] (by decide) ?_
          simp [hwn]
          refine ⟨⟨by omega, by omega, by omega⟩, ?_⟩
          refine S 60 _ _ ?_
          simp
          refine J.loop hw (fun i : Nat => ⟨[(0, .c (.d (i64 p))), (1, .c (.d (vInts ws))), (6, .c (.d (i64 n))), (7, .c (.d (i64 T))), (9, .c (.ob 64009)), (10, .c (.ob 64010)), (11, .c (.d (i64 i)))],
              [(64009, .arr 2 1 (ints (rm (n + 1) fun k => (oS' p n ws T i k).1))), (64010, .arr 2 1 (ints (rm (n + 1) fun k => (oS' p n ws T i k).2)))]⟩)
            (fun i => i ≤ n + 1) (fun i => n + 1 - i) 0 (by omega) (by simp [oS', rm_zero]) ?_
          intro i hi
          refine S 12 _ _ ?_
          simp
          refine ⟨fun hlt => ?_, fun hge => ?_⟩
          · obtain ⟨wt, hwt⟩ : ∃ wt, ws[i]? = some wt := ⟨ws[i]'(by omega), List.getElem?_eq_getElem (by omega)⟩
            have hwe : ws.getD i 0 = wt := by rw [List.getD_eq_getElem?_getD, hwt]; rfl
            have hwb := hgd i
            rw [hwe] at hwb
            have c5 := l10Krawtchouk_ok p n i hpp (by omega)
            have hkl := kraw_length p n i n
            refine S 60 _ _ ?_
            simp
            refine CallW.ok (by decide) (by simp) c5 (by simp) (S 60 _ _ ?_)
            simp
            refine J.loop hw (fun j : Nat => ⟨[(0, .c (.d (i64 p))), (1, .c (.d (vInts ws))), (6, .c (.d (i64 n))), (7, .c (.d (i64 T))), (9, .c (.ob 64009)), (10, .c (.ob 64010)), (11, .c (.d (i64 i))), (12, .c (.ob 64012)), (13, .c (.d (i64 j)))],
                [(64009, .arr 2 1 (ints (rm (n + 1) (mx j (fun k => (oS' p n ws T (i + 1) k).1) fun k => (oS' p n ws T i k).1)))), (64010, .arr 2 1 (ints (rm (n + 1) (mx j (fun k => (oS' p n ws T (i + 1) k).2) fun k => (oS' p n ws T i k).2)))), (64012, .arr 2 1 (ints (kraw p n i n)))]⟩)
              (fun j => j ≤ n + 1) (fun j => n + 1 - j) 0 (by omega) (by simp [rm_start]) ?_
            intro j hj
            have hO1 := rm_length (n + 1) (mx j (fun k => (oS' p n ws T (i + 1) k).1) fun k => (oS' p n ws T i k).1)
            have hR1 := rm_length (n + 1) (mx j (fun k => (oS' p n ws T (i + 1) k).2) fun k => (oS' p n ws T i k).2)
            have hO2 := fun h : j < n + 1 => rm_mx (g := fun k => (oS' p n ws T (i + 1) k).1) (f := fun k => (oS' p n ws T i k).1) h
            have hR2 := fun h : j < n + 1 => rm_mx (g := fun k => (oS' p n ws T (i + 1) k).2) (f := fun k => (oS' p n ws T i k).2) h
            have hO3 := fun h : j < n + 1 => rm_set (g := fun k => (oS' p n ws T (i + 1) k).1) (f := fun k => (oS' p n ws T i k).1) h
            have hR3 := fun h : j < n + 1 => rm_set (g := fun k => (oS' p n ws T (i + 1) k).2) (f := fun k => (oS' p n ws T i k).2) h
            have hO4 := rm_end (N := n + 1) (k := j) (fun k => (oS' p n ws T (i + 1) k).1) (fun k => (oS' p n ws T i k).1)
            have hR4 := rm_end (N := n + 1) (k := j) (fun k => (oS' p n ws T (i + 1) k).2) (fun k => (oS' p n ws T i k).2)
            generalize rm (n + 1) (mx j (fun k => (oS' p n ws T (i + 1) k).1) fun k => (oS' p n ws T i k).1) = os at hO1 hO2 hO3 hO4
            generalize rm (n + 1) (mx j (fun k => (oS' p n ws T (i + 1) k).2) fun k => (oS' p n ws T i k).2) = rs at hR1 hR2 hR3 hR4
            refine S 12 _ _ ?_
            simp
            refine ⟨fun hlt2 => ?_, fun hge2 => ?_⟩
            · have hj1 : j < n + 1 := by omega
              have hO2 := hO2 hj1
              have hR2 := hR2 hj1
              have hO3 := hO3 hj1
              have hR3 := hR3 hj1
              obtain ⟨bO, bR⟩ := oS_bound (p := p) hpp (n := n) (by omega) (ws := ws) hT hgd hj1 i
              have hK := krN_get (p := p) (n := n) (i := i) hj1
              have hKb := krN_bound (p := p) (i := i) hpp (n := n) (by omega) hj1
              have hwh := whole_bound ⟨hwb.1, hwb.2.1⟩ hT.1 hKb
              have hpt := part_bound (K := krN p n i j) ⟨hwb.1, hwb.2.2⟩ hT
              have hpr := tmod_range (krN p n i j) T hT.1
              have hqb := tdiv_bound hT.1 hKb
              have e1 : (oS' p n ws T (i + 1) j).1 = (oS' p n ws T i j).1 + (krN p n i j).tdiv T * wt + (rest1 wt (krN p n i j) (oS' p n ws T i j).2 T).tdiv T := by rw [oS', hwe]
              have e2 : (oS' p n ws T (i + 1) j).2 = (rest1 wt (krN p n i j) (oS' p n ws T i j).2 T).tmod T := by rw [oS', hwe]
              rw [e1] at hO3
              rw [e2] at hR3
              have hr1 : rest1 wt (krN p n i j) (oS' p n ws T i j).2 T = (oS' p n ws T i j).2 + (krN p n i j).tmod T * wt := rfl
              generalize rest1 wt (krN p n i j) (oS' p n ws T i j).2 T = r1 at hr1 hO3 hR3
              generalize krN p n i j = K at hK hKb hwh hpt hpr hqb hr1 hO3
              generalize (oS' p n ws T i j).1 = o at hO2 hO3 bO
              generalize (oS' p n ws T i j).2 = r at hR2 hR3 bR hr1
              have hr1b := tdiv_bound (x := r1) (C := 120000000000000000) hT.1 (by omega)
              have hr1m := tmod_range r1 T hT.1
              have wq : IntKind.i64.wrap (K.tdiv T) = K.tdiv T := wrap64 (by omega) (by omega)
              generalize hqd : K.tdiv T = q at hwh hqb hO3 wq
              generalize hmd : K.tmod T = m at hpt hpr hr1
              have wqw : IntKind.i64.wrap (q * wt) = q * wt := wrap64 (by omega) (by omega)
              have wmw : IntKind.i64.wrap (m * wt) = m * wt := wrap64 (by omega) (by omega)
              have wo1 : IntKind.i64.wrap (o + q * wt) = o + q * wt := wrap64 (by omega) (by omega)
              have wr1 : IntKind.i64.wrap (r + m * wt) = r1 := by rw [hr1]; exact wrap64 (by omega) (by omega)
              have wd : IntKind.i64.wrap (r1.tdiv T) = r1.tdiv T := wrap64 (by omega) (by omega)
              have wo2 : IntKind.i64.wrap (o + q * wt + r1.tdiv T) = o + q * wt + r1.tdiv T := wrap64 (by omega) (by omega)
              refine S 60 _ _ ?_
              simp
              refine J.dr hF mixed 13 [[], [], [0, 1], [0, 1, 2], [], [0, 1, 2, 3, 4], [], [], [6, 7], [6, 7, 8], [], [6, 7, 8, 9, 10], [0, 1, 2, 3, 4, 5], [0, 1, 2, 3, 4, 5, 6, 7, 8, 9, 10, 11, 12]] [[62, 63, 64, 65, 66, 67, 68, 69, 70, 71, 72, 73, 14], [62, 63, 64, 65, 66, 67, 68, 69, 70, 71, 72, 73, 14], [64, 65, 66, 67, 68, 69, 70, 71, 72, 73, 14], [65, 66, 67, 68, 69, 70, 71, 72, 73, 14], [62, 63, 64, 65, 66, 67, 68, 69, 70, 71, 72, 73, 14], [67, 68, 69, 70, 71, 72, 73, 14], [62, 63, 64, 65, 66, 67, 68, 69, 70, 71, 72, 73, 14], [62, 63, 64, 65, 66, 67, 68, 69, 70, 71, 72, 73, 14], [62, 63, 64, 65, 66, 67, 70, 71, 72, 73, 14], [62, 63, 64, 65, 66, 67, 71, 72, 73, 14], [62, 63, 64, 65, 66, 67, 68, 69, 70, 71, 72, 73, 14], [62, 63, 64, 65, 66, 67, 73, 14], [68, 69, 70, 71, 72, 73, 14]] (by decide) ?_
              rw [← List.take_append_drop 4 (List.take _ _)]
              generalize htl : List.drop 4 (List.take _ _) = tl
              simp [hkl]
              refine ⟨by omega, hj1, fun K' hK' => ?_⟩
              obtain rfl : K = K' := Option.some.inj (hK.symm.trans hK')
              subst htl
              simp [hkl, hT0, hqd, hmd, wq]
              refine ⟨by omega, hj1, fun K' hK' => ?_⟩
              obtain rfl : K = K' := Option.some.inj (hK.symm.trans hK')
              simp [hmd]
              refine S 60 _ _ ?_
              simp
              refine J.keep [0, 1, 6, 7, 9, 10, 11, 12, 13, 14, 15] ?_
              simp
              refine J.dr hF mixed 13 [[], [], [], [], [2, 3], [2, 3, 4], [], [], [], [7, 8], [7, 8, 9], [6, 7, 8, 9, 10], [2, 3, 4, 5, 6, 7, 8, 9, 10, 11], [0, 1, 2, 3, 4, 5, 6, 7, 8, 9, 10, 11, 12], [0, 1, 2, 3, 4, 5, 6, 7, 8, 9, 10, 11, 12, 13]] [[74, 75, 76, 77, 78, 79, 80, 81, 82, 83, 84, 85, 86], [74, 75, 76, 77, 78, 79, 80, 81, 82, 83, 84, 85, 86], [74, 75, 76, 77, 78, 79, 80, 81, 82, 83, 84, 85, 86], [74, 75, 76, 77, 78, 79, 80, 81, 82, 83, 84, 85, 86], [74, 75, 78, 79, 80, 81, 82, 83, 84, 85, 86], [74, 75, 79, 80, 81, 82, 83, 84, 85, 86], [74, 75, 76, 77, 78, 79, 80, 81, 82, 83, 84, 85, 86], [74, 75, 76, 77, 78, 79, 80, 81, 82, 83, 84, 85, 86], [74, 75, 76, 77, 78, 79, 80, 81, 82, 83, 84, 85, 86], [74, 75, 76, 77, 78, 79, 80, 83, 84, 85, 86], [74, 75, 76, 77, 78, 79, 80, 84, 85, 86], [74, 75, 76, 77, 78, 79, 85, 86], [74, 75, 86]] (by decide) ?_
              rw [← List.take_append_drop 6 (List.take _ _)]
              generalize htl : List.drop 6 (List.take _ _) = tl
              simp [hO1]
              refine ⟨by omega, hj1, fun o' ho' => ?_⟩
              obtain rfl : o = o' := Option.some.inj (hO2.symm.trans ho')
              subst htl
              simp
              refine ⟨by omega, fun w' hw' => ?_⟩
              obtain rfl : wt = w' := Option.some.inj (hwt.symm.trans hw')
              obtain ⟨os1, ho1⟩ : ∃ l, l = os.set j (o + q * wt) := ⟨_, rfl⟩
              have l1 : os1.length = n + 1 := by rw [ho1, List.length_set, hO1]
              have gg1 : os1[j]? = some (o + q * wt) := by rw [ho1]; simp [hO1, hj1]
              have s1 : ∀ x, os1.set j x = os.set j x := fun x => by rw [ho1]; simp
              have i1 : (ints os).set j [i64 (o + q * wt)] = ints os1 := by rw [ho1]; simp [List.map_set]
              obtain ⟨rs1, hr1e⟩ : ∃ l, l = rs.set j r1 := ⟨_, rfl⟩
              have l2 : rs1.length = n + 1 := by rw [hr1e, List.length_set, hR1]
              have gg2 : rs1[j]? = some r1 := by rw [hr1e]; simp [hR1, hj1]
              have s2 : ∀ x, rs1.set j x = rs.set j x := fun x => by rw [hr1e]; simp
              have i2 : (ints rs).set j [i64 r1] = ints rs1 := by rw [hr1e]; simp [List.map_set]
              rw [← s1] at hO3
              rw [← s2] at hR3
              refine S 4 _ _ ?_
              simp [hO1, wqw, wo1]
              refine ⟨by omega, hj1, ?_⟩
              refine J.cleanT hw (t := ⟨[(0, .c (.d (i64 p))), (1, .c (.d (vInts ws))), (6, .c (.d (i64 n))), (7, .c (.d (i64 T))), (9, .c (.ob 64009)), (10, .c (.ob 64010)), (11, .c (.d (i64 i))), (12, .c (.ob 64012)), (13, .c (.d (i64 j))), (14, .c (.d (i64 q))), (15, .c (.d (i64 m)))], [(64009, .arr 2 1 (ints os1)), (64010, .arr 2 1 (ints rs)), (64012, .arr 2 1 (ints (kraw p n i n)))]⟩) (by simp [i1]) ?_
              clear i1 ho1
              refine S 3 _ _ ?_
              simp
              refine J.dr hF mixed 13 [[], [], [], [], [2, 3], [2, 3, 4], [], [], [], [7, 8], [7, 8, 9], [6, 7, 8, 9, 10], [2, 3, 4, 5, 6, 7, 8, 9, 10, 11], [0, 1, 2, 3, 4, 5, 6, 7, 8, 9, 10, 11, 12], [0, 1, 2, 3, 4, 5, 6, 7, 8, 9, 10, 11, 12, 13]] [[88, 89, 90, 91, 92, 93, 94, 95, 96, 97, 98, 99, 100], [88, 89, 90, 91, 92, 93, 94, 95, 96, 97, 98, 99, 100], [88, 89, 90, 91, 92, 93, 94, 95, 96, 97, 98, 99, 100], [88, 89, 90, 91, 92, 93, 94, 95, 96, 97, 98, 99, 100], [88, 89, 92, 93, 94, 95, 96, 97, 98, 99, 100], [88, 89, 93, 94, 95, 96, 97, 98, 99, 100], [88, 89, 90, 91, 92, 93, 94, 95, 96, 97, 98, 99, 100], [88, 89, 90, 91, 92, 93, 94, 95, 96, 97, 98, 99, 100], [88, 89, 90, 91, 92, 93, 94, 95, 96, 97, 98, 99, 100], [88, 89, 90, 91, 92, 93, 94, 97, 98, 99, 100], [88, 89, 90, 91, 92, 93, 94, 98, 99, 100], [88, 89, 90, 91, 92, 93, 99, 100], [88, 89, 100]] (by decide) ?_
              rw [← List.take_append_drop 6 (List.take _ _)]
              generalize htl : List.drop 6 (List.take _ _) = tl
              simp [hR1]
              refine ⟨by omega, hj1, fun r' hr' => ?_⟩
              obtain rfl : r = r' := Option.some.inj (hR2.symm.trans hr')
              subst htl
              simp
              refine ⟨by omega, fun w' hw' => ?_⟩
              obtain rfl : wt = w' := Option.some.inj (hwt.symm.trans hw')
              refine S 4 _ _ ?_
              simp [hR1, wmw, wr1]
              refine ⟨by omega, hj1, ?_⟩
              refine J.cleanT hw (t := ⟨[(0, .c (.d (i64 p))), (1, .c (.d (vInts ws))), (6, .c (.d (i64 n))), (7, .c (.d (i64 T))), (9, .c (.ob 64009)), (10, .c (.ob 64010)), (11, .c (.d (i64 i))), (12, .c (.ob 64012)), (13, .c (.d (i64 j))), (14, .c (.d (i64 q))), (15, .c (.d (i64 m)))], [(64009, .arr 2 1 (ints os1)), (64010, .arr 2 1 (ints rs1)), (64012, .arr 2 1 (ints (kraw p n i n)))]⟩) (by simp [i2]) ?_
              clear i2 hr1e
              refine S 3 _ _ ?_
              simp
              refine J.dr hF mixed 13 [[], [], [], [], [2, 3], [2, 3, 4], [], [], [6, 7], [6, 7, 8], [], [6, 7, 8, 9, 10], [2, 3, 4, 5, 6, 7, 8, 9, 10, 11], [0, 1, 2, 3, 4, 5, 6, 7, 8, 9, 10, 11, 12], [0, 1, 2, 3, 4, 5, 6, 7, 8, 9, 10, 11, 12, 13]] [[102, 103, 104, 105, 106, 107, 108, 109, 110, 111, 112, 113, 114], [102, 103, 104, 105, 106, 107, 108, 109, 110, 111, 112, 113, 114], [102, 103, 104, 105, 106, 107, 108, 109, 110, 111, 112, 113, 114], [102, 103, 104, 105, 106, 107, 108, 109, 110, 111, 112, 113, 114], [102, 103, 106, 107, 108, 109, 110, 111, 112, 113, 114], [102, 103, 107, 108, 109, 110, 111, 112, 113, 114], [102, 103, 104, 105, 106, 107, 108, 109, 110, 111, 112, 113, 114], [102, 103, 104, 105, 106, 107, 108, 109, 110, 111, 112, 113, 114], [102, 103, 104, 105, 106, 107, 110, 111, 112, 113, 114], [102, 103, 104, 105, 106, 107, 111, 112, 113, 114], [102, 103, 104, 105, 106, 107, 108, 109, 110, 111, 112, 113, 114], [102, 103, 104, 105, 106, 107, 113, 114], [102, 103, 114]] (by decide) ?_
              rw [← List.take_append_drop 6 (List.take _ _)]
              generalize htl : List.drop 6 (List.take _ _) = tl
              simp [l1]
              refine ⟨by omega, hj1, fun o' ho' => ?_⟩
              obtain rfl : o + q * wt = o' := Option.some.inj (gg1.symm.trans ho')
              subst htl
              simp [l2, hT0]
              refine ⟨by omega, hj1, fun r' hr' => ?_⟩
              obtain rfl : r1 = r' := Option.some.inj (gg2.symm.trans hr')
              refine S 4 _ _ ?_
              simp [l1, wd, wo2]
              refine ⟨by omega, hj1, ?_⟩
              obtain ⟨os2, ho2⟩ : ∃ l, l = os1.set j (o + q * wt + r1.tdiv T) := ⟨_, rfl⟩
              have i3 : (ints os1).set j [i64 (o + q * wt + r1.tdiv T)] = ints os2 := by rw [ho2]; simp [List.map_set]
              rw [← ho2] at hO3
              refine J.cleanT hw (t := ⟨[(0, .c (.d (i64 p))), (1, .c (.d (vInts ws))), (6, .c (.d (i64 n))), (7, .c (.d (i64 T))), (9, .c (.ob 64009)), (10, .c (.ob 64010)), (11, .c (.d (i64 i))), (12, .c (.ob 64012)), (13, .c (.d (i64 j)))], [(64009, .arr 2 1 (ints os2)), (64010, .arr 2 1 (ints rs1)), (64012, .arr 2 1 (ints (kraw p n i n)))]⟩) (by simp [i3]) ?_
              clear i3 ho2
              refine S 60 _ _ ?_
              simp [l2]
              refine ⟨by omega, hj1, fun r' hr' => ?_⟩
              obtain rfl : r1 = r' := Option.some.inj (gg2.symm.trans hr')
              simp [hT0, l2]
              exact ⟨hj1, Nxt.mk (j + 1) hj1 (by simp [wrapS (i := j) (n := n + 1) hj1 (by omega), ← hO3, ← hR3, ← s2, List.map_set]) (by omega)⟩
            · rw [hO4 (by omega), hR4 (by omega)]
              refine S 60 _ _ ?_
              simp
              exact Nxt.mk (i + 1) (by omega) (by simp [wrapS (i := i) (n := n + 1) (by omega) (by omega)]) (by omega)
          · have ein : i = n + 1 := by omega
            have hdv : ∀ k < n + 1, (T ∣ sumK p n ws k (n + 1) ↔ T ∣ (oS' p n ws T (n + 1) k).2) := fun k _ => dvd_of_sum (oS_sum k (n + 1))
            have hqu : ∀ k < n + 1, sumK p n ws k (n + 1) / T = (oS' p n ws T (n + 1) k).1 + (oS' p n ws T (n + 1) k).2 / T := fun k _ => quo_of_sum hT.1 (oS_sum k (n + 1))
            have hsm : ∀ k < n + 1, (T ∣ (oS' p n ws T (n + 1) k).2 ↔ (oS' p n ws T (n + 1) k).2 = 0) := fun k hk => small_dvd (oS_bound (p := p) hpp (n := n) (by omega) (ws := ws) hT hgd hk (n + 1)).2
            rw [hn] at htw
            rw [ein]
            clear hi hge ein hsi
            refine S 60 _ _ ?_
            simp
            refine J.loop hw (fun j : Nat => ⟨[(6, .c (.d (i64 n))), (9, .c (.ob 64009)), (10, .c (.ob 64010)), (16, .c (.d (i64 j)))],
                [(64009, .arr 2 1 (ints (rm (n + 1) fun k => (oS' p n ws T (n + 1) k).1))), (64010, .arr 2 1 (ints (rm (n + 1) fun k => (oS' p n ws T (n + 1) k).2)))]⟩)
              (fun j => j ≤ n + 1 ∧ ∀ k < j, (oS' p n ws T (n + 1) k).2 = 0) (fun j => n + 1 - j) 0 (by simp) (by simp) ?_
            rintro j ⟨hj, hall⟩
            refine S 12 _ _ ?_
            simp
            refine ⟨fun hlt2 => ?_, fun hge2 => ?_⟩
            · have hlt2 : j < n + 1 := by omega
              have hR1 := rm_length (n + 1) fun k => (oS' p n ws T (n + 1) k).2
              have hR2 := rm_get (f := fun k => (oS' p n ws T (n + 1) k).2) hlt2
              have hbad : ¬ (oS' p n ws T (n + 1) j).2 = 0 → res = ([], 5) := fun hn => by rw [htw, if_neg fun h => hn ((hsm j hlt2).1 ((hdv j hlt2).1 (h j hlt2)))]
              have hall2 : (oS' p n ws T (n + 1) j).2 = 0 → ∀ k < j + 1, (oS' p n ws T (n + 1) k).2 = 0 := fun h k hk => by
                by_cases e : k = j
                · rw [e]; exact h
                · exact hall k (by omega)
              generalize hrs : (rm (n + 1) fun k => (oS' p n ws T (n + 1) k).2) = rs at hR1 hR2 ⊢
              generalize (oS' p n ws T (n + 1) j).2 = r at hR2 hbad hall2
              refine S 60 _ _ ?_
              simp [hR1]
              refine ⟨by omega, hlt2, fun r' hr' => ?_⟩
              obtain rfl : r = r' := Option.some.inj (hR2.symm.trans hr')
              refine ⟨fun hne => ?_, fun h0 => ?_⟩
              · have e := hbad hne
                subst e
                exact ⟨rfl, rfl⟩
              · exact Nxt.mk (j + 1) ⟨hlt2, hall2 h0⟩ (by simp [wrapS (i := j) (n := n + 1) hlt2 (by omega), ← hrs]) (by omega)
            · have hjn : j = n + 1 := by omega
              rw [hjn] at hall
              have hres2 : res = (rm (n + 1) (fun k => (oS' p n ws T (n + 1) k).1), 0) := by
                rw [htw, if_pos fun k hk => (hdv k hk).2 ((hsm k hk).2 (hall k hk))]
                congr 1
                exact List.map_congr_left fun k hk => by
                  have hk := List.mem_range.1 hk
                  rw [hqu k hk, hall k hk]; simp
              subst hres2
              refine S 60 _ _ ?_
              simp
    · rw [decide_eq_false hc] at c2
      have e : twOf p ws = ([], 2) := if_neg fun h => hc h.2
      rw [e] at S ⊢
      simp
      refine CallW.ok (by decide) (by simp) c1 (by simp) (S 60 _ _ ?_)
      simp
      refine CallW.ok (by decide) (by simp) c2 (by simp) (S 60 _ _ ?_)
      simp
  · rw [decide_eq_false hp] at c1
    have e : twOf p ws = ([], 2) := if_neg fun h => hp h.1
    rw [e] at S ⊢
    simp
    refine CallW.ok (by decide) (by simp) c1 (by simp) (S 60 _ _ ?_)
    simp

end Go.Sm

namespace Go.Sm
open Go.RowKit

theorem twOf_small (p : Int) (ws : List Int) : (twOf p ws).1.length ≤ 11 := by
  unfold twOf
  split
  · rename_i h
    have h11 := h.2.2.2
    split
    · simp
    · split
      · simp; exact h11
      · simp
  · simp

set_option maxHeartbeats 1000000 in
set_option maxRecDepth 4000 in
theorem FnExactTransformWeights_ok (p : Int) (v : List Int) (hv0 : v.length ≤ maxLen) : CallOK Go.Proofs.Try.prog 3 [.one (i64 p), .one (vInts v)] (.one (bo true)) := by
  have hF := fnOk 98 [.tmp 4]
  refine callOK hF 60 Go.Proofs.Try.func3 rfl rfl rfl (by decide) (by simp) rfl ?_
  intro w0 hw
  have S := @vc_sound w0 _ hF ⟨(.one (bo true)), []⟩ Go.Proofs.Try.f3 rfl (by simp)
  have hm : maxLen = 9223372036854775807 := rfl
  by_cases hv : v.length ≤ 1048576
  · have hv' : ¬ (1048576 : Int) < v.length := by omega
    have c2 := toInt64S_ok v hv
    have c3 := specTransformWeights_ok p v hv
    have c4 := TransformWeights_ok p v hv
    have hR := twOf_small p v
    generalize twOf p v = r at c3 c4 hR
    obtain ⟨ys, er⟩ := r
    simp only at c3 c4 hR
    have c5 := eqInt64S_ok ys ys (by omega)
    rw [decide_eq_true rfl] at c5
    have c7 := eqInt64S_ok v v (by omega)
    rw [decide_eq_true rfl] at c7
    have c9 := markInt64S_ok v 1 (by omega) (by omega) (by omega)
    have c10 := markInt64S_ok ys 1 (by omega) (by omega) (by omega)
    have hml := markL_length ys.length 1
    have c11 := heldInt64S_ok (markL ys.length 1) 1 (by rw [hml]) (by omega) (by omega) (by omega)
    rw [hml] at c11
    simp [hv']
    refine CallW.ok (by decide) (by simp) c2 (by simp) (S 60 _ _ ?_)
    simp
    refine CallW.ok (by decide) (by simp) c3 (by simp) (S 60 _ _ ?_)
    simp
    refine CallW.ok (by decide) (by simp) c2 (by simp) (S 60 _ _ ?_)
    simp
    refine CallW.ok (by decide) (by simp) c4 (by simp) (S 60 _ _ ?_)
    simp
    refine CallW.ok (by decide) (by simp) c5 (by simp) (S 60 _ _ ?_)
    simp
    refine CallW.ok (by decide) (by simp) c2 (by simp) (S 60 _ _ ?_)
    simp
    refine CallW.ok (by decide) (by simp) c7 (by simp) (S 60 _ _ ?_)
    simp
    refine CallW.mut c9 (by decide) (by simp) (by simp) (by simp) (by simp) (by simp) (by simp) (S 60 _ _ ?_)
    simp
    refine ⟨fun _ => ?_, show (0 : Int) ≤ 1 + v.length by omega⟩
    refine CallW.ok (by decide) (by simp) c5 (by simp) (S 60 _ _ ?_)
    simp
    refine CallW.mut c10 (by decide) (by simp) (by simp) (by simp) (by simp) (by simp) (by simp) (S 60 _ _ ?_)
    simp
    refine CallW.ok (by decide) (by simp) c11 (by simp) (S 60 _ _ ?_)
    simp
    refine ⟨show (0 : Int) ≤ 1 + ys.length by omega, fun _ => ?_⟩
    refine CallW.ok (by decide) (by simp) c2 (by simp) (S 60 _ _ ?_)
    simp
    refine CallW.ok (by decide) (by simp) c4 (by simp) (S 60 _ _ ?_)
    simp
    refine CallW.ok (by decide) (by simp) c5 (by simp) (S 60 _ _ ?_)
    simp
    refine CallW.ok (by decide) (by simp) c11 (by simp) (S 60 _ _ ?_)
    simp
    exact show (0 : Int) ≤ 1 + ys.length by omega
  · simp [show (1048576 : Int) < v.length by omega]

end Go.Sm
