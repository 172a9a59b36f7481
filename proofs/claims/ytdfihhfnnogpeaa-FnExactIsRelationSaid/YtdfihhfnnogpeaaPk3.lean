/- Towards the rows of this seat: what the functions do, as contracts over plain data. -/
import Derived.Test.YtdfihhfnnogpeaaPk2
import Derived.Test.YtdfihhfnnogpeaaPk1
namespace Go.Sm
open Go.RowKit

/-- The exponents of a monomial. -/
structure Ex where
  a : UInt8
  b : UInt8
  c : UInt8
  deriving DecidableEq, Inhabited
/-- A term. -/
structure Tm where
  e : Ex
  v : Int
  deriving DecidableEq, Inhabited

abbrev u8 (x : UInt8) : D := .v (.int .u8 x.toNat)
abbrev Ex.ds (e : Ex) : List D := [u8 e.a, u8 e.b, u8 e.c]
abbrev terms (ts : List Tm) : List (List D) := ts.map fun t => [u8 t.e.a, u8 t.e.b, u8 t.e.c, i64 t.v]
abbrev vTerms (ts : List Tm) : D := .vw true 4 (terms ts)
abbrev oTerms (ts : List Tm) : D := .own 57 4 (terms ts)
/-- A polynomial: as an argument, and as a result. -/
abbrev pv (p d : Int) (ts : List Tm) : RV := .agg [i64 p, i64 d, vTerms ts]
abbrev po (p d : Int) (ts : List Tm) : RV := .agg [i64 p, i64 d, oTerms ts]
def Ex.deg (e : Ex) : Int := (e.a.toNat : Int) + e.b.toNat + e.c.toNat
/-- How two monomials stand to one another. -/
def cmpE (x y : Ex) : Int :=
  if x.deg - y.deg ≠ 0 then x.deg - y.deg else if x.a ≠ y.a then (y.a.toNat : Int) - x.a.toNat else (y.b.toNat : Int) - x.b.toNat

theorem cmpE_self (x : Ex) : cmpE x x = 0 := by simp [cmpE]
theorem u8_lt (x : UInt8) : x.toNat < 256 := x.toNat_lt
theorem deg_lt (x : Ex) : 0 ≤ x.deg ∧ x.deg < 768 := by
  have := u8_lt x.a; have := u8_lt x.b; have := u8_lt x.c
  unfold Ex.deg; omega

@[simp] theorem ble_tt {a b : Nat} (h : a ≤ b) : Nat.ble a b = true := by rw [Nat.ble_eq]; exact h
@[simp] theorem ble_ff {a b : Nat} (h : b < a) : Nat.ble a b = false := by
  cases hb : Nat.ble a b with
  | false => rfl
  | true => rw [Nat.ble_eq] at hb; omega
@[simp] theorem beq_tt (a : Nat) : Nat.beq a a = true := Nat.beq_refl a
@[simp] theorem beq_ff {a b : Nat} (h : a ≠ b) : Nat.beq a b = false := by
  cases hb : Nat.beq a b with
  | false => rfl
  | true => exact absurd (nat_beq hb) h
@[simp] theorem wrap64_0 : IntKind.i64.wrap 0 = 0 := rfl
@[simp] theorem wrap64_1 : IntKind.i64.wrap 1 = 1 := rfl
@[simp] theorem wrap64_2 : IntKind.i64.wrap 2 = 2 := rfl
@[simp] theorem wrap64_3 : IntKind.i64.wrap 3 = 3 := rfl
@[simp] theorem wrap64_4 : IntKind.i64.wrap 4 = 4 := rfl
@[simp] theorem wrap64_u8 (x : UInt8) : IntKind.i64.wrap (x.toNat : Int) = x.toNat := by
  have := u8_lt x
  exact wrap64 (by omega) (by omega)
@[simp] theorem wrap64_u8a (x y : UInt8) : IntKind.i64.wrap ((x.toNat : Int) + y.toNat) = x.toNat + y.toNat := by
  have := u8_lt x; have := u8_lt y
  exact wrap64 (by omega) (by omega)
@[simp] theorem wrap64_u8b (x y z : UInt8) : IntKind.i64.wrap ((x.toNat : Int) + y.toNat + z.toNat) = x.toNat + y.toNat + z.toNat := by
  have := u8_lt x; have := u8_lt y; have := u8_lt z
  exact wrap64 (by omega) (by omega)
@[simp] theorem wrap64_u8s (x y : UInt8) : IntKind.i64.wrap ((x.toNat : Int) - y.toNat) = x.toNat - y.toNat := by
  have := u8_lt x; have := u8_lt y
  exact wrap64 (by omega) (by omega)
@[simp] theorem wrap64_deg (x y : Ex) : IntKind.i64.wrap (x.deg - y.deg) = x.deg - y.deg := by
  have := deg_lt x; have := deg_lt y
  exact wrap64 (by omega) (by omega)
@[simp] theorem u8_bne (x y : UInt8) : ((x.toNat : Int) != (y.toNat : Int)) = (x != y) := by
  by_cases h : x = y
  · subst h; simp
  · have : (x.toNat : Int) ≠ y.toNat := fun e => h (UInt8.toNat_inj.1 (by omega))
    rw [show (x != y) = true from bne_iff_ne.2 h]
    exact bne_iff_ne.2 this
@[simp] theorem u8_beq (x y : UInt8) : ((x.toNat : Int) == (y.toNat : Int)) = (x == y) := by
  by_cases h : x = y
  · subst h; simp
  · have : (x.toNat : Int) ≠ y.toNat := fun e => h (UInt8.toNat_inj.1 (by omega))
    rw [show (x == y) = false from beq_eq_false_iff_ne.2 h]
    exact beq_eq_false_iff_ne.2 this
@[simp] theorem u8_beq0 (x : UInt8) : ((x.toNat : Int) == 0) = (x == 0) := u8_beq x 0
@[simp] theorem u8_bne0 (x : UInt8) : ((x.toNat : Int) != 0) = (x != 0) := u8_bne x 0

@[simp] theorem Ex.beq3 (x y : Ex) : (x.a == y.a && (x.b == y.b && x.c == y.c)) = decide (x = y) := by
  cases x; cases y
  rw [Bool.eq_iff_iff]
  simp

theorem degree_ok (e : Ex) : CallOK Go.Proofs.Try.prog 68 [.agg e.ds] (.one (i64 e.deg)) := by
  have hF := fnOk 14 [.tmp 2]
  refine callOK hF 60 Go.Proofs.Try.func68 rfl rfl rfl (by decide) (by simp) rfl ?_
  intro w0 hw
  have S := @vc_sound w0 _ hF ⟨(.one (i64 e.deg)), []⟩ Go.Proofs.Try.f68 rfl (by simp)
  simp [Ex.deg]

theorem l01Sum_ok (e : Ex) : CallOK Go.Proofs.Try.prog 78 [.agg e.ds] (.one (i64 e.deg)) := by
  have hF := fnOk 14 [.tmp 2]
  refine callOK hF 60 Go.Proofs.Try.func78 rfl rfl rfl (by decide) (by simp) rfl ?_
  intro w0 hw
  have S := @vc_sound w0 _ hF ⟨(.one (i64 e.deg)), []⟩ Go.Proofs.Try.f78 rfl (by simp)
  simp [Ex.deg]

theorem compareExps_ok (x y : Ex) : CallOK Go.Proofs.Try.prog 69 [.agg x.ds, .agg y.ds] (.one (i64 (cmpE x y))) := by
  have hF := fnOk 33 [.tmp 4]
  refine callOK hF 60 Go.Proofs.Try.func69 rfl rfl rfl (by decide) (by simp) rfl ?_
  intro w0 hw
  have S := @vc_sound w0 _ hF ⟨(.one (i64 (cmpE x y))), []⟩ Go.Proofs.Try.f69 rfl (by simp)
  have c1 := degree_ok x
  have c2 := degree_ok y
  simp at c1 c2 ⊢
  refine J.dr hF mixed 3 [[], [0], [], [0, 1, 2], [0, 1, 2, 3], [0, 1, 2, 3, 4]] [[6, 7, 8], [7, 8], [6, 7, 8]] (by decide) ?_
  simp
  refine DrC.ok hF (by rfl) (by simp) c1 (by simp) (by simp) ?_
  simp
  refine S 60 _ _ ?_
  simp
  refine CallW.ok (by decide) (by simp) c2 (by simp) ?_
  refine S 60 _ _ ?_
  by_cases h : x.deg = y.deg
  · by_cases h1 : x.a = y.a
    · simp [h, h1, cmpE]
    · simp [h, h1, cmpE]
  · have : x.deg - y.deg ≠ 0 := by omega
    have hb : (x.deg - y.deg != 0) = true := by simpa using this
    simp [this, cmpE, hb]

/-- A monomial in d letters of at most the greatest degree. -/
def InV (d : Int) (e : Ex) : Prop := (d ≤ 1 → e.b = 0) ∧ (d ≤ 2 → e.c = 0) ∧ e.deg ≤ 12
instance (d : Int) (e : Ex) : Decidable (InV d e) := by unfold InV; infer_instance

theorem l01Exps_ok (d : Int) (e : Ex) (h1 : 1 ≤ d) (h3 : d ≤ 3) : CallOK Go.Proofs.Try.prog 60 [.one (i64 d), .agg e.ds] (.one (bo (decide (InV d e)))) := by
  have hF := fnOk 18 [.tmp 4]
  refine callOK hF 60 Go.Proofs.Try.func60 rfl rfl rfl (by decide) (by simp) rfl ?_
  intro w0 hw
  have S := @vc_sound w0 _ hF ⟨(.one (bo (decide (InV d e)))), []⟩ Go.Proofs.Try.f60 rfl (by simp)
  have c1 := l01Sum_ok e
  have hd : d = 1 ∨ d = 2 ∨ d = 3 := by omega
  rcases hd with rfl | rfl | rfl <;> simp at c1 S ⊢
  · refine J.rounds 4 (LpW.step (S 60 _ _ ?_))
    simp
    refine ⟨fun hb hi => hb (hi.1 (by omega)), fun hb => LpW.inv (LpW.step (S 60 _ _ ?_))⟩
    simp
    refine ⟨fun hc hi => hc (hi.2.1 (by omega)), fun hc => LpW.inv (LpW.step (S 60 _ _ ?_))⟩
    simp
    refine CallW.ok (by decide) (by simp) c1 (by simp) (S 60 _ _ ?_)
    simp [InV, hb, hc]
  · refine J.rounds 4 (LpW.step (S 60 _ _ ?_))
    simp
    refine ⟨fun hc hi => hc (hi.2.1 (by omega)), fun hc => LpW.inv (LpW.step (S 60 _ _ ?_))⟩
    simp
    refine CallW.ok (by decide) (by simp) c1 (by simp) (S 60 _ _ ?_)
    simp [InV, hc]
  · refine J.rounds 4 (LpW.step (S 60 _ _ ?_))
    simp
    refine CallW.ok (by decide) (by simp) c1 (by simp) (S 60 _ _ ?_)
    simp [InV]

theorem l01Before_ok (x y : Ex) : CallOK Go.Proofs.Try.prog 61 [.agg x.ds, .agg y.ds] (.one (bo (decide (cmpE x y < 0)))) := by
  have hF := fnOk 30 [.tmp 4]
  refine callOK hF 60 Go.Proofs.Try.func61 rfl rfl rfl (by decide) (by simp) rfl ?_
  intro w0 hw
  have S := @vc_sound w0 _ hF ⟨(.one (bo (decide (cmpE x y < 0)))), []⟩ Go.Proofs.Try.f61 rfl (by simp)
  have c1 := l01Sum_ok x
  have c2 := l01Sum_ok y
  simp at c1 c2 ⊢
  refine J.dr hF mixed 3 [[], [0], [], [0, 1, 2], [0, 1, 2, 3]] [[5, 6, 7], [6, 7], [5, 6, 7]] (by decide) ?_
  simp
  refine DrC.ok hF (by rfl) (by simp) c1 (by simp) (by simp) ?_
  simp
  refine S 60 _ _ ?_
  simp
  refine CallW.ok (by decide) (by simp) c2 (by simp) ?_
  refine S 60 _ _ ?_
  by_cases h : x.deg = y.deg
  · have hb : (x.deg != y.deg) = false := by simpa using h
    by_cases h1 : x.a = y.a
    · simp [h, h1, cmpE]
      omega
    · simp [h, h1, cmpE]
      unfold Later
      omega
  · have hb : (x.deg != y.deg) = true := by simpa using h
    have : x.deg - y.deg ≠ 0 := by omega
    have e : decide (cmpE x y < 0) = decide (x.deg < y.deg) := by
      unfold cmpE
      rw [if_pos this]
      by_cases h2 : x.deg < y.deg
      · rw [decide_eq_true h2, decide_eq_true (by omega)]
      · rw [decide_eq_false h2, decide_eq_false (by omega)]
    rw [e] at S ⊢
    simp [hb]
    refine J.dr hF mixed 3 [[], [0], [], [0, 1, 2], [0, 1, 2, 3], [0, 1, 2, 3, 4]] [[10, 11, 12], [11, 12], [10, 11, 12]] (by decide) ?_
    simp
    refine DrC.ok hF (by rfl) (by simp) c1 (by simp) (by simp) ?_
    simp
    refine S 60 _ _ ?_
    simp
    refine CallW.ok (by decide) (by simp) c2 (by simp) ?_
    refine S 60 _ _ ?_
    simp

/-- The coefficient of a monomial. -/
def coef : List Tm → Ex → Int
  | [], _ => 0
  | t :: ts, e => if t.e = e then t.v else coef ts e

theorem l01At_ok (p d : Int) (ts : List Tm) (e : Ex) (hl : ts.length ≤ 1048576) : CallOK Go.Proofs.Try.prog 80 [pv p d ts, .agg e.ds] (.one (i64 (coef ts e))) := by
  have hF := fnOk 27 [.tmp 4]
  refine callOK hF 60 Go.Proofs.Try.func80 rfl rfl rfl (by decide) (by simp) rfl ?_
  intro w0 hw
  have S := @vc_sound w0 _ hF ⟨(.one (i64 (coef ts e))), []⟩ Go.Proofs.Try.f80 rfl (by simp)
  simp
  refine J.loop hw (fun i : Nat => ⟨[(5, .c (.d (i64 i))), (2, .c (.ref 64002 0)), (3, .c (.ref 64003 0))], [(64002, .var [.d (i64 p), .d (i64 d), .d (vTerms ts)]), (64003, .var [.d (u8 e.a), .d (u8 e.b), .d (u8 e.c)])]⟩)
    (fun i => i ≤ ts.length ∧ coef ts e = coef (ts.drop i) e) (fun i => ts.length - i) 0 (by simp) (by simp) ?_
  rintro i ⟨hi, hc⟩
  refine S 60 _ _ ?_
  simp
  refine ⟨fun hlt => ?_, fun hge => by rw [hc, List.drop_eq_nil_of_le hge]; rfl⟩
  refine J.dr hF mixed 7 [[], [0], [], [0, 1, 2], [0, 1, 2, 3], [0, 1, 2, 3, 4], [], [0, 1, 2, 3, 4, 5, 6]] [[13, 14, 15, 16, 17, 18, 19], [14, 15, 16, 17, 18, 19], [13, 14, 15, 16, 17, 18, 19], [16, 17, 18, 19], [17, 18, 19], [18, 19], [13, 14, 15, 16, 17, 18, 19]] (by decide) ?_
  simp
  refine ⟨hlt, fun a ha => ?_⟩
  refine S 60 _ _ ?_
  simp
  have hd := drop_cons ha
  rw [hd] at hc
  refine ⟨fun h1 => ⟨hlt, fun b hb => ?_⟩, fun hn => ?_⟩
  · rw [ha] at hb
    obtain rfl := Option.some.inj hb
    rw [hc]; simp [coef, h1]
  · refine Nxt.mk (i + 1) ⟨hlt, ?_⟩ (by simp [wrapS (i := i) (n := ts.length) hlt (by omega)]) (by omega)
    rw [hc]; simp [coef, hn]

end Go.Sm

namespace Go.Sm
open Go.RowKit

theorem tmod_mod (x p : Int) (hp : 0 < p) : (x.tmod p + p).tmod p = x % p := by
  have h1 : x.tmod p < p := Int.tmod_lt_of_pos x hp
  have h2 : -p < x.tmod p := by
    have := Int.lt_tmod_of_pos x hp
    omega
  have h3 : (x.tmod p + p).tmod p = (x.tmod p + p) % p := Int.tmod_eq_emod_of_nonneg (by omega)
  rw [h3, Int.add_emod_right]
  rcases Int.le_total 0 x with h | h
  · rw [Int.tmod_eq_emod_of_nonneg h, Int.emod_emod]
  · have e : x.tmod p = -((-x) % p) := by
      have : (-x).tmod p = (-x) % p := Int.tmod_eq_emod_of_nonneg (by omega)
      rw [← this, Int.neg_tmod, Int.neg_neg]
    rw [e]
    have : -((-x) % p) % p = x % p := by
      rw [Int.neg_emod_eq_sub_emod]
      have h4 := Int.emod_add_mul_ediv (-x) p
      rw [show p - (-x) % p = x + p * (1 + (-x) / p) by rw [Int.mul_add]; omega, Int.add_mul_emod_self_left]
    exact this

theorem tmod_range (x p : Int) (hp : 0 < p) : -p < x.tmod p ∧ x.tmod p < p := by
  have h1 : x.tmod p < p := Int.tmod_lt_of_pos x hp
  have h2 := Int.lt_tmod_of_pos x hp
  omega

theorem l01Mod_ok (p x : Int) (hp : 0 < p) (hp2 : p < 4000000000000000000) : CallOK Go.Proofs.Try.prog 79 [.one (i64 p), .one (i64 x)] (.one (i64 (x % p))) := by
  have hF := fnOk 12 [.tmp 4]
  refine callOK hF 60 Go.Proofs.Try.func79 rfl rfl rfl (by decide) (by simp) rfl ?_
  intro w0 hw
  have S := @vc_sound w0 _ hF ⟨(.one (i64 (x % p))), []⟩ Go.Proofs.Try.f79 rfl (by simp)
  have h := tmod_range x p hp
  have h0 : p ≠ 0 := by omega
  simp [h0, wrap64 (x := x.tmod p + p) (by omega) (by omega), tmod_mod x p hp]

theorem l01Empty_ok (p d : Int) : CallOK Go.Proofs.Try.prog 34 [.one (i64 p), .one (i64 d)] (po p d []) := by
  have hF := fnOk 9 [.cell 4 28]
  refine callOK hF 60 Go.Proofs.Try.func34 rfl rfl rfl (by decide) (by simp) rfl ?_
  intro w0 hw
  have S := @vc_sound w0 _ hF ⟨(po p d []), []⟩ Go.Proofs.Try.f34 rfl (by simp)
  simp

/-- A number put to the coefficient of e: what comes of the terms from here on. -/
def putGo (e : Ex) (v : Int) : Bool → List Tm → List Tm
  | done, [] => if done then [] else [⟨e, v⟩]
  | done, t :: ts => (if done = false ∧ cmpE e t.e < 0 then [⟨e, v⟩] else []) ++ ((if t.e = e then [] else [t]) ++ putGo e v (done || decide (cmpE e t.e < 0)) ts)
def putT (p : Int) (ts : List Tm) (e : Ex) (v : Int) : List Tm := putGo e ((v + coef ts e) % p) ((v + coef ts e) % p == 0) ts

set_option maxHeartbeats 4000000 in
theorem l01Put_ok (p d : Int) (ts : List Tm) (e : Ex) (v : Int) (hl : ts.length ≤ 1048576) (hp : 0 < p) (hp2 : p < 4000000000000000000) (h1 : -4611686018427387904 ≤ v + coef ts e) (h2 : v + coef ts e ≤ 4611686018427387904) : CallOK Go.Proofs.Try.prog 36 [pv p d ts, .agg e.ds, .one (i64 v)] (po p d (putT p ts e v)) := by
  have hF := fnOk 75 [.cell 6 28]
  refine callOK hF 60 Go.Proofs.Try.func36 rfl rfl rfl (by decide) (by simp) rfl ?_
  intro w0 hw
  have S := @vc_sound w0 _ hF ⟨(po p d (putT p ts e v)), []⟩ Go.Proofs.Try.f36 rfl (by simp)
  have c1 := l01Empty_ok p d
  have c2 := l01At_ok p d ts e hl
  have c3 := l01Mod_ok p (v + coef ts e) hp hp2
  have hw1 : IntKind.i64.wrap (v + coef ts e) = v + coef ts e := wrap64 (by omega) (by omega)
  simp at c1 c2 c3 ⊢
  refine CallW.ok (by decide) (by simp) c1 (by simp) (S 100 _ _ ?_)
  simp
  refine J.dr hF mixed 7 [[], [0], [], [], [], [3, 4], [2, 3, 4, 5], [0, 1, 2, 3, 4, 5, 6], [0, 1, 2, 3, 4, 5, 6, 7]] [[16, 17, 18, 19, 20, 21, 22], [17, 18, 19, 20, 21, 22], [16, 17, 18, 19, 20, 21, 22], [16, 17, 18, 19, 20, 21, 22], [16, 17, 18, 19, 20, 21, 22], [16, 17, 18, 21, 22], [16, 17, 22]] (by decide) ?_
  simp
  refine DrC.ok hF (by rfl) (by simp) c2 (by simp) (by simp) ?_
  simp [hw1]
  refine S 60 _ _ ?_
  simp
  refine CallW.ok (by decide) (by simp) c3 (by simp) (S 100 _ _ ?_)
  simp
  generalize hv' : (v + coef ts e) % p = v' at S ⊢
  refine J.loop hw (fun q : Nat × Bool × List Tm => ⟨[(9, .c (.d (i64 q.1))), (2, .c (.d (i64 v'))), (8, .c (.d (bo q.2.1))), (3, .c (.ref 64003 0)), (4, .c (.ref 64004 0)), (6, .c (.ref 64006 0)), (7, .c (.ref 64008 0))],
      [(64003, .var [.d (i64 p), .d (i64 d), .d (vTerms ts)]), (64004, .var [.d (u8 e.a), .d (u8 e.b), .d (u8 e.c)]), (64006, .var [.d (i64 0), .d (i64 0), .ob 64007]), (64007, .arr 57 4 []),
       (64008, .var [.d (i64 p), .d (i64 d), .ob 64009]), (64009, .arr 57 4 (terms q.2.2))]⟩)
    (fun q => q.1 ≤ ts.length ∧ q.2.2.length ≤ 2 * q.1 ∧ q.2.2 ++ putGo e v' q.2.1 (ts.drop q.1) = putGo e v' (v' == 0) ts) (fun q => ts.length - q.1) (0, v' == 0, []) (by simp) (by simp) ?_
  rintro ⟨i, done, acc⟩ ⟨hi, hlen, hacc⟩
  simp only at hi hlen hacc
  refine S 13 _ _ ?_
  simp
  refine ⟨fun hlt => ?_, fun hge => ?_⟩
  · refine S 14 _ _ ?_
    simp
    refine ⟨hlt, fun t ht => ?_⟩
    have hdr := drop_cons ht
    rw [hdr] at hacc
    have hb2 : (acc.length + 1) * 16 ≤ 140737488355328 := by omega
    have hb3 : acc.length + 1 ≤ 9223372036854775807 := by omega
    have c4 := l01Before_ok e t.e
    have fin : ∀ (dn : Bool) (add : List Tm), dn = (done || decide (cmpE e t.e < 0)) → add = (if done = false ∧ cmpE e t.e < 0 then [⟨e, v'⟩] else []) ++ (if t.e = e then [] else [t]) →
        (i + 1 ≤ ts.length ∧ (acc ++ add).length ≤ 2 * (i + 1) ∧ (acc ++ add) ++ putGo e v' dn (ts.drop (i + 1)) = putGo e v' (v' == 0) ts) := by
      intro dn add h1 h2
      refine ⟨hlt, ?_, ?_⟩
      · rw [List.length_append, h2, List.length_append]
        split <;> split <;> simp <;> omega
      · rw [← hacc, h1, h2]; simp [putGo]
    by_cases hte : t.e = e
    · cases done with
      | true =>
        refine S 100 _ _ ?_
        simp [hte]
        refine Nxt.mk (i + 1, true, acc) (by simpa using fin true [] (by simp) (by simp [hte])) (by simp [wrapS (i := i) (n := ts.length) hlt (by omega)]) (by show ts.length - (i + 1) < ts.length - i; omega)
      | false =>
        have hlt0 : ¬ cmpE e t.e < 0 := by rw [hte, cmpE_self]; omega
        rw [decide_eq_false hlt0] at c4
        refine S 100 _ _ ?_
        simp
        refine CallW.ok (by decide) (by simp) c4 (by simp) (S 100 _ _ ?_)
        simp [hte]
        refine Nxt.mk (i + 1, false, acc) (by simpa using fin false [] (by simp; omega) (by simp [hte, cmpE_self])) (by simp [wrapS (i := i) (n := ts.length) hlt (by omega)]) (by show ts.length - (i + 1) < ts.length - i; omega)
    · cases done with
      | true =>
        refine S 100 _ _ ?_
        simp [hte]
        refine ⟨⟨by omega, by omega⟩, ?_⟩
        refine Nxt.mk (i + 1, true, acc ++ [t]) (fin true [t] (by simp) (by simp [hte])) (by simp [wrapS (i := i) (n := ts.length) hlt (by omega)]) (by show ts.length - (i + 1) < ts.length - i; omega)
      | false =>
        by_cases hlt0 : cmpE e t.e < 0
        · rw [decide_eq_true hlt0] at c4
          refine S 100 _ _ ?_
          simp
          refine CallW.ok (by decide) (by simp) c4 (by simp) (S 16 _ _ ?_)
          simp
          refine ⟨⟨by omega, by omega⟩, ?_⟩
          refine S 60 _ _ ?_
          simp [hte]
          refine ⟨⟨by omega, by omega⟩, ?_⟩
          refine Nxt.mk (i + 1, true, acc ++ [⟨e, v'⟩, t]) (fin true [⟨e, v'⟩, t] (by simp [hlt0]) (by simp [hte, hlt0])) (by simp [wrapS (i := i) (n := ts.length) hlt (by omega)]) (by show ts.length - (i + 1) < ts.length - i; omega)
        · rw [decide_eq_false hlt0] at c4
          refine S 100 _ _ ?_
          simp
          refine CallW.ok (by decide) (by simp) c4 (by simp) (S 100 _ _ ?_)
          simp [hte]
          refine ⟨⟨by omega, by omega⟩, ?_⟩
          refine Nxt.mk (i + 1, false, acc ++ [t]) (fin false [t] (by simp; omega) (by simp [hte, hlt0])) (by simp [wrapS (i := i) (n := ts.length) hlt (by omega)]) (by show ts.length - (i + 1) < ts.length - i; omega)
  · have hnil : ts.drop i = [] := List.drop_eq_nil_of_le hge
    rw [hnil] at hacc
    have hput : putT p ts e v = acc ++ putGo e v' done [] := by rw [hacc]; unfold putT; rw [hv']
    rw [hput] at S ⊢
    cases done with
    | true =>
      refine S 60 _ _ ?_
      simp [putGo]
    | false =>
      refine S 60 _ _ ?_
      simp [putGo]
      omega

theorem l01Own_ok (xs : List Int) (hl : xs.length ≤ 1048576) : CallOK Go.Proofs.Try.prog 124 [.one (vInts xs)] (.one (oInts xs)) := by
  have hF := fnOk 6 [.tmp 2]
  refine callOK hF 60 Go.Proofs.Try.func124 rfl rfl rfl (by decide) (by simp) rfl ?_
  intro w0 hw
  have S := @vc_sound w0 _ hF ⟨(.one (oInts xs)), []⟩ Go.Proofs.Try.f124 rfl (by simp)
  simp
  refine ⟨by omega, by omega⟩

end Go.Sm

namespace Go.Sm
open Go.RowKit

/-! ### eqInt64S -/

theorem eqInt64S_ok (xs ys : List Int) (hl : xs.length < 4611686018427387904) :
    CallOK Go.Proofs.Try.prog 21 [.one (vInts xs), .one (vInts ys)] (.one (bo (decide (xs = ys)))) := by
  have hF := fnOk 26 [.tmp 4]
  refine callOK hF 50 Go.Proofs.Try.func21 rfl rfl rfl (by decide) (by simp) rfl ?_
  intro w0 hw
  have S := @vc_sound w0 _ hF ⟨.one (bo (decide (xs = ys))), []⟩ Go.Proofs.Try.f21 rfl (by simp) 50
  simp
  refine ⟨fun hne => ?_, fun he => ?_⟩
  · intro e; subst e; exact hne rfl
  · refine J.loop hw (fun i : Nat => ⟨[(0, .c (.d (vInts xs))), (1, .c (.d (vInts ys))), (5, .c (.d (i64 i)))], []⟩)
      (fun i => i ≤ xs.length ∧ xs.take i = ys.take i) (fun i => xs.length - i) 0 (by simp) (by simp) ?_
    rintro i ⟨hi, ht⟩
    apply S
    simp
    refine ⟨fun hlt => ?_, fun hge => ?_⟩
    · refine J.dr hF mixed 8 [[], [], [0, 1], [0, 1, 2], [], [], [4, 5], [4, 5, 6], [0, 1, 2, 3, 4, 5, 6, 7]]
        [[17, 18, 19, 20, 21, 22, 23, 24], [17, 18, 19, 20, 21, 22, 23, 24], [19, 20, 21, 22, 23, 24], [20, 21, 22, 23, 24], [17, 18, 19, 20, 21, 22, 23, 24], [17, 18, 19, 20, 21, 22, 23, 24], [17, 18, 19, 20, 23, 24], [17, 18, 19, 20, 24]] (by decide) ?_
      simp
      refine ⟨hlt, fun a ha => ⟨by omega, fun b hb => ?_⟩⟩
      apply S
      simp
      refine ⟨fun hne e => ?_, fun e => ?_⟩
      · subst e; rw [ha] at hb; exact hne (Option.some.inj hb)
      · subst e
        refine Nxt.mk (i + 1) ⟨hlt, ?_⟩ (by simp [wrapS hlt hl]) (by omega)
        rw [List.take_add_one, List.take_add_one, ht, ha, hb]
    · have h1 : xs = xs.take i := by rw [List.take_of_length_le (by omega)]
      have h2 : ys = ys.take i := by rw [List.take_of_length_le (by omega)]
      rw [h1, h2, ht]

/-! ### eqInt64SS -/

/-! ### marks -/

/-- The numbers from k on. -/
def markL : Nat → Int → List Int
  | 0, _ => []
  | n + 1, k => k :: markL n (k + 1)

theorem markL_length : ∀ (n : Nat) (k : Int), (markL n k).length = n
  | 0, _ => rfl
  | n + 1, k => by simp [markL, markL_length n]
theorem markL_succ : ∀ (n : Nat) (k : Int), markL (n + 1) k = markL n k ++ [k + n]
  | 0, k => by simp [markL]
  | n + 1, k => by
    have e : k + 1 + (n : Int) = k + ((n + 1 : Nat) : Int) := by omega
    rw [markL, markL_succ n (k + 1), markL, List.cons_append, e]
theorem markL_get {n : Nat} {k : Int} {i : Nat} {x : Int} (h : (markL n k)[i]? = some x) : x = k + i := by
  induction n generalizing k i with
  | zero => simp [markL] at h
  | succ n ih =>
    cases i with
    | zero => simp [markL] at h; omega
    | succ i => have := ih (k := k + 1) (i := i) (by simpa [markL] using h); omega

end Go.Sm

namespace Go.Sm
open Go.RowKit

@[simp] theorem stOEs_set : ∀ {xs : List (List D)} {i : Nat} {e : List D}, stOEs xs = true → stOCs e = true → stOEs (xs.set i e) = true
  | [], i, e, _, _ => by simp
  | x :: xs, 0, e, h, he => by simp only [stOEs, Bool.and_eq_true, List.set_cons_zero] at h ⊢; exact ⟨he, h.2⟩
  | x :: xs, i + 1, e, h, he => by simp only [stOEs, Bool.and_eq_true, List.set_cons_succ] at h ⊢; exact ⟨h.1, stOEs_set h.2 he⟩

def total (xss : List (List Int)) : Nat := (xss.map List.length).sum
def markLL : List (List Int) → Int → List (List Int)
  | [], _ => []
  | xs :: r, k => markL xs.length k :: markLL r (k + xs.length)

theorem total_take {xss : List (List Int)} {i : Nat} {x : List Int} (h : xss[i]? = some x) : total (xss.take (i + 1)) = total (xss.take i) + x.length := by
  rw [List.take_add_one, h]; simp [total]
theorem total_le (xss : List (List Int)) (i : Nat) : total (xss.take i) ≤ total xss := by
  have h : total xss = total (xss.take i) + total (xss.drop i) := by
    conv => lhs; rw [← List.take_append_drop i xss]
    simp only [total, List.map_append, List.sum_append]
  omega
theorem markLL_length : ∀ (xss : List (List Int)) (k : Int), (markLL xss k).length = xss.length
  | [], _ => rfl
  | x :: r, k => by simp [markLL, markLL_length r]
theorem markLL_append : ∀ (xs ys : List (List Int)) (k : Int), markLL (xs ++ ys) k = markLL xs k ++ markLL ys (k + total xs)
  | [], ys, k => by simp [markLL, total]
  | x :: xs, ys, k => by
    have e : k + (x.length : Int) + total xs = k + total (x :: xs) := by simp only [total, List.map_cons, List.sum_cons]; omega
    rw [List.cons_append, markLL, markLL, markLL_append xs ys, e, List.cons_append]
theorem markLL_total : ∀ (xss : List (List Int)) (k : Int), total (markLL xss k) = total xss
  | [], _ => rfl
  | x :: r, k => by
    have := markLL_total r (k + x.length)
    simp only [total, markLL, List.map_cons, List.sum_cons, markL_length] at this ⊢
    rw [this]

end Go.Sm

namespace Go.Sm
open Go.RowKit

theorem l01In_ok (n lo hi : Int) : CallOK Go.Proofs.Try.prog 59 [.one (i64 n), .one (i64 lo), .one (i64 hi)] (.one (bo (decide (lo ≤ n ∧ n ≤ hi)))) := by
  have hF := fnOk 15 [.tmp 6]
  refine callOK hF 50 Go.Proofs.Try.func59 rfl rfl rfl (by decide) (by simp) rfl ?_
  intro w0 hw
  simp
  refine ⟨fun h => by simp [h], fun h => ?_⟩
  have : ¬ lo ≤ n := by omega
  simp [this]

theorem isDegree_ok (n : Int) : CallOK Go.Proofs.Try.prog 94 [.one (i64 n)] (.one (bo (decide (0 ≤ n ∧ n ≤ 12)))) := by
  have hF := fnOk 9 [.tmp 2]
  refine callOK hF 50 Go.Proofs.Try.func94 rfl rfl rfl (by decide) (by simp) rfl ?_
  intro w0 hw
  simp
  refine ⟨fun h => ?_, fun h => ?_⟩
  · simp [h]
  · have : ¬ 0 ≤ n := by omega
    simp [this]

theorem isVars_ok (n : Int) : CallOK Go.Proofs.Try.prog 67 [.one (i64 n)] (.one (bo (decide (1 ≤ n ∧ n ≤ 3)))) := by
  have hF := fnOk 9 [.tmp 2]
  refine callOK hF 50 Go.Proofs.Try.func67 rfl rfl rfl (by decide) (by simp) rfl ?_
  intro w0 hw
  simp
  refine ⟨fun h => ?_, fun h => ?_⟩
  · simp [h]
  · have : ¬ 1 ≤ n := by omega
    simp [this]

end Go.Sm

namespace Go.Sm
open Go.RowKit

def Pr (p : Int) : Prop := p = 2 ∨ p = 3 ∨ p = 5 ∨ p = 7 ∨ p = 11 ∨ p = 13
instance (p : Int) : Decidable (Pr p) := by unfold Pr; infer_instance

theorem isPrime_ok (p : Int) : CallOK Go.Proofs.Try.prog 66 [.one (i64 p)] (.one (bo (decide (Pr p)))) := by
  have hF := fnOk 25 [.tmp 2]
  refine callOK hF 50 Go.Proofs.Try.func66 rfl rfl rfl (by decide) (by simp) rfl ?_
  intro w0 hw
  by_cases h2 : p = 2
  · have b2 : (p == 2) = true := by simp [h2]
    have hP : decide (Pr p) = true := by simp [Pr, h2]
    rw [hP]
    simp [b2]
  have b2 : (p == 2) = false := by simp [h2]
  by_cases h3 : p = 3
  · have b3 : (p == 3) = true := by simp [h3]
    have hP : decide (Pr p) = true := by simp [Pr, h3]
    rw [hP]
    simp [b2, b3]
  have b3 : (p == 3) = false := by simp [h3]
  by_cases h5 : p = 5
  · have b5 : (p == 5) = true := by simp [h5]
    have hP : decide (Pr p) = true := by simp [Pr, h5]
    rw [hP]
    simp [b2, b3, b5]
  have b5 : (p == 5) = false := by simp [h5]
  by_cases h7 : p = 7
  · have b7 : (p == 7) = true := by simp [h7]
    have hP : decide (Pr p) = true := by simp [Pr, h7]
    rw [hP]
    simp [b2, b3, b5, b7]
  have b7 : (p == 7) = false := by simp [h7]
  by_cases h11 : p = 11
  · have b11 : (p == 11) = true := by simp [h11]
    have hP : decide (Pr p) = true := by simp [Pr, h11]
    rw [hP]
    simp [b2, b3, b5, b7, b11]
  have b11 : (p == 11) = false := by simp [h11]
  by_cases h13 : p = 13
  · have b13 : (p == 13) = true := by simp [h13]
    have hP : decide (Pr p) = true := by simp [Pr, h13]
    rw [hP]
    simp [b2, b3, b5, b7, b11, b13]
  have b13 : (p == 13) = false := by simp [h13]
  have hP : decide (Pr p) = false := by simp [Pr, h2, h3, h5, h7, h11, h13]
  rw [hP]
  simp [b2, b3, b5, b7, b11, b13]

theorem l01Prime_ok (p : Int) : CallOK Go.Proofs.Try.prog 58 [.one (i64 p)] (.one (bo (decide (Pr p)))) := by
  have hF := fnOk 25 [.tmp 2]
  refine callOK hF 50 Go.Proofs.Try.func58 rfl rfl rfl (by decide) (by simp) rfl ?_
  intro w0 hw
  by_cases h2 : p = 2
  · have b2 : (p == 2) = true := by simp [h2]
    have hP : decide (Pr p) = true := by simp [Pr, h2]
    rw [hP]
    simp [b2]
  have b2 : (p == 2) = false := by simp [h2]
  by_cases h3 : p = 3
  · have b3 : (p == 3) = true := by simp [h3]
    have hP : decide (Pr p) = true := by simp [Pr, h3]
    rw [hP]
    simp [b2, b3]
  have b3 : (p == 3) = false := by simp [h3]
  by_cases h5 : p = 5
  · have b5 : (p == 5) = true := by simp [h5]
    have hP : decide (Pr p) = true := by simp [Pr, h5]
    rw [hP]
    simp [b2, b3, b5]
  have b5 : (p == 5) = false := by simp [h5]
  by_cases h7 : p = 7
  · have b7 : (p == 7) = true := by simp [h7]
    have hP : decide (Pr p) = true := by simp [Pr, h7]
    rw [hP]
    simp [b2, b3, b5, b7]
  have b7 : (p == 7) = false := by simp [h7]
  by_cases h11 : p = 11
  · have b11 : (p == 11) = true := by simp [h11]
    have hP : decide (Pr p) = true := by simp [Pr, h11]
    rw [hP]
    simp [b2, b3, b5, b7, b11]
  have b11 : (p == 11) = false := by simp [h11]
  by_cases h13 : p = 13
  · have b13 : (p == 13) = true := by simp [h13]
    have hP : decide (Pr p) = true := by simp [Pr, h13]
    rw [hP]
    simp [b2, b3, b5, b7, b11, b13]
  have b13 : (p == 13) = false := by simp [h13]
  have hP : decide (Pr p) = false := by simp [Pr, h2, h3, h5, h7, h11, h13]
  rw [hP]
  simp [b2, b3, b5, b7, b11, b13]

theorem toInt64S_ok (xs : List Int) (hl : xs.length ≤ 1048576) : CallOK Go.Proofs.Try.prog 18 [.one (vInts xs)] (.one (oInts xs)) := by
  have hF := fnOk 22 [.tmp 2]
  refine callOK hF 50 Go.Proofs.Try.func18 rfl rfl rfl (by decide) (by simp) rfl ?_
  intro w0 hw
  have S := @vc_sound w0 _ hF ⟨.one (oInts xs), []⟩ Go.Proofs.Try.f18 rfl (by simp)
  simp
  refine ⟨⟨by omega, by omega⟩, ?_⟩
  refine J.loop hw (fun p : Nat × List Int => ⟨[(0, .c (.d (vInts xs))), (3, .c (.ob 64003)), (4, .c (.d (i64 p.1)))], [(64003, .arr 2 1 (ints p.2))]⟩)
    (fun p => p.1 ≤ xs.length ∧ p.2.length = xs.length ∧ p.2.take p.1 = xs.take p.1) (fun p => xs.length - p.1) (0, List.replicate xs.length 0) (by simp) (by simp [List.map_replicate]) ?_
  rintro ⟨i, zs⟩ ⟨hi, hlen, htk⟩
  simp only at hi hlen htk
  refine S 50 _ _ ?_
  simp
  refine ⟨fun hlt => ⟨hlt, fun a ha => ⟨by omega, ?_⟩⟩, fun hge => ?_⟩
  · refine Nxt.mk (i + 1, zs.set i a) ⟨hlt, by simpa using hlen, ?_⟩ (by simp [wrapS (i := i) (n := xs.length) hlt (by omega), List.map_set]) (by show xs.length - (i + 1) < xs.length - i; omega)
    show (zs.set i a).take (i + 1) = xs.take (i + 1)
    rw [List.take_add_one, List.take_set_of_le (Nat.le_refl i), htk, List.take_add_one, ha]
    simp [show i < zs.length by omega]
  · have e : i = xs.length := by omega
    rw [e, List.take_length, ← hlen, List.take_length] at htk
    rw [htk]

theorem field_ok (p : Int) (xs : List Int) (hl : xs.length ≤ 1048576) : CallOK Go.Proofs.Try.prog 54 [.one (i64 p), .one (vInts xs)] (.one (bo (decide (∀ x ∈ xs, 0 ≤ x ∧ x < p)))) := by
  have hF := fnOk 21 [.tmp 4]
  refine callOK hF 50 Go.Proofs.Try.func54 rfl rfl rfl (by decide) (by simp) rfl ?_
  intro w0 hw
  have S := @vc_sound w0 _ hF ⟨.one (bo (decide (∀ x ∈ xs, 0 ≤ x ∧ x < p))), []⟩ Go.Proofs.Try.f54 rfl (by simp)
  simp
  refine J.loop hw (fun i : Nat => ⟨[(0, .c (.d (i64 p))), (7, .c (.d (vInts xs))), (8, .c (.d (i64 xs.length))), (9, .c (.d (i64 i)))], []⟩)
    (fun i => i ≤ xs.length ∧ ∀ x ∈ xs.take i, 0 ≤ x ∧ x < p) (fun i => xs.length - i) 0 (by simp) (by simp) ?_
  rintro i ⟨hi, hx⟩
  refine S 50 _ _ ?_
  simp
  refine ⟨fun hlt => ⟨hlt, fun a ha => ⟨fun h0 => ⟨fun hp => ?_, fun hp => ?_⟩, fun h0 => ?_⟩⟩, fun hge => ?_⟩
  · exact ⟨a, List.mem_of_getElem? ha, fun _ => hp⟩
  · refine Nxt.mk (i + 1) ⟨hlt, fun x hx' => ?_⟩ (by simp [wrapS (i := i) (n := xs.length) hlt (by omega)]) (by omega)
    rw [List.take_add_one, ha] at hx'
    simp only [Option.toList, List.mem_append, List.mem_singleton] at hx'
    rcases hx' with h | rfl
    · exact hx x h
    · exact ⟨h0, hp⟩
  · exact ⟨a, List.mem_of_getElem? ha, fun h => by omega⟩
  · intro x hx'
    exact hx x (by rw [List.take_of_length_le (by omega)]; exact hx')

end Go.Sm

namespace Go.Sm

/-- A number of a row. -/
def gt (r : List Int) (i : Nat) : Int := r.getD i 0
/-- The place of the first number other than 0; the length, if there is none. -/
def leadN (r : List Int) : Nat := r.findIdx fun x => x != 0
def RowOk (p : Int) (n : Nat) (r : List Int) : Prop := r.length = n ∧ ∀ x ∈ r, 0 ≤ x ∧ x < p
def Led (r : List Int) : Prop := leadN r < r.length
instance (r : List Int) : Decidable (Led r) := by unfold Led; infer_instance
/-- A row less c times another one. -/
def subR (p : Int) (row r : List Int) (c : Int) : List Int := List.zipWith (fun x a => (x - c * a) % p) row r
def lessL (p : Int) (L : List (List Int)) (row : List Int) : List Int := L.foldl (fun row r => subR p row r (gt row (leadN r))) row
/-- The number that makes 1 with another one. -/
def invGo (n p : Int) : Nat → Int → Int
  | 0, _ => 0
  | f + 1, k => if k < p then (if n * k % p = 1 then k else invGo n p f (k + 1)) else 0
def invN (n p : Int) : Int := invGo n p 13 1
def nrm (p : Int) (row : List Int) : List Int := row.map fun x => x * invN (gt row (leadN row)) p % p
def takeL (p : Int) (L : List (List Int)) (row : List Int) : List (List Int) :=
  if Led (lessL p L row) then L.map (fun r => subR p r (nrm p (lessL p L row)) (gt r (leadN (lessL p L row)))) ++ [nrm p (lessL p L row)] else L
def redL (p : Int) (rows : List (List Int)) : List (List Int) := rows.foldl (takeL p) []
def insL (f : List Int → List Int) (w : List Int) (k : Nat) : List (List Int) → List (List Int)
  | [] => [w]
  | r :: rs => if k < leadN r then w :: f r :: rs.map f else f r :: insL f w k rs
def echS (p : Int) (L : List (List Int)) (row : List Int) : List (List Int) :=
  if Led (lessL p L row) then insL (fun r => subR p r (nrm p (lessL p L row)) (gt r (leadN (lessL p L row)))) (nrm p (lessL p L row)) (leadN (lessL p L row)) L else L
/-- The reduced list, in order. -/
def echL (p : Int) (rows : List (List Int)) : List (List Int) := rows.foldl (echS p) []

theorem prPos {p : Int} (hp : Pr p) : 2 ≤ p ∧ p ≤ 13 := by unfold Pr at hp; omega
theorem gt_lt {r : List Int} {i : Nat} (h : i < r.length) : gt r i = r[i] := by simp [gt, h]
theorem gt_ge {r : List Int} {i : Nat} (h : r.length ≤ i) : gt r i = 0 := by simp [gt, h]
theorem gt_ext {r q : List Int} (hl : r.length = q.length) (h : ∀ i < r.length, gt r i = gt q i) : r = q := by
  refine List.ext_getElem hl fun i h1 h2 => ?_
  have := h i h1
  rwa [gt_lt h1, gt_lt h2] at this
theorem gt_range {p : Int} {n : Nat} {r : List Int} (hp : 0 < p) (h : RowOk p n r) (i : Nat) : 0 ≤ gt r i ∧ gt r i < p := by
  by_cases hi : i < r.length
  · rw [gt_lt hi]; exact h.2 _ (List.getElem_mem hi)
  · rw [gt_ge (by omega)]; omega
theorem gt_before {r : List Int} {i : Nat} (h : i < leadN r) : gt r i = 0 := by
  have hl : leadN r ≤ r.length := List.findIdx_le_length
  rw [gt_lt (by omega)]
  have := List.not_of_lt_findIdx h
  simpa using this
theorem gt_lead {r : List Int} (h : Led r) : gt r (leadN r) ≠ 0 := by
  have h' : leadN r < r.length := h
  rw [gt_lt h']
  have := List.findIdx_getElem (w := h')
  intro e
  rw [show r[leadN r] = r[List.findIdx (fun x => x != 0) r] from rfl] at e
  simp [e] at this
theorem leadN_of {r : List Int} {k : Nat} (h1 : ∀ i < k, gt r i = 0) (h2 : gt r k ≠ 0) : leadN r = k := by
  have hk : k < r.length := Decidable.byContradiction fun h => h2 (gt_ge (by omega))
  refine (List.findIdx_eq hk).2 ⟨?_, fun i hi => ?_⟩
  · rw [gt_lt hk] at h2; simpa using h2
  · have := h1 i hi
    rw [gt_lt (by omega)] at this
    simp [this]
theorem led_iff {r : List Int} : Led r ↔ ∃ i, gt r i ≠ 0 := by
  constructor
  · intro h; exact ⟨_, gt_lead h⟩
  · rintro ⟨i, hi⟩
    have hl : i < r.length := Decidable.byContradiction fun h => hi (gt_ge (by omega))
    refine Decidable.byContradiction fun hn => hi ?_
    have hl2 : leadN r ≤ r.length := List.findIdx_le_length
    unfold Led at hn
    exact gt_before (by omega)

theorem subR_ok {p : Int} {n : Nat} (hp : 0 < p) {row r : List Int} (h1 : row.length = n) (h2 : r.length = n) (c : Int) : RowOk p n (subR p row r c) ∧ ∀ i < n, gt (subR p row r c) i = (gt row i - c * gt r i) % p := by
  refine ⟨⟨by simp [subR, h1, h2], fun x hx => ?_⟩, fun i hi => ?_⟩
  · unfold subR at hx
    obtain ⟨i, hi, rfl⟩ := List.getElem_of_mem hx
    simp only [List.getElem_zipWith]
    exact ⟨Int.emod_nonneg _ (by omega), Int.emod_lt_of_pos _ hp⟩
  · rw [gt_lt (by simp [subR, h1, h2]; exact hi), gt_lt (by omega), gt_lt (by omega)]
    simp [subR]

/-- Reduced, but for the order. -/
def Red (p : Int) (n : Nat) (L : List (List Int)) : Prop :=
  (∀ r ∈ L, RowOk p n r ∧ gt r (leadN r) = 1) ∧ L.Pairwise fun r q => gt q (leadN r) = 0 ∧ gt r (leadN q) = 0
theorem Red.tail {p : Int} {n : Nat} {r : List Int} {L : List (List Int)} (h : Red p n (r :: L)) : Red p n L := ⟨fun q hq => h.1 q (List.mem_cons_of_mem _ hq), (List.pairwise_cons.1 h.2).2⟩
theorem Red.perm {p : Int} {n : Nat} {L L' : List (List Int)} (h : Red p n L) (hp : L.Perm L') : Red p n L' :=
  ⟨fun r hr => h.1 r (hp.symm.subset hr), (hp.pairwise_iff fun {_ _} hab => ⟨hab.2, hab.1⟩).1 h.2⟩
theorem lead_lt {p : Int} {n : Nat} {r : List Int} (h : RowOk p n r) (h1 : gt r (leadN r) = 1) : leadN r < n := by
  rw [← h.1]
  exact Decidable.byContradiction fun hn => by rw [gt_ge (by omega)] at h1; omega

def sumL (L : List (List Int)) (row : List Int) (k : Nat) : Int := (L.map fun r => gt row (leadN r) * gt r k).sum
theorem sum_perm {xs ys : List Int} (h : xs.Perm ys) : xs.sum = ys.sum := by
  induction h with
  | nil => rfl
  | cons x _ ih => simp [ih]
  | swap x y l => simp only [List.sum_cons]; omega
  | trans _ _ ih1 ih2 => rw [ih1, ih2]
theorem sumL_perm {L L' : List (List Int)} (h : L.Perm L') (row : List Int) (k : Nat) : sumL L row k = sumL L' row k := sum_perm (h.map _)

theorem less_ok {p : Int} {n : Nat} (hp : 0 < p) : ∀ {L : List (List Int)} {row : List Int}, Red p n L → RowOk p n row → RowOk p n (lessL p L row) ∧ ∀ k < n, gt (lessL p L row) k = (gt row k - sumL L row k) % p
  | [], row, _, hr => by
    refine ⟨hr, fun k hk => ?_⟩
    have := gt_range hp hr k
    simp only [lessL, List.foldl_nil, sumL, List.map_nil, List.sum_nil, Int.sub_zero]
    exact (Int.emod_eq_of_lt this.1 this.2).symm
  | r :: L, row, hR, hr => by
    obtain ⟨hr0, hr1⟩ := hR.1 r (List.mem_cons_self ..)
    obtain ⟨s1, s2⟩ := subR_ok hp hr.1 hr0.1 (gt row (leadN r))
    obtain ⟨k1, k2⟩ := less_ok hp hR.tail s1
    have e : lessL p (r :: L) row = lessL p L (subR p row r (gt row (leadN r))) := rfl
    rw [e]
    refine ⟨k1, fun k hk => ?_⟩
    have hs : sumL L (subR p row r (gt row (leadN r))) k = sumL L row k := by
      unfold sumL
      congr 1
      refine List.map_congr_left fun q hq => ?_
      obtain ⟨hq0, hq1⟩ := hR.tail.1 q hq
      have h0 := ((List.pairwise_cons.1 hR.2).1 q hq).2
      have hb := gt_range hp hr (leadN q)
      rw [s2 _ (lead_lt hq0 hq1), h0, Int.mul_zero, Int.sub_zero, Int.emod_eq_of_lt hb.1 hb.2]
    rw [k2 k hk, s2 k hk, hs]
    unfold sumL
    rw [List.map_cons, List.sum_cons, Int.emod_sub_emod]
    congr 1; omega
theorem less_perm {p : Int} {n : Nat} (hp : 0 < p) {L L' : List (List Int)} {row : List Int} (hR : Red p n L) (hP : L.Perm L') (hr : RowOk p n row) : lessL p L row = lessL p L' row := by
  obtain ⟨a1, a2⟩ := less_ok hp hR hr
  obtain ⟨b1, b2⟩ := less_ok hp (hR.perm hP) hr
  refine gt_ext (a1.1.trans b1.1.symm) fun i hi => ?_
  rw [a2 i (by rw [← a1.1]; exact hi), b2 i (by rw [← a1.1]; exact hi), sumL_perm hP]
/-- What is left has 0 where the rows begin. -/
theorem sum_at {p : Int} {n : Nat} : ∀ {L : List (List Int)} {row : List Int}, Red p n L → ∀ r ∈ L, sumL L row (leadN r) = gt row (leadN r)
  | [], _, _, r, h => by cases h
  | q :: L, row, hR, r, h => by
    have hz : ∀ {L : List (List Int)} {r : List Int}, (∀ q ∈ L, gt q (leadN r) = 0) → sumL L row (leadN r) = 0 := by
      intro L r
      induction L with
      | nil => intro _; rfl
      | cons q L ih =>
        intro h
        have := ih fun x hx => h x (List.mem_cons_of_mem _ hx)
        unfold sumL at this ⊢
        rw [List.map_cons, List.sum_cons, this, h q (List.mem_cons_self ..)]; simp
    have e : sumL (q :: L) row (leadN r) = gt row (leadN q) * gt q (leadN r) + sumL L row (leadN r) := by simp [sumL]
    rw [e]
    have hpw := (List.pairwise_cons.1 hR.2).1
    rcases List.mem_cons.1 h with rfl | h
    · rw [(hR.1 r (List.mem_cons_self ..)).2, hz fun x hx => (hpw x hx).1]; omega
    · rw [(hpw r h).2, sum_at hR.tail r h]; omega
theorem less_zero {p : Int} {n : Nat} (hp : 0 < p) {L : List (List Int)} {row : List Int} (hR : Red p n L) (hr : RowOk p n row) : ∀ r ∈ L, gt (lessL p L row) (leadN r) = 0 := by
  intro r h
  obtain ⟨h0, h1⟩ := hR.1 r h
  rw [(less_ok hp hR hr).2 _ (lead_lt h0 h1), sum_at hR r h, Int.sub_self, Int.zero_emod]

/-! ### inverses -/
theorem inv_ok {p n : Int} (hp : Pr p) (h1 : 1 ≤ n) (h2 : n < p) : n * invN n p % p = 1 ∧ 1 ≤ invN n p ∧ invN n p < p := by
  have key : ∀ p ∈ [2, 3, 5, 7, 11, 13], ∀ m ∈ List.range p, 1 ≤ m → (m : Int) * invN m p % p = 1 ∧ 1 ≤ invN m p ∧ invN m p < p := by decide
  obtain ⟨m, rfl⟩ : ∃ m : Nat, n = m := ⟨n.toNat, by omega⟩
  rcases hp with rfl | rfl | rfl | rfl | rfl | rfl
  · exact key 2 (by simp) m (List.mem_range.2 (by omega)) (by omega)
  · exact key 3 (by simp) m (List.mem_range.2 (by omega)) (by omega)
  · exact key 5 (by simp) m (List.mem_range.2 (by omega)) (by omega)
  · exact key 7 (by simp) m (List.mem_range.2 (by omega)) (by omega)
  · exact key 11 (by simp) m (List.mem_range.2 (by omega)) (by omega)
  · exact key 13 (by simp) m (List.mem_range.2 (by omega)) (by omega)

theorem nrm_ok {p : Int} {n : Nat} (hp : Pr p) {row : List Int} (hr : RowOk p n row) (hl : Led row) : RowOk p n (nrm p row) ∧ leadN (nrm p row) = leadN row ∧ gt (nrm p row) (leadN row) = 1 ∧
    ∀ i, gt (nrm p row) i = gt row i * invN (gt row (leadN row)) p % p := by
  have hpp := prPos hp
  have h0 := gt_lead hl
  have hb := gt_range (by omega) hr (leadN row)
  obtain ⟨k1, k2, k3⟩ := inv_ok hp (n := gt row (leadN row)) (by omega) hb.2
  have hg : ∀ i, gt (nrm p row) i = gt row i * invN (gt row (leadN row)) p % p := by
    intro i
    by_cases hi : i < row.length
    · rw [gt_lt (by simpa [nrm] using hi), gt_lt hi]; simp [nrm]
    · rw [gt_ge (by simp [nrm]; omega), gt_ge (by omega)]; simp
  have h1 : gt (nrm p row) (leadN row) = 1 := by rw [hg, k1]
  refine ⟨⟨by simp [nrm, hr.1], fun x hx => ?_⟩, leadN_of (fun i hi => by rw [hg, gt_before hi]; simp) (by rw [h1]; omega), h1, hg⟩
  obtain ⟨y, _, rfl⟩ := List.mem_map.1 hx
  exact ⟨Int.emod_nonneg _ (by omega), Int.emod_lt_of_pos _ (by omega)⟩

/-- One row more. -/
theorem take_red {p : Int} {n : Nat} (hp : Pr p) {L : List (List Int)} {row : List Int} (hR : Red p n L) (hr : RowOk p n row) (hl : Led (lessL p L row)) :
    (∀ r ∈ L, leadN (subR p r (nrm p (lessL p L row)) (gt r (leadN (lessL p L row)))) = leadN r) ∧
    Red p n (L.map (fun r => subR p r (nrm p (lessL p L row)) (gt r (leadN (lessL p L row)))) ++ [nrm p (lessL p L row)]) := by
  have hpp := prPos hp
  have hp0 : 0 < p := by omega
  obtain ⟨w1, _⟩ := less_ok hp0 hR hr
  have hz := less_zero hp0 hR hr
  obtain ⟨n1, n2, n3, n4⟩ := nrm_ok hp w1 hl
  generalize lessL p L row = row1 at *
  generalize nrm p row1 = w at *
  have hwz : ∀ r ∈ L, gt w (leadN r) = 0 := fun r h => by rw [n4, hz r h]; simp
  have hwb : ∀ i < leadN row1, gt w i = 0 := fun i hi => gt_before (by rw [n2]; exact hi)
  have hsub : ∀ r ∈ L, RowOk p n (subR p r w (gt r (leadN row1))) ∧ ∀ i < n, gt (subR p r w (gt r (leadN row1))) i = (gt r i - gt r (leadN row1) * gt w i) % p := fun r h => subR_ok hp0 (hR.1 r h).1.1 n1.1 _
  have h1p : (1 : Int) % p = 1 := Int.emod_eq_of_lt (by omega) (by omega)
  have hone : ∀ r ∈ L, gt (subR p r w (gt r (leadN row1))) (leadN r) = 1 := by
    intro r h
    obtain ⟨h0, h1⟩ := hR.1 r h
    rw [(hsub r h).2 _ (lead_lt h0 h1), hwz r h, h1]; simpa using h1p
  have hlead : ∀ r ∈ L, leadN (subR p r w (gt r (leadN row1))) = leadN r := by
    intro r h
    obtain ⟨h0, h1⟩ := hR.1 r h
    refine leadN_of (fun i hi => ?_) (by rw [hone r h]; omega)
    rw [(hsub r h).2 _ (by have := lead_lt h0 h1; omega), gt_before hi]
    by_cases hc : i < leadN row1
    · rw [hwb i hc]; simp
    · rw [gt_before (r := r) (i := leadN row1) (by omega)]; simp
  refine ⟨hlead, fun q hq => ?_, ?_⟩
  · rcases List.mem_append.1 hq with hq | hq
    · obtain ⟨r, h, rfl⟩ := List.mem_map.1 hq
      refine ⟨(hsub r h).1, ?_⟩
      rw [hlead r h]; exact hone r h
    · simp only [List.mem_singleton] at hq; subst hq
      refine ⟨n1, ?_⟩
      rw [n2]; exact n3
  · refine List.pairwise_append.2 ⟨?_, List.pairwise_singleton _ _, fun q hq q' hq' => ?_⟩
    · rw [List.pairwise_map]
      refine hR.2.imp_of_mem fun {r r'} hr hr' hrr => ?_
      obtain ⟨a0, a1⟩ := hR.1 r hr
      obtain ⟨b0, b1⟩ := hR.1 r' hr'
      rw [hlead r hr, hlead r' hr', (hsub r' hr').2 _ (lead_lt a0 a1), (hsub r hr).2 _ (lead_lt b0 b1), hrr.1, hrr.2, hwz r hr, hwz r' hr']
      simp
    · obtain ⟨r, h, rfl⟩ := List.mem_map.1 hq
      simp only [List.mem_singleton] at hq'; subst hq'
      have hln : leadN row1 < n := by have := hl; unfold Led at this; rw [w1.1] at this; exact this
      rw [hlead r h, n2, (hsub r h).2 _ hln, n3]
      refine ⟨hwz r h, ?_⟩
      simp

theorem ins_perm (f : List Int → List Int) (w : List Int) (k : Nat) : ∀ L : List (List Int), (insL f w k L).Perm (L.map f ++ [w])
  | [] => by simp [insL]
  | r :: L => by
    unfold insL
    split
    · rw [List.map_cons, List.cons_append]
      refine (List.perm_append_comm (l₁ := [w]) (l₂ := f r :: L.map f)).trans ?_
      exact List.Perm.refl _
    · rw [List.map_cons, List.cons_append]
      exact (ins_perm f w k L).cons _
abbrev Srt (L : List (List Int)) : Prop := L.Pairwise fun r q => leadN r < leadN q
theorem ins_srt {f : List Int → List Int} {w : List Int} {k : Nat} (hw : leadN w = k) : ∀ {L : List (List Int)}, (∀ r ∈ L, leadN (f r) = leadN r) → (∀ r ∈ L, leadN r ≠ k) → Srt L → Srt (insL f w k L)
  | [], _, _, _ => by simp [insL, Srt]
  | r :: L, hf, hne, hs => by
    have hs' := List.pairwise_cons.1 hs
    have hmap : Srt (L.map f) := by
      unfold Srt
      rw [List.pairwise_map]
      refine hs'.2.imp_of_mem fun {a b} ha hb hab => ?_
      rw [hf a (List.mem_cons_of_mem _ ha), hf b (List.mem_cons_of_mem _ hb)]; exact hab
    have hfm : ∀ q ∈ L.map f, leadN r < leadN q := fun q hq => by
      obtain ⟨x, hx, rfl⟩ := List.mem_map.1 hq
      rw [hf x (List.mem_cons_of_mem _ hx)]; exact hs'.1 x hx
    unfold insL
    split
    · rename_i hlt
      refine List.pairwise_cons.2 ⟨fun q hq => ?_, List.pairwise_cons.2 ⟨fun q hq => ?_, hmap⟩⟩
      · rw [hw]
        rcases List.mem_cons.1 hq with rfl | hq
        · rw [hf r (List.mem_cons_self ..)]; exact hlt
        · exact Nat.lt_trans hlt (hfm q hq)
      · rw [hf r (List.mem_cons_self ..)]; exact hfm q hq
    · rename_i hge
      have hlt : leadN r < k := by have := hne r (List.mem_cons_self ..); omega
      refine List.pairwise_cons.2 ⟨fun q hq => ?_, ins_srt hw (fun x hx => hf x (List.mem_cons_of_mem _ hx)) (fun x hx => hne x (List.mem_cons_of_mem _ hx)) hs'.2⟩
      rw [hf r (List.mem_cons_self ..)]
      rcases List.mem_append.1 ((ins_perm f w k L).subset hq) with hq | hq
      · exact hfm q hq
      · simp only [List.mem_singleton] at hq; subst hq; rw [hw]; exact hlt

/-- The program's list and the reference's. -/
def Both (p : Int) (n : Nat) (L E : List (List Int)) : Prop := Red p n L ∧ E.Perm L ∧ Srt E
theorem Both.step {p : Int} {n : Nat} (hp : Pr p) {L E : List (List Int)} (h : Both p n L E) {row : List Int} (hr : RowOk p n row) : Both p n (takeL p L row) (echS p E row) := by
  obtain ⟨h1, h2, h3⟩ := h
  have hp0 : 0 < p := by have := prPos hp; omega
  have e : lessL p E row = lessL p L row := (less_perm hp0 h1 h2.symm hr).symm
  unfold takeL echS
  rw [e]
  split
  · rename_i hl
    obtain ⟨t1, t2⟩ := take_red hp h1 hr hl
    obtain ⟨w1, _⟩ := less_ok hp0 h1 hr
    obtain ⟨_, n2, n3, _⟩ := nrm_ok hp w1 hl
    have hz := less_zero hp0 h1 hr
    refine ⟨t2, (ins_perm _ _ _ _).trans ((h2.map _).append_right _), ins_srt n2 (fun r hr' => t1 r (h2.subset hr')) (fun r hr' hc => ?_) h3⟩
    have := hz r (h2.subset hr')
    rw [hc] at this
    exact gt_lead hl this
  · exact ⟨h1, h2, h3⟩
theorem both_nil (p : Int) (n : Nat) : Both p n [] [] := ⟨⟨fun _ h => (nomatch h), List.Pairwise.nil⟩, List.Perm.refl _, List.Pairwise.nil⟩
theorem both_ok {p : Int} {n : Nat} (hp : Pr p) (rows : List (List Int)) : ∀ {L E : List (List Int)}, Both p n L E → (∀ r ∈ rows, RowOk p n r) → Both p n (rows.foldl (takeL p) L) (rows.foldl (echS p) E) := by
  induction rows with
  | nil => intro L E h _; exact h
  | cons r rows ih =>
    intro L E h hr
    exact ih (h.step hp (hr r (List.mem_cons_self ..))) fun q hq => hr q (List.mem_cons_of_mem _ hq)
theorem red_len {p : Int} : ∀ {rows L : List (List Int)}, (rows.foldl (takeL p) L).length ≤ L.length + rows.length
  | [], L => by simp
  | r :: rows, L => by
    have := red_len (p := p) (rows := rows) (L := takeL p L r)
    have h2 : (takeL p L r).length ≤ L.length + 1 := by unfold takeL; split <;> simp
    simp only [List.foldl_cons, List.length_cons]; omega

end Go.Sm

namespace Go.Sm
open Go.RowKit

abbrev fnD (f : Nat) : D := .v (.func (.func f) #[] #[])
def leadZ (r : List Int) : Int := if leadN r < r.length then leadN r else -1

theorem leadN_le (r : List Int) : leadN r ≤ r.length := List.findIdx_le_length
theorem leadZ_at {r : List Int} {i : Nat} {x : Int} (hx : r[i]? = some x) (h : ∀ j < i, gt r j = 0) (h0 : x ≠ 0) : leadZ r = i := by
  obtain ⟨hi, rfl⟩ := List.getElem?_eq_some_iff.1 hx
  have : leadN r = i := leadN_of h (by rw [gt_lt hi]; exact h0)
  unfold leadZ
  rw [this, if_pos hi]
theorem leadZ_none {r : List Int} (h : ∀ j < r.length, gt r j = 0) : leadZ r = -1 := by
  unfold leadZ
  rw [if_neg]
  intro hl
  exact gt_lead hl (h _ hl)

theorem invGo_step {n p : Int} {f : Nat} {k : Int} (h : k < p) : invGo n p (f + 1) k = if n * k % p = 1 then k else invGo n p f (k + 1) := by rw [invGo, if_pos h]
theorem invGo_end {n p : Int} {f : Nat} {k : Int} (h : ¬ k < p) : invGo n p f k = 0 := by cases f <;> simp [invGo, h]

theorem inverse_ok (n p : Int) (hp : Pr p) (h1 : 0 ≤ n) (h2 : n < p) : CallOK Go.Proofs.Try.prog 71 [.one (i64 n), .one (i64 p)] (.one (i64 (invN n p))) := by
  have hF := fnOk 18 [.tmp 4]
  refine callOK hF 60 Go.Proofs.Try.func71 rfl rfl rfl (by decide) (by simp) rfl ?_
  intro w0 hw
  have S := @vc_sound w0 _ hF ⟨(.one (i64 (invN n p))), []⟩ Go.Proofs.Try.f71 rfl (by simp)
  have hpp := prPos hp
  simp
  refine J.loop hw (fun k : Nat => ⟨[(0, .c (.d (i64 n))), (1, .c (.d (i64 p))), (5, .c (.d (i64 k)))], []⟩)
    (fun k => 1 ≤ k ∧ (k : Int) ≤ p ∧ invN n p = invGo n p (14 - k) k) (fun k => p.toNat - k) 1 ⟨by omega, by omega, rfl⟩ (by simp) ?_
  rintro k ⟨hk1, hk2, hk⟩
  refine S 12 _ _ ?_
  simp
  refine ⟨fun hlt => ?_, fun hge => ?_⟩
  · have hm : 0 ≤ n * k := Int.mul_nonneg h1 (by omega)
    have hm2 : n * k ≤ 13 * 13 := Int.mul_le_mul (by omega) (by omega) (by omega) (by omega)
    have w1 : IntKind.i64.wrap (n * k) = n * k := wrap64 (by omega) (by omega)
    have hmod : (n * (k : Int)).tmod p = n * k % p := Int.tmod_eq_emod_of_nonneg hm
    have hp0 : p ≠ 0 := by omega
    obtain ⟨f, hf⟩ : ∃ f, 14 - k = f + 1 := ⟨13 - k, by omega⟩
    rw [hf, invGo_step hlt] at hk
    refine S 60 _ _ ?_
    simp [w1, hmod, hp0]
    refine ⟨fun he => ?_, fun hne => ?_⟩
    · rw [if_pos he] at hk; exact hk.symm
    · rw [if_neg hne] at hk
      refine Nxt.mk (k + 1) ⟨by omega, by omega, by rw [hk, show 14 - (k + 1) = f by omega]; rfl⟩ (by simp; rw [wrap64] <;> omega) (by omega)
  · have e : invN n p = 0 := by rw [hk]; exact invGo_end (by omega)
    refine S 60 _ _ ?_
    simp [e]

end Go.Sm
