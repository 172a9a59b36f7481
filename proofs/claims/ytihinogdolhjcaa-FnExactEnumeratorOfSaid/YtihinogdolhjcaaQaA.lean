/- Monomials, terms and polynomials as pure data; the small functions over them. -/
import Derived.Test.YtihinogdolhjcaaSnF
namespace Go.Sm
open Go.RowKit

/-- The exponents of a monomial. -/
structure Ex where
  a : UInt8
  b : UInt8
  c : UInt8
  deriving DecidableEq, Inhabited
/-- A term. -/
structure Tm where
  e : Ex
  v : Int
  deriving DecidableEq, Inhabited

abbrev u8 (x : UInt8) : D := .v (.int .u8 x.toNat)
abbrev Ex.ds (e : Ex) : List D := [u8 e.a, u8 e.b, u8 e.c]
abbrev terms (ts : List Tm) : List (List D) := ts.map fun t => [u8 t.e.a, u8 t.e.b, u8 t.e.c, i64 t.v]
abbrev vTerms (ts : List Tm) : D := .vw true 4 (terms ts)
abbrev oTerms (ts : List Tm) : D := .own 108 4 (terms ts)
/-- A polynomial: as an argument, and as a result. -/
abbrev pv (p d : Int) (ts : List Tm) : RV := .agg [i64 p, i64 d, vTerms ts]
abbrev po (p d : Int) (ts : List Tm) : RV := .agg [i64 p, i64 d, oTerms ts]
def Ex.deg (e : Ex) : Int := (e.a.toNat : Int) + e.b.toNat + e.c.toNat
/-- How two monomials stand to one another. -/
def cmpE (x y : Ex) : Int :=
  if x.deg - y.deg ≠ 0 then x.deg - y.deg else if x.a ≠ y.a then (y.a.toNat : Int) - x.a.toNat else (y.b.toNat : Int) - x.b.toNat

theorem cmpE_self (x : Ex) : cmpE x x = 0 := by simp [cmpE]
theorem u8_lt (x : UInt8) : x.toNat < 256 := x.toNat_lt
theorem deg_lt (x : Ex) : 0 ≤ x.deg ∧ x.deg < 768 := by
  have := u8_lt x.a; have := u8_lt x.b; have := u8_lt x.c
  unfold Ex.deg; omega

@[simp] theorem ble_tt {a b : Nat} (h : a ≤ b) : Nat.ble a b = true := by rw [Nat.ble_eq]; exact h
@[simp] theorem ble_ff {a b : Nat} (h : b < a) : Nat.ble a b = false := by
  cases hb : Nat.ble a b with
  | false => rfl
  | true => rw [Nat.ble_eq] at hb; omega
@[simp] theorem beq_tt (a : Nat) : Nat.beq a a = true := Nat.beq_refl a
@[simp] theorem beq_ff {a b : Nat} (h : a ≠ b) : Nat.beq a b = false := by
  cases hb : Nat.beq a b with
  | false => rfl
  | true => exact absurd (nat_beq hb) h
@[simp] theorem wrap64_0 : IntKind.i64.wrap 0 = 0 := rfl
@[simp] theorem wrap64_1 : IntKind.i64.wrap 1 = 1 := rfl
@[simp] theorem wrap64_2 : IntKind.i64.wrap 2 = 2 := rfl
@[simp] theorem wrap64_3 : IntKind.i64.wrap 3 = 3 := rfl
@[simp] theorem wrap64_4 : IntKind.i64.wrap 4 = 4 := rfl
@[simp] theorem wrap64_u8 (x : UInt8) : IntKind.i64.wrap (x.toNat : Int) = x.toNat := by
  have := u8_lt x
  exact wrap64 (by omega) (by omega)
@[simp] theorem wrap64_u8a (x y : UInt8) : IntKind.i64.wrap ((x.toNat : Int) + y.toNat) = x.toNat + y.toNat := by
  have := u8_lt x; have := u8_lt y
  exact wrap64 (by omega) (by omega)
@[simp] theorem wrap64_u8b (x y z : UInt8) : IntKind.i64.wrap ((x.toNat : Int) + y.toNat + z.toNat) = x.toNat + y.toNat + z.toNat := by
  have := u8_lt x; have := u8_lt y; have := u8_lt z
  exact wrap64 (by omega) (by omega)
@[simp] theorem wrap64_u8s (x y : UInt8) : IntKind.i64.wrap ((x.toNat : Int) - y.toNat) = x.toNat - y.toNat := by
  have := u8_lt x; have := u8_lt y
  exact wrap64 (by omega) (by omega)
@[simp] theorem wrap64_deg (x y : Ex) : IntKind.i64.wrap (x.deg - y.deg) = x.deg - y.deg := by
  have := deg_lt x; have := deg_lt y
  exact wrap64 (by omega) (by omega)
@[simp] theorem u8_bne (x y : UInt8) : ((x.toNat : Int) != (y.toNat : Int)) = (x != y) := by
  by_cases h : x = y
  · subst h; simp
  · have : (x.toNat : Int) ≠ y.toNat := fun e => h (UInt8.toNat_inj.1 (by omega))
    rw [show (x != y) = true from bne_iff_ne.2 h]
    exact bne_iff_ne.2 this
@[simp] theorem u8_beq (x y : UInt8) : ((x.toNat : Int) == (y.toNat : Int)) = (x == y) := by
  by_cases h : x = y
  · subst h; simp
  · have : (x.toNat : Int) ≠ y.toNat := fun e => h (UInt8.toNat_inj.1 (by omega))
    rw [show (x == y) = false from beq_eq_false_iff_ne.2 h]
    exact beq_eq_false_iff_ne.2 this
@[simp] theorem u8_beq0 (x : UInt8) : ((x.toNat : Int) == 0) = (x == 0) := u8_beq x 0
@[simp] theorem u8_bne0 (x : UInt8) : ((x.toNat : Int) != 0) = (x != 0) := u8_bne x 0

@[simp] theorem Ex.beq3 (x y : Ex) : (x.a == y.a && (x.b == y.b && x.c == y.c)) = decide (x = y) := by
  cases x; cases y
  rw [Bool.eq_iff_iff]
  simp

theorem degree_ok (e : Ex) : CallOK Go.Proofs.Try.prog 137 [.agg e.ds] (.one (i64 e.deg)) := by
  have hF := fnOk 14 [.tmp 2]
  refine callOK hF 60 Go.Proofs.Try.func137 rfl rfl rfl (by decide) (by simp) rfl ?_
  intro w0 hw
  have S := @vc_sound w0 _ hF ⟨(.one (i64 e.deg)), []⟩ Go.Proofs.Try.f137 rfl (by simp)
  simp [Ex.deg]

theorem l01Sum_ok (e : Ex) : CallOK Go.Proofs.Try.prog 148 [.agg e.ds] (.one (i64 e.deg)) := by
  have hF := fnOk 14 [.tmp 2]
  refine callOK hF 60 Go.Proofs.Try.func148 rfl rfl rfl (by decide) (by simp) rfl ?_
  intro w0 hw
  have S := @vc_sound w0 _ hF ⟨(.one (i64 e.deg)), []⟩ Go.Proofs.Try.f148 rfl (by simp)
  simp [Ex.deg]

theorem compareExps_ok (x y : Ex) : CallOK Go.Proofs.Try.prog 122 [.agg x.ds, .agg y.ds] (.one (i64 (cmpE x y))) := by
  have hF := fnOk 33 [.tmp 4]
  refine callOK hF 60 Go.Proofs.Try.func122 rfl rfl rfl (by decide) (by simp) rfl ?_
  intro w0 hw
  have S := @vc_sound w0 _ hF ⟨(.one (i64 (cmpE x y))), []⟩ Go.Proofs.Try.f122 rfl (by simp)
  have c1 := degree_ok x
  have c2 := degree_ok y
  simp at c1 c2 ⊢
  refine J.dr hF mixed 3 [[], [0], [], [0, 1, 2], [0, 1, 2, 3], [0, 1, 2, 3, 4]] [[6, 7, 8], [7, 8], [6, 7, 8]] (by decide) ?_
  simp
  refine DrC.ok hF (by rfl) (by simp) c1 (by simp) (by simp) ?_
  simp
  refine S 60 _ _ ?_
  simp
  refine CallW.ok (by decide) (by simp) c2 (by simp) ?_
  refine S 60 _ _ ?_
  by_cases h : x.deg = y.deg
  · by_cases h1 : x.a = y.a
    · simp [h, h1, cmpE]
    · simp [h, h1, cmpE]
  · have : x.deg - y.deg ≠ 0 := by omega
    have hb : (x.deg - y.deg != 0) = true := by simpa using this
    simp [this, cmpE, hb]

/-- A monomial in d letters of at most the greatest degree. -/
def InV (d : Int) (e : Ex) : Prop := (d ≤ 1 → e.b = 0) ∧ (d ≤ 2 → e.c = 0) ∧ e.deg ≤ 12
instance (d : Int) (e : Ex) : Decidable (InV d e) := by unfold InV; infer_instance

theorem l01Exps_ok (d : Int) (e : Ex) (h1 : 1 ≤ d) (h3 : d ≤ 3) : CallOK Go.Proofs.Try.prog 116 [.one (i64 d), .agg e.ds] (.one (bo (decide (InV d e)))) := by
  have hF := fnOk 18 [.tmp 4]
  refine callOK hF 60 Go.Proofs.Try.func116 rfl rfl rfl (by decide) (by simp) rfl ?_
  intro w0 hw
  have S := @vc_sound w0 _ hF ⟨(.one (bo (decide (InV d e)))), []⟩ Go.Proofs.Try.f116 rfl (by simp)
  have c1 := l01Sum_ok e
  have hd : d = 1 ∨ d = 2 ∨ d = 3 := by omega
  rcases hd with rfl | rfl | rfl <;> simp at c1 S ⊢
  · refine J.rounds 4 (LpW.step (S 60 _ _ ?_))
    simp
    refine ⟨fun hb hi => hb (hi.1 (by omega)), fun hb => LpW.inv (LpW.step (S 60 _ _ ?_))⟩
    simp
    refine ⟨fun hc hi => hc (hi.2.1 (by omega)), fun hc => LpW.inv (LpW.step (S 60 _ _ ?_))⟩
    simp
    refine CallW.ok (by decide) (by simp) c1 (by simp) (S 60 _ _ ?_)
    simp [InV, hb, hc]
  · refine J.rounds 4 (LpW.step (S 60 _ _ ?_))
    simp
    refine ⟨fun hc hi => hc (hi.2.1 (by omega)), fun hc => LpW.inv (LpW.step (S 60 _ _ ?_))⟩
    simp
    refine CallW.ok (by decide) (by simp) c1 (by simp) (S 60 _ _ ?_)
    simp [InV, hc]
  · refine J.rounds 4 (LpW.step (S 60 _ _ ?_))
    simp
    refine CallW.ok (by decide) (by simp) c1 (by simp) (S 60 _ _ ?_)
    simp [InV]

theorem l01Before_ok (x y : Ex) : CallOK Go.Proofs.Try.prog 119 [.agg x.ds, .agg y.ds] (.one (bo (decide (cmpE x y < 0)))) := by
  have hF := fnOk 30 [.tmp 4]
  refine callOK hF 60 Go.Proofs.Try.func119 rfl rfl rfl (by decide) (by simp) rfl ?_
  intro w0 hw
  have S := @vc_sound w0 _ hF ⟨(.one (bo (decide (cmpE x y < 0)))), []⟩ Go.Proofs.Try.f119 rfl (by simp)
  have c1 := l01Sum_ok x
  have c2 := l01Sum_ok y
  simp at c1 c2 ⊢
  refine J.dr hF mixed 3 [[], [0], [], [0, 1, 2], [0, 1, 2, 3]] [[5, 6, 7], [6, 7], [5, 6, 7]] (by decide) ?_
  simp
  refine DrC.ok hF (by rfl) (by simp) c1 (by simp) (by simp) ?_
  simp
  refine S 60 _ _ ?_
  simp
  refine CallW.ok (by decide) (by simp) c2 (by simp) ?_
  refine S 60 _ _ ?_
  by_cases h : x.deg = y.deg
  · have hb : (x.deg != y.deg) = false := by simpa using h
    by_cases h1 : x.a = y.a
    · simp [h, h1, cmpE]
      omega
    · simp [h, h1, cmpE]
      unfold Later
      omega
  · have hb : (x.deg != y.deg) = true := by simpa using h
    have : x.deg - y.deg ≠ 0 := by omega
    have e : decide (cmpE x y < 0) = decide (x.deg < y.deg) := by
      unfold cmpE
      rw [if_pos this]
      by_cases h2 : x.deg < y.deg
      · rw [decide_eq_true h2, decide_eq_true (by omega)]
      · rw [decide_eq_false h2, decide_eq_false (by omega)]
    rw [e] at S ⊢
    simp [hb]
    refine J.dr hF mixed 3 [[], [0], [], [0, 1, 2], [0, 1, 2, 3], [0, 1, 2, 3, 4]] [[10, 11, 12], [11, 12], [10, 11, 12]] (by decide) ?_
    simp
    refine DrC.ok hF (by rfl) (by simp) c1 (by simp) (by simp) ?_
    simp
    refine S 60 _ _ ?_
    simp
    refine CallW.ok (by decide) (by simp) c2 (by simp) ?_
    refine S 60 _ _ ?_
    simp

/-- The coefficient of a monomial. -/
def coef : List Tm → Ex → Int
  | [], _ => 0
  | t :: ts, e => if t.e = e then t.v else coef ts e

theorem l01At_ok (p d : Int) (ts : List Tm) (e : Ex) (hl : ts.length ≤ 1048576) : CallOK Go.Proofs.Try.prog 118 [pv p d ts, .agg e.ds] (.one (i64 (coef ts e))) := by
  have hF := fnOk 27 [.tmp 4]
  refine callOK hF 60 Go.Proofs.Try.func118 rfl rfl rfl (by decide) (by simp) rfl ?_
  intro w0 hw
  have S := @vc_sound w0 _ hF ⟨(.one (i64 (coef ts e))), []⟩ Go.Proofs.Try.f118 rfl (by simp)
  simp
  refine J.loop hw (fun i : Nat => ⟨[(5, .c (.d (i64 i))), (2, .c (.ref 64002 0)), (3, .c (.ref 64003 0))], [(64002, .var [.d (i64 p), .d (i64 d), .d (vTerms ts)]), (64003, .var [.d (u8 e.a), .d (u8 e.b), .d (u8 e.c)])]⟩)
    (fun i => i ≤ ts.length ∧ coef ts e = coef (ts.drop i) e) (fun i => ts.length - i) 0 (by simp) (by simp) ?_
  rintro i ⟨hi, hc⟩
  refine S 60 _ _ ?_
  simp
  refine ⟨fun hlt => ?_, fun hge => by rw [hc, List.drop_eq_nil_of_le hge]; rfl⟩
  refine J.dr hF mixed 7 [[], [0], [], [0, 1, 2], [0, 1, 2, 3], [0, 1, 2, 3, 4], [], [0, 1, 2, 3, 4, 5, 6]] [[13, 14, 15, 16, 17, 18, 19], [14, 15, 16, 17, 18, 19], [13, 14, 15, 16, 17, 18, 19], [16, 17, 18, 19], [17, 18, 19], [18, 19], [13, 14, 15, 16, 17, 18, 19]] (by decide) ?_
  simp
  refine ⟨hlt, fun a ha => ?_⟩
  refine S 60 _ _ ?_
  simp
  have hd := drop_cons ha
  rw [hd] at hc
  refine ⟨fun h1 => ⟨hlt, fun b hb => ?_⟩, fun hn => ?_⟩
  · rw [ha] at hb
    obtain rfl := Option.some.inj hb
    rw [hc]; simp [coef, h1]
  · refine Nxt.mk (i + 1) ⟨hlt, ?_⟩ (by simp [wrapS (i := i) (n := ts.length) hlt (by omega)]) (by omega)
    rw [hc]; simp [coef, hn]

end Go.Sm
