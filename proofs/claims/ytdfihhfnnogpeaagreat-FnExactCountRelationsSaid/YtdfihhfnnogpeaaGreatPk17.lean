/- Towards the rows of this seat: what the functions do, as contracts over plain data. -/
import Derived.Test.YtdfihhfnnogpeaaGreatPk15
import Derived.Test.YtdfihhfnnogpeaaGreatPk16
namespace Go.Sm

/-- Exponents of d letters, of degree n at most. -/
def DegLe (d : Int) (n : Nat) (e : Ex) : Prop := (d ≤ 1 → e.b = 0) ∧ (d ≤ 2 → e.c = 0) ∧ e.deg ≤ n
theorem DegLe.inV {d : Int} {n : Nat} {e : Ex} (h : DegLe d n e) (hn : n ≤ 12) : InV d e := ⟨h.1, h.2.1, by have := h.2.2; omega⟩
theorem InV.degLe {d : Int} {e : Ex} (h : InV d e) : DegLe d 12 e := ⟨h.1, h.2.1, h.2.2⟩
theorem DegLe.mono {d : Int} {n m : Nat} {e : Ex} (h : DegLe d n e) (hn : n ≤ m) : DegLe d m e := ⟨h.1, h.2.1, by have := h.2.2; omega⟩
theorem DegLe.add {d : Int} {n m : Nat} {x y : Ex} (hx : DegLe d n x) (hy : DegLe d m y) (h : n + m ≤ 255) : DegLe d (n + m) (addE x y) := by
  obtain ⟨x1, x2, x3⟩ := hx
  obtain ⟨y1, y2, y3⟩ := hy
  rw [addE_eq]
  refine ⟨fun hd => by simp only; rw [x1 hd, y1 hd]; rfl, fun hd => by simp only; rw [x2 hd, y2 hd]; rfl, ?_⟩
  unfold Ex.deg at x3 y3 ⊢
  simp only [UInt8.toNat_add]
  omega

/-- What holds of all exponents. -/
def AllE (Q : Ex → Prop) (ts : List Tm) : Prop := ∀ t ∈ ts, Q t.e
theorem AllE.mono {Q R : Ex → Prop} {ts : List Tm} (h : AllE Q ts) (hq : ∀ e, Q e → R e) : AllE R ts := fun t ht => hq _ (h t ht)
theorem putT_all {Q : Ex → Prop} {p : Int} {ts : List Tm} {e : Ex} {v : Int} (h : AllE Q ts) (he : Q e) : AllE Q (putT p ts e v) := by
  intro t ht
  unfold putT at ht
  rcases putGo_mem ht with ⟨h1, _⟩ | ⟨h1, _⟩
  · rw [h1]; exact he
  · exact h t h1
theorem mulRow_all {Q : Ex → Prop} {p : Int} {a : Tm} {out : List Tm} (h : AllE Q out) : ∀ {us : List Tm}, (∀ u ∈ us, Q (addE a.e u.e)) → AllE Q (mulRow p a out us) := by
  intro us
  induction us using snocInd with
  | nil => intro _; exact h
  | snoc us u ih =>
    intro hu
    rw [mulRow_snoc]
    exact putT_all (ih fun x hx => hu x (by simp [hx])) (hu u (by simp))
theorem mulT_all {Q : Ex → Prop} {p : Int} {us : List Tm} : ∀ {ts : List Tm}, (∀ t ∈ ts, ∀ u ∈ us, Q (addE t.e u.e)) → AllE Q (mulT p ts us) := by
  intro ts
  induction ts using snocInd with
  | nil => intro _; simp [mulT, AllE]
  | snoc ts t ih =>
    intro h
    rw [mulT_snoc]
    exact mulRow_all (ih fun x hx => h x (by simp [hx])) (h t (by simp))
theorem plusT_all {Q : Ex → Prop} {p : Int} {ts : List Tm} {k : Int} (h : AllE Q ts) : ∀ {us : List Tm}, AllE Q us → AllE Q (plusT p ts us k) := by
  intro us
  induction us using snocInd with
  | nil => intro _; exact h
  | snoc us u ih =>
    intro hu
    rw [plusT_snoc]
    exact putT_all (ih fun x hx => hu x (by simp [hx])) (hu u (by simp))
theorem mulT_deg {p d : Int} {n m : Nat} {ts us : List Tm} (ht : AllE (DegLe d n) ts) (hu : AllE (DegLe d m) us) (h : n + m ≤ 255) : AllE (DegLe d (n + m)) (mulT p ts us) :=
  mulT_all fun t h1 u h2 => (ht t h1).add (hu u h2) h
/-- Few terms. -/
theorem can_len {p d : Int} {n : Nat} {ts : List Tm} (hc : Can p ts) (h : AllE (DegLe d n) ts) (hn : n ≤ 12) : ts.length ≤ 455 := by
  have h1 := nodup_subset (ys := allE) (asc_nodup hc.1) fun e he => by
    obtain ⟨t, ht, rfl⟩ := List.mem_map.1 he
    exact allE_mem ((h t ht).inV hn)
  rw [allE_length, List.length_map] at h1
  exact h1

theorem cmpE_deg {x y : Ex} (h : cmpE x y < 0) : x.deg ≤ y.deg := by
  unfold cmpE at h
  by_cases h0 : x.deg - y.deg ≠ 0
  · rw [if_pos h0] at h; omega
  · omega
/-- The last term is one of the greatest degree. -/
theorem degT_max {ts : List Tm} (h : Asc ts) : ∀ t ∈ ts, t.e.deg ≤ degT ts := by
  intro t ht
  obtain ⟨i, hi, hti⟩ := List.getElem_of_mem ht
  have hl : ts[ts.length - 1]? = some (ts[ts.length - 1]'(by omega)) := List.getElem?_eq_getElem _
  unfold degT
  rw [List.getLast?_eq_getElem?, hl]
  show t.e.deg ≤ (ts[ts.length - 1]'(by omega)).e.deg
  by_cases e : i = ts.length - 1
  · subst e; rw [hti]; exact Int.le_refl _
  · exact cmpE_deg (asc_get h (show ts[i]? = some t by rw [List.getElem?_eq_getElem hi, hti]) hl (by omega))
theorem degT_ge {ts : List Tm} : -1 ≤ degT ts := by
  unfold degT
  cases ts.getLast? with
  | none => exact Int.le_refl _
  | some t => exact Int.le_trans (by decide) (deg_lt t.e).1
theorem degT_le {d : Int} {n : Nat} {ts : List Tm} (h : AllE (DegLe d n) ts) : degT ts ≤ n := by
  unfold degT
  cases ht : ts.getLast? with
  | none => exact Int.le_trans (show (-1 : Int) ≤ 0 by decide) (Int.natCast_nonneg n)
  | some t => exact (h t (List.mem_of_getLast? ht)).2.2
/-- The degree, 0 for the zero polynomial. -/
def dg (ts : List Tm) : Nat := (degT ts).toNat
theorem dg_all {p d : Int} {ts : List Tm} (h : GoodP p d ts) : AllE (DegLe d (dg ts)) ts := fun t ht => by
  have h1 := (h.2.2.1 t ht).1
  have h2 := degT_max h.2.2.2 t ht
  have h3 := deg_lt t.e
  exact ⟨h1.1, h1.2.1, by unfold dg; omega⟩
theorem dg_le {p d : Int} {ts : List Tm} (h : GoodP p d ts) : dg ts ≤ 12 := by
  have := degT_le (d := d) (n := 12) (ts := ts) fun t ht => (h.2.2.1 t ht).1.degLe
  unfold dg; omega

/-- The degree's bound of a term with polynomials put in. -/
def bndE (e : Ex) : Nat → List Pl → Nat
  | _, [] => 0
  | i, y :: ys => (exAt e i).toNat * dg y.ts + bndE e (i + 1) ys
/-- A term with polynomials put in. -/
def prodE (p : Int) (e : Ex) : Nat → List Pl → List Tm → List Tm
  | _, [], a => a
  | i, y :: ys, a => prodE p e (i + 1) ys (timesT p y.ts (exAt e i).toNat a)
/-- A polynomial with polynomials put in. -/
def subT (p : Int) (ys : List Pl) (ts : List Tm) : List Tm := ts.foldl (fun o t => plusT p o (prodE p t.e 0 ys [⟨e0, t.v⟩]) 1) []

theorem timesT_facts {p d : Int} (hp : 2 ≤ p) {y : List Tm} {m : Nat} (hy : AllE (DegLe d m) y) : ∀ (k : Nat) {n : Nat} {a : List Tm}, Can p a → AllE (DegLe d n) a → n + k * m ≤ 255 → Can p (timesT p y k a) ∧ AllE (DegLe d (n + k * m)) (timesT p y k a)
  | 0, n, a, ha, hn, _ => by simpa [timesT] using And.intro ha hn
  | k + 1, n, a, ha, hn, h => by
    rw [Nat.succ_mul] at h
    have := timesT_facts hp hy k (n := n + m) (mulT_can (by omega) a y) (mulT_deg hn hy (by omega)) (by omega)
    rw [Nat.succ_mul, Nat.add_comm (k * m), ← Nat.add_assoc]
    exact this
theorem prodE_facts {p d : Int} (hp : 2 ≤ p) (e : Ex) : ∀ (ys : List Pl) (i : Nat) {n : Nat} {a : List Tm}, (∀ y ∈ ys, AllE (DegLe d (dg y.ts)) y.ts) → Can p a → AllE (DegLe d n) a → n + bndE e i ys ≤ 255 → Can p (prodE p e i ys a) ∧ AllE (DegLe d (n + bndE e i ys)) (prodE p e i ys a)
  | [], _, _, _, _, ha, hn, _ => ⟨ha, hn⟩
  | y :: ys, i, n, a, hy, ha, hn, h => by
    simp only [bndE] at h ⊢
    obtain ⟨h1, h2⟩ := timesT_facts hp (hy y (List.mem_cons_self ..)) (exAt e i).toNat ha hn (by omega)
    have := prodE_facts hp e ys (i + 1) (fun z hz => hy z (List.mem_cons_of_mem _ hz)) h1 h2 (by omega)
    rw [← Nat.add_assoc]
    exact this
theorem prodE_drop {p : Int} {e : Ex} {ys : List Pl} {i : Nat} {y : Pl} {a : List Tm} (h : ys[i]? = some y) : prodE p e i (ys.drop i) a = prodE p e (i + 1) (ys.drop (i + 1)) (timesT p y.ts (exAt e i).toNat a) := by
  rw [drop_cons h]; rfl
theorem bndE_drop {e : Ex} {ys : List Pl} {i : Nat} {y : Pl} (h : ys[i]? = some y) : bndE e i (ys.drop i) = (exAt e i).toNat * dg y.ts + bndE e (i + 1) (ys.drop (i + 1)) := by
  rw [drop_cons h]; rfl
theorem const_can {p v : Int} (h : 1 ≤ v ∧ v < p) : Can p [⟨e0, v⟩] := ⟨by simp, by simpa using h⟩
theorem const_all (d v : Int) : AllE (DegLe d 0) [⟨e0, v⟩] := by
  intro t ht
  rw [List.mem_singleton] at ht; subst ht
  exact ⟨fun _ => rfl, fun _ => rfl, show Ex.deg e0 ≤ 0 by decide⟩
theorem subT_snoc (p : Int) (ys : List Pl) (ts : List Tm) (t : Tm) : subT p ys (ts ++ [t]) = plusT p (subT p ys ts) (prodE p t.e 0 ys [⟨e0, t.v⟩]) 1 := by simp [subT]
theorem subT_take {p : Int} {ys : List Pl} {ts : List Tm} {i : Nat} {t : Tm} (h : ts[i]? = some t) : subT p ys (ts.take (i + 1)) = plusT p (subT p ys (ts.take i)) (prodE p t.e 0 ys [⟨e0, t.v⟩]) 1 := by
  rw [List.take_add_one, h]; exact subT_snoc ..
/-- What a substitution gives. -/
theorem subT_facts {p d : Int} (hp : 2 ≤ p) {ys : List Pl} (hy : ∀ y ∈ ys, AllE (DegLe d (dg y.ts)) y.ts) : ∀ ts : List Tm, (∀ t ∈ ts, 1 ≤ t.v ∧ t.v < p) → (∀ t ∈ ts, bndE t.e 0 ys ≤ 12) → Can p (subT p ys ts) ∧ AllE (DegLe d 12) (subT p ys ts) := by
  intro ts
  induction ts using snocInd with
  | nil => intro _ _; exact ⟨can_nil p, fun t ht => by cases ht⟩
  | snoc ts t ih =>
    intro h1 h2
    obtain ⟨k1, k2⟩ := ih (fun x hx => h1 x (by simp [hx])) (fun x hx => h2 x (by simp [hx]))
    have hb := h2 t (by simp)
    obtain ⟨q1, q2⟩ := prodE_facts (d := d) hp t.e ys 0 (n := 0) hy (const_can (h1 t (by simp))) (const_all d t.v) (by omega)
    rw [subT_snoc]
    exact ⟨plusT_can (by omega) k1 _ _, plusT_all k2 (q2.mono fun e h => h.mono (by omega))⟩

end Go.Sm

namespace Go.Sm
open Go.RowKit

theorem polyDegree_ok (p d : Int) (ts : List Tm) (hl : ts.length ≤ 1048576) : CallOK Go.Proofs.Tryz.prog 35 [pv p d ts] (.one (i64 (degT ts))) := by
  have hF := fnOk 17 [.tmp 2]
  refine callOK hF 60 Go.Proofs.Tryz.func35 rfl rfl rfl (by decide) (by simp) rfl ?_
  intro w0 hw
  have S := @vc_sound w0 _ hF ⟨(.one (i64 (degT ts))), []⟩ Go.Proofs.Tryz.f35 rfl (by simp)
  by_cases h0 : ts.length = 0
  · have e : ts = [] := List.length_eq_zero_iff.1 h0
    subst e
    have e : degT [] = -1 := rfl
    rw [e] at S ⊢
    simp
  · have hw1 : IntKind.i64.wrap ((ts.length : Int) - 1) = ((ts.length - 1 : Nat) : Int) := by rw [wrap64] <;> omega
    obtain ⟨t, ht⟩ : ∃ t, ts[ts.length - 1]? = some t := ⟨ts[ts.length - 1], List.getElem?_eq_getElem (by omega)⟩
    have e : degT ts = t.e.deg := by unfold degT; rw [List.getLast?_eq_getElem?, ht]
    rw [e] at S ⊢
    have c1 := degree_ok t.e
    generalize hn : ts.length - 1 = n at *
    simp [h0, hw1]
    refine ⟨show n < ts.length by omega, fun a ha => ?_⟩
    obtain rfl : t = a := Option.some.inj (ht.symm.trans ha)
    refine CallW.ok (by decide) (by simp) c1 (by simp) (S 60 _ _ ?_)
    simp

theorem dg_if (ts : List Tm) : (if degT ts < 0 then 0 else degT ts) = ((dg ts : Nat) : Int) := by
  unfold dg
  split <;> omega
/-- The greatest bound of the terms. -/
def bndL (ys : List Pl) (ts : List Tm) : Nat := ts.foldl (fun m t => max m (bndE t.e 0 ys)) 0
theorem bndL_snoc (ys : List Pl) (ts : List Tm) (t : Tm) : bndL ys (ts ++ [t]) = max (bndL ys ts) (bndE t.e 0 ys) := by simp [bndL]
theorem bndL_take {ys : List Pl} {ts : List Tm} {i : Nat} {t : Tm} (h : ts[i]? = some t) : bndL ys (ts.take (i + 1)) = max (bndL ys (ts.take i)) (bndE t.e 0 ys) := by
  rw [List.take_add_one, h]; exact bndL_snoc ..
theorem bndL_iff (ys : List Pl) (n : Nat) : ∀ ts : List Tm, bndL ys ts ≤ n ↔ ∀ t ∈ ts, bndE t.e 0 ys ≤ n := by
  intro ts
  induction ts using snocInd with
  | nil => simp [bndL]
  | snoc ts t ih =>
    rw [bndL_snoc, Nat.max_le, ih]
    constructor
    · rintro ⟨h1, h2⟩ u hu
      rcases List.mem_append.1 hu with h | h
      · exact h1 u h
      · rw [List.mem_singleton.1 h]; exact h2
    · exact fun h => ⟨fun u hu => h u (by simp [hu]), h t (by simp)⟩
theorem bndE_le {e : Ex} : ∀ {ys : List Pl} {i : Nat}, (∀ y ∈ ys, dg y.ts ≤ 12) → bndE e i ys ≤ ys.length * 3060
  | [], _, _ => by simp [bndE]
  | y :: ys, i, h => by
    have h1 := bndE_le (e := e) (ys := ys) (i := i + 1) fun z hz => h z (List.mem_cons_of_mem _ hz)
    have h2 := h y (List.mem_cons_self ..)
    have h3 : (exAt e i).toNat ≤ 255 := by have := (exAt e i).toNat_lt; omega
    have h4 : (exAt e i).toNat * dg y.ts ≤ 255 * 12 := Nat.mul_le_mul h3 h2
    simp only [bndE, List.length_cons, Nat.succ_mul]
    omega

end Go.Sm

namespace Go.Sm
open Go.RowKit

theorem l01TimesZ_ok (p d p2 d2 : Int) (ts us : List Tm) (_ : ts.length ≤ 1000) (_ : us.length ≤ 1000) (h0 : ts.length = 0 ∨ us.length = 0) : CallOK Go.Proofs.Tryz.prog 86 [pv p d ts, pv p2 d2 us] (.tup [(true, [i64 p, i64 d, oTerms []]), (false, [bo true])]) := by
  have hF := fnOk 88 [.cell 4 44, .tmp 5]
  refine callOK hF 60 Go.Proofs.Tryz.func86 rfl rfl rfl (by decide) (by simp) rfl ?_
  intro w0 hw
  have S := @vc_sound w0 _ hF ⟨(.tup [(true, [i64 p, i64 d, oTerms []]), (false, [bo true])]), []⟩ Go.Proofs.Tryz.f86 rfl (by simp)
  have c1 := l01Empty_ok p d
  simp
  refine CallW.ok (by decide) (by simp) c1 (by simp) (S 60 _ _ ?_)
  simp
  refine fun h1 => fun h2 => ?_
  rcases h0 with h | h
  · exact absurd (List.length_eq_zero_iff.1 h) h1
  · exact absurd (List.length_eq_zero_iff.1 h) h2

/-- A product, also of zeros. -/
theorem l01TimesG_ok (p d p2 d2 : Int) (ts us : List Tm) (hp : 0 < p) (hp2 : p ≤ 13) (ht : Can p ts) (hu : Can p us) (hlt : ts.length ≤ 1000) (hlu : us.length ≤ 1000) (hd1 : degT ts ≤ 12) (hd2 : degT us ≤ 12) (hdeg : degT ts + dg us ≤ 12) :
    CallOK Go.Proofs.Tryz.prog 86 [pv p d ts, pv p2 d2 us] (.tup [(true, [i64 p, i64 d, oTerms (mulT p ts us)]), (false, [bo true])]) := by
  by_cases h0 : ts.length ≠ 0 ∧ us.length ≠ 0
  · have h3 : degT us ≤ dg us := by unfold dg; omega
    exact l01Times_ok p d p2 d2 ts us hp hp2 ht hu hlt hlu h0.1 h0.2 (by omega) degT_ge hd1 degT_ge hd2
  · have e : mulT p ts us = [] := by
      by_cases h1 : ts.length = 0
      · rw [List.length_eq_zero_iff.1 h1]; rfl
      · rw [List.length_eq_zero_iff.1 (show us.length = 0 by omega), mulT_nil]
    rw [e]
    exact l01TimesZ_ok p d p2 d2 ts us hlt hlu (by omega)

theorem exAt_drop (e : Ex) (v : D) {j : Nat} (h : j < 3) : ∃ r, List.drop j [u8 e.a, u8 e.b, u8 e.c, v] = u8 (exAt e j) :: r := by
  have hc : j = 0 ∨ j = 1 ∨ j = 2 := by omega
  rcases hc with rfl | rfl | rfl
  · exact ⟨_, rfl⟩
  · exact ⟨_, rfl⟩
  · exact ⟨_, rfl⟩

theorem putT_one {p v : Int} {e : Ex} (h : 1 ≤ v ∧ v < p) : putT p [] e v = [⟨e, v⟩] := by
  unfold putT
  simp only [coef, Int.add_zero]
  rw [Int.emod_eq_of_lt (by omega) h.2, show (v == 0) = false by simp; omega]
  rfl

theorem by8_lt {n : Int} (h1 : 0 ≤ n) (h2 : n < 256) : ((by8 n).toNat : Int) = n := by
  unfold by8
  rw [UInt8.toNat_ofNat']
  omega

def repR (p d : Int) (ys : List Pl) (ts : List Tm) : RV := .tup [(true, [i64 p, i64 d, oTerms (if bndL ys ts ≤ 12 then subT p ys ts else [])]), (false, [bo (decide (bndL ys ts ≤ 12))])]

end Go.Sm
