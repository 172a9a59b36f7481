/- Towards the rows of this seat: what the functions do, as contracts over plain data. -/
import Derived.Test.YtdfihhfnnogpeaaPk15
import Derived.Test.YtdfihhfnnogpeaaPk16
import Derived.Test.YtdfihhfnnogpeaaPk2
import Derived.Test.YtdfihhfnnogpeaaPk11
namespace Go.Sm

/-- Exponents of d letters, of degree n at most. -/
def DegLe (d : Int) (n : Nat) (e : Ex) : Prop := (d ≤ 1 → e.b = 0) ∧ (d ≤ 2 → e.c = 0) ∧ e.deg ≤ n
theorem DegLe.inV {d : Int} {n : Nat} {e : Ex} (h : DegLe d n e) (hn : n ≤ 12) : InV d e := ⟨h.1, h.2.1, by have := h.2.2; omega⟩
theorem InV.degLe {d : Int} {e : Ex} (h : InV d e) : DegLe d 12 e := ⟨h.1, h.2.1, h.2.2⟩
theorem DegLe.mono {d : Int} {n m : Nat} {e : Ex} (h : DegLe d n e) (hn : n ≤ m) : DegLe d m e := ⟨h.1, h.2.1, by have := h.2.2; omega⟩
theorem DegLe.add {d : Int} {n m : Nat} {x y : Ex} (hx : DegLe d n x) (hy : DegLe d m y) (h : n + m ≤ 255) : DegLe d (n + m) (addE x y) := by
  obtain ⟨x1, x2, x3⟩ := hx
  obtain ⟨y1, y2, y3⟩ := hy
  rw [addE_eq]
  refine ⟨fun hd => by simp only; rw [x1 hd, y1 hd]; rfl, fun hd => by simp only; rw [x2 hd, y2 hd]; rfl, ?_⟩
  unfold Ex.deg at x3 y3 ⊢
  simp only [UInt8.toNat_add]
  omega

/-- What holds of all exponents. -/
def AllE (Q : Ex → Prop) (ts : List Tm) : Prop := ∀ t ∈ ts, Q t.e
theorem AllE.mono {Q R : Ex → Prop} {ts : List Tm} (h : AllE Q ts) (hq : ∀ e, Q e → R e) : AllE R ts := fun t ht => hq _ (h t ht)
theorem putT_all {Q : Ex → Prop} {p : Int} {ts : List Tm} {e : Ex} {v : Int} (h : AllE Q ts) (he : Q e) : AllE Q (putT p ts e v) := by
  intro t ht
  unfold putT at ht
  rcases putGo_mem ht with ⟨h1, _⟩ | ⟨h1, _⟩
  · rw [h1]; exact he
  · exact h t h1
theorem mulRow_all {Q : Ex → Prop} {p : Int} {a : Tm} {out : List Tm} (h : AllE Q out) : ∀ {us : List Tm}, (∀ u ∈ us, Q (addE a.e u.e)) → AllE Q (mulRow p a out us) := by
  intro us
  induction us using snocInd with
  | nil => intro _; exact h
  | snoc us u ih =>
    intro hu
    rw [mulRow_snoc]
    exact putT_all (ih fun x hx => hu x (by simp [hx])) (hu u (by simp))
theorem mulT_all {Q : Ex → Prop} {p : Int} {us : List Tm} : ∀ {ts : List Tm}, (∀ t ∈ ts, ∀ u ∈ us, Q (addE t.e u.e)) → AllE Q (mulT p ts us) := by
  intro ts
  induction ts using snocInd with
  | nil => intro _; simp [mulT, AllE]
  | snoc ts t ih =>
    intro h
    rw [mulT_snoc]
    exact mulRow_all (ih fun x hx => h x (by simp [hx])) (h t (by simp))
theorem plusT_all {Q : Ex → Prop} {p : Int} {ts : List Tm} {k : Int} (h : AllE Q ts) : ∀ {us : List Tm}, AllE Q us → AllE Q (plusT p ts us k) := by
  intro us
  induction us using snocInd with
  | nil => intro _; exact h
  | snoc us u ih =>
    intro hu
    rw [plusT_snoc]
    exact putT_all (ih fun x hx => hu x (by simp [hx])) (hu u (by simp))
theorem mulT_deg {p d : Int} {n m : Nat} {ts us : List Tm} (ht : AllE (DegLe d n) ts) (hu : AllE (DegLe d m) us) (h : n + m ≤ 255) : AllE (DegLe d (n + m)) (mulT p ts us) :=
  mulT_all fun t h1 u h2 => (ht t h1).add (hu u h2) h
/-- Few terms. -/
theorem can_len {p d : Int} {n : Nat} {ts : List Tm} (hc : Can p ts) (h : AllE (DegLe d n) ts) (hn : n ≤ 12) : ts.length ≤ 455 := by
  have h1 := nodup_subset (ys := allE) (asc_nodup hc.1) fun e he => by
    obtain ⟨t, ht, rfl⟩ := List.mem_map.1 he
    exact allE_mem ((h t ht).inV hn)
  rw [allE_length, List.length_map] at h1
  exact h1

theorem cmpE_deg {x y : Ex} (h : cmpE x y < 0) : x.deg ≤ y.deg := by
  unfold cmpE at h
  by_cases h0 : x.deg - y.deg ≠ 0
  · rw [if_pos h0] at h; omega
  · omega
/-- The last term is one of the greatest degree. -/
theorem degT_max {ts : List Tm} (h : Asc ts) : ∀ t ∈ ts, t.e.deg ≤ degT ts := by
  intro t ht
  obtain ⟨i, hi, hti⟩ := List.getElem_of_mem ht
  have hl : ts[ts.length - 1]? = some (ts[ts.length - 1]'(by omega)) := List.getElem?_eq_getElem _
  unfold degT
  rw [List.getLast?_eq_getElem?, hl]
  show t.e.deg ≤ (ts[ts.length - 1]'(by omega)).e.deg
  by_cases e : i = ts.length - 1
  · subst e; rw [hti]; exact Int.le_refl _
  · exact cmpE_deg (asc_get h (show ts[i]? = some t by rw [List.getElem?_eq_getElem hi, hti]) hl (by omega))
theorem degT_ge {ts : List Tm} : -1 ≤ degT ts := by
  unfold degT
  cases ts.getLast? with
  | none => exact Int.le_refl _
  | some t => exact Int.le_trans (by decide) (deg_lt t.e).1
theorem degT_le {d : Int} {n : Nat} {ts : List Tm} (h : AllE (DegLe d n) ts) : degT ts ≤ n := by
  unfold degT
  cases ht : ts.getLast? with
  | none => exact Int.le_trans (show (-1 : Int) ≤ 0 by decide) (Int.natCast_nonneg n)
  | some t => exact (h t (List.mem_of_getLast? ht)).2.2
/-- The degree, 0 for the zero polynomial. -/
def dg (ts : List Tm) : Nat := (degT ts).toNat
theorem dg_all {p d : Int} {ts : List Tm} (h : GoodP p d ts) : AllE (DegLe d (dg ts)) ts := fun t ht => by
  have h1 := (h.2.2.1 t ht).1
  have h2 := degT_max h.2.2.2 t ht
  have h3 := deg_lt t.e
  exact ⟨h1.1, h1.2.1, by unfold dg; omega⟩
theorem dg_le {p d : Int} {ts : List Tm} (h : GoodP p d ts) : dg ts ≤ 12 := by
  have := degT_le (d := d) (n := 12) (ts := ts) fun t ht => (h.2.2.1 t ht).1.degLe
  unfold dg; omega

/-- The degree's bound of a term with polynomials put in. -/
def bndE (e : Ex) : Nat → List Pl → Nat
  | _, [] => 0
  | i, y :: ys => (exAt e i).toNat * dg y.ts + bndE e (i + 1) ys
/-- A term with polynomials put in. -/
def prodE (p : Int) (e : Ex) : Nat → List Pl → List Tm → List Tm
  | _, [], a => a
  | i, y :: ys, a => prodE p e (i + 1) ys (timesT p y.ts (exAt e i).toNat a)
/-- A polynomial with polynomials put in. -/
def subT (p : Int) (ys : List Pl) (ts : List Tm) : List Tm := ts.foldl (fun o t => plusT p o (prodE p t.e 0 ys [⟨e0, t.v⟩]) 1) []

theorem timesT_facts {p d : Int} (hp : 2 ≤ p) {y : List Tm} {m : Nat} (hy : AllE (DegLe d m) y) : ∀ (k : Nat) {n : Nat} {a : List Tm}, Can p a → AllE (DegLe d n) a → n + k * m ≤ 255 → Can p (timesT p y k a) ∧ AllE (DegLe d (n + k * m)) (timesT p y k a)
  | 0, n, a, ha, hn, _ => by simpa [timesT] using And.intro ha hn
  | k + 1, n, a, ha, hn, h => by
    rw [Nat.succ_mul] at h
    have := timesT_facts hp hy k (n := n + m) (mulT_can (by omega) a y) (mulT_deg hn hy (by omega)) (by omega)
    rw [Nat.succ_mul, Nat.add_comm (k * m), ← Nat.add_assoc]
    exact this
theorem prodE_facts {p d : Int} (hp : 2 ≤ p) (e : Ex) : ∀ (ys : List Pl) (i : Nat) {n : Nat} {a : List Tm}, (∀ y ∈ ys, AllE (DegLe d (dg y.ts)) y.ts) → Can p a → AllE (DegLe d n) a → n + bndE e i ys ≤ 255 → Can p (prodE p e i ys a) ∧ AllE (DegLe d (n + bndE e i ys)) (prodE p e i ys a)
  | [], _, _, _, _, ha, hn, _ => ⟨ha, hn⟩
  | y :: ys, i, n, a, hy, ha, hn, h => by
    simp only [bndE] at h ⊢
    obtain ⟨h1, h2⟩ := timesT_facts hp (hy y (List.mem_cons_self ..)) (exAt e i).toNat ha hn (by omega)
    have := prodE_facts hp e ys (i + 1) (fun z hz => hy z (List.mem_cons_of_mem _ hz)) h1 h2 (by omega)
    rw [← Nat.add_assoc]
    exact this
theorem prodE_drop {p : Int} {e : Ex} {ys : List Pl} {i : Nat} {y : Pl} {a : List Tm} (h : ys[i]? = some y) : prodE p e i (ys.drop i) a = prodE p e (i + 1) (ys.drop (i + 1)) (timesT p y.ts (exAt e i).toNat a) := by
  rw [drop_cons h]; rfl
theorem bndE_drop {e : Ex} {ys : List Pl} {i : Nat} {y : Pl} (h : ys[i]? = some y) : bndE e i (ys.drop i) = (exAt e i).toNat * dg y.ts + bndE e (i + 1) (ys.drop (i + 1)) := by
  rw [drop_cons h]; rfl
theorem const_can {p v : Int} (h : 1 ≤ v ∧ v < p) : Can p [⟨e0, v⟩] := ⟨by simp, by simpa using h⟩
theorem const_all (d v : Int) : AllE (DegLe d 0) [⟨e0, v⟩] := by
  intro t ht
  rw [List.mem_singleton] at ht; subst ht
  exact ⟨fun _ => rfl, fun _ => rfl, show Ex.deg e0 ≤ 0 by decide⟩
theorem subT_snoc (p : Int) (ys : List Pl) (ts : List Tm) (t : Tm) : subT p ys (ts ++ [t]) = plusT p (subT p ys ts) (prodE p t.e 0 ys [⟨e0, t.v⟩]) 1 := by simp [subT]
theorem subT_take {p : Int} {ys : List Pl} {ts : List Tm} {i : Nat} {t : Tm} (h : ts[i]? = some t) : subT p ys (ts.take (i + 1)) = plusT p (subT p ys (ts.take i)) (prodE p t.e 0 ys [⟨e0, t.v⟩]) 1 := by
  rw [List.take_add_one, h]; exact subT_snoc ..
/-- What a substitution gives. -/
theorem subT_facts {p d : Int} (hp : 2 ≤ p) {ys : List Pl} (hy : ∀ y ∈ ys, AllE (DegLe d (dg y.ts)) y.ts) : ∀ ts : List Tm, (∀ t ∈ ts, 1 ≤ t.v ∧ t.v < p) → (∀ t ∈ ts, bndE t.e 0 ys ≤ 12) → Can p (subT p ys ts) ∧ AllE (DegLe d 12) (subT p ys ts) := by
  intro ts
  induction ts using snocInd with
  | nil => intro _ _; exact ⟨can_nil p, fun t ht => by cases ht⟩
  | snoc ts t ih =>
    intro h1 h2
    obtain ⟨k1, k2⟩ := ih (fun x hx => h1 x (by simp [hx])) (fun x hx => h2 x (by simp [hx]))
    have hb := h2 t (by simp)
    obtain ⟨q1, q2⟩ := prodE_facts (d := d) hp t.e ys 0 (n := 0) hy (const_can (h1 t (by simp))) (const_all d t.v) (by omega)
    rw [subT_snoc]
    exact ⟨plusT_can (by omega) k1 _ _, plusT_all k2 (q2.mono fun e h => h.mono (by omega))⟩

end Go.Sm

namespace Go.Sm
open Go.RowKit

theorem polyDegree_ok (p d : Int) (ts : List Tm) (hl : ts.length ≤ 1048576) : CallOK Go.Proofs.Try.prog 95 [pv p d ts] (.one (i64 (degT ts))) := by
  have hF := fnOk 17 [.tmp 2]
  refine callOK hF 60 Go.Proofs.Try.func95 rfl rfl rfl (by decide) (by simp) rfl ?_
  intro w0 hw
  have S := @vc_sound w0 _ hF ⟨(.one (i64 (degT ts))), []⟩ Go.Proofs.Try.f95 rfl (by simp)
  by_cases h0 : ts.length = 0
  · have e : ts = [] := List.length_eq_zero_iff.1 h0
    subst e
    have e : degT [] = -1 := rfl
    rw [e] at S ⊢
    simp
  · have hw1 : IntKind.i64.wrap ((ts.length : Int) - 1) = ((ts.length - 1 : Nat) : Int) := by rw [wrap64] <;> omega
    obtain ⟨t, ht⟩ : ∃ t, ts[ts.length - 1]? = some t := ⟨ts[ts.length - 1], List.getElem?_eq_getElem (by omega)⟩
    have e : degT ts = t.e.deg := by unfold degT; rw [List.getLast?_eq_getElem?, ht]
    rw [e] at S ⊢
    have c1 := degree_ok t.e
    generalize hn : ts.length - 1 = n at *
    simp [h0, hw1]
    refine ⟨show n < ts.length by omega, fun a ha => ?_⟩
    obtain rfl : t = a := Option.some.inj (ht.symm.trans ha)
    refine CallW.ok (by decide) (by simp) c1 (by simp) (S 60 _ _ ?_)
    simp

theorem dg_if (ts : List Tm) : (if degT ts < 0 then 0 else degT ts) = ((dg ts : Nat) : Int) := by
  unfold dg
  split <;> omega
/-- The greatest bound of the terms. -/
def bndL (ys : List Pl) (ts : List Tm) : Nat := ts.foldl (fun m t => max m (bndE t.e 0 ys)) 0
theorem bndL_snoc (ys : List Pl) (ts : List Tm) (t : Tm) : bndL ys (ts ++ [t]) = max (bndL ys ts) (bndE t.e 0 ys) := by simp [bndL]
theorem bndL_take {ys : List Pl} {ts : List Tm} {i : Nat} {t : Tm} (h : ts[i]? = some t) : bndL ys (ts.take (i + 1)) = max (bndL ys (ts.take i)) (bndE t.e 0 ys) := by
  rw [List.take_add_one, h]; exact bndL_snoc ..
theorem bndL_iff (ys : List Pl) (n : Nat) : ∀ ts : List Tm, bndL ys ts ≤ n ↔ ∀ t ∈ ts, bndE t.e 0 ys ≤ n := by
  intro ts
  induction ts using snocInd with
  | nil => simp [bndL]
  | snoc ts t ih =>
    rw [bndL_snoc, Nat.max_le, ih]
    constructor
    · rintro ⟨h1, h2⟩ u hu
      rcases List.mem_append.1 hu with h | h
      · exact h1 u h
      · rw [List.mem_singleton.1 h]; exact h2
    · exact fun h => ⟨fun u hu => h u (by simp [hu]), h t (by simp)⟩
theorem bndE_le {e : Ex} : ∀ {ys : List Pl} {i : Nat}, (∀ y ∈ ys, dg y.ts ≤ 12) → bndE e i ys ≤ ys.length * 3060
  | [], _, _ => by simp [bndE]
  | y :: ys, i, h => by
    have h1 := bndE_le (e := e) (ys := ys) (i := i + 1) fun z hz => h z (List.mem_cons_of_mem _ hz)
    have h2 := h y (List.mem_cons_self ..)
    have h3 : (exAt e i).toNat ≤ 255 := by have := (exAt e i).toNat_lt; omega
    have h4 : (exAt e i).toNat * dg y.ts ≤ 255 * 12 := Nat.mul_le_mul h3 h2
    simp only [bndE, List.length_cons, Nat.succ_mul]
    omega

end Go.Sm

namespace Go.Sm
open Go.RowKit

theorem l01TimesZ_ok (p d p2 d2 : Int) (ts us : List Tm) (_ : ts.length ≤ 1000) (_ : us.length ≤ 1000) (h0 : ts.length = 0 ∨ us.length = 0) : CallOK Go.Proofs.Try.prog 63 [pv p d ts, pv p2 d2 us] (.tup [(true, [i64 p, i64 d, oTerms []]), (false, [bo true])]) := by
  have hF := fnOk 88 [.cell 4 28, .tmp 5]
  refine callOK hF 60 Go.Proofs.Try.func63 rfl rfl rfl (by decide) (by simp) rfl ?_
  intro w0 hw
  have S := @vc_sound w0 _ hF ⟨(.tup [(true, [i64 p, i64 d, oTerms []]), (false, [bo true])]), []⟩ Go.Proofs.Try.f63 rfl (by simp)
  have c1 := l01Empty_ok p d
  simp
  refine CallW.ok (by decide) (by simp) c1 (by simp) (S 60 _ _ ?_)
  simp
  refine fun h1 => fun h2 => ?_
  rcases h0 with h | h
  · exact absurd (List.length_eq_zero_iff.1 h) h1
  · exact absurd (List.length_eq_zero_iff.1 h) h2

/-- A product, also of zeros. -/
theorem l01TimesG_ok (p d p2 d2 : Int) (ts us : List Tm) (hp : 0 < p) (hp2 : p ≤ 13) (ht : Can p ts) (hu : Can p us) (hlt : ts.length ≤ 1000) (hlu : us.length ≤ 1000) (hd1 : degT ts ≤ 12) (hd2 : degT us ≤ 12) (hdeg : degT ts + dg us ≤ 12) :
    CallOK Go.Proofs.Try.prog 63 [pv p d ts, pv p2 d2 us] (.tup [(true, [i64 p, i64 d, oTerms (mulT p ts us)]), (false, [bo true])]) := by
  by_cases h0 : ts.length ≠ 0 ∧ us.length ≠ 0
  · have h3 : degT us ≤ dg us := by unfold dg; omega
    exact l01Times_ok p d p2 d2 ts us hp hp2 ht hu hlt hlu h0.1 h0.2 (by omega) degT_ge hd1 degT_ge hd2
  · have e : mulT p ts us = [] := by
      by_cases h1 : ts.length = 0
      · rw [List.length_eq_zero_iff.1 h1]; rfl
      · rw [List.length_eq_zero_iff.1 (show us.length = 0 by omega), mulT_nil]
    rw [e]
    exact l01TimesZ_ok p d p2 d2 ts us hlt hlu (by omega)

theorem exAt_drop (e : Ex) (v : D) {j : Nat} (h : j < 3) : ∃ r, List.drop j [u8 e.a, u8 e.b, u8 e.c, v] = u8 (exAt e j) :: r := by
  have hc : j = 0 ∨ j = 1 ∨ j = 2 := by omega
  rcases hc with rfl | rfl | rfl
  · exact ⟨_, rfl⟩
  · exact ⟨_, rfl⟩
  · exact ⟨_, rfl⟩

theorem putT_one {p v : Int} {e : Ex} (h : 1 ≤ v ∧ v < p) : putT p [] e v = [⟨e, v⟩] := by
  unfold putT
  simp only [coef, Int.add_zero]
  rw [Int.emod_eq_of_lt (by omega) h.2, show (v == 0) = false by simp; omega]
  rfl

theorem by8_lt {n : Int} (h1 : 0 ≤ n) (h2 : n < 256) : ((by8 n).toNat : Int) = n := by
  unfold by8
  rw [UInt8.toNat_ofNat']
  omega

def repR (p d : Int) (ys : List Pl) (ts : List Tm) : RV := .tup [(true, [i64 p, i64 d, oTerms (if bndL ys ts ≤ 12 then subT p ys ts else [])]), (false, [bo (decide (bndL ys ts ≤ 12))])]

end Go.Sm

namespace Go.Sm
open Go.RowKit

abbrev pl3 (x : Pl) : List D := [i64 x.p, i64 x.d, oTerms x.ts]
def elemP (p : Int) (d k : Nat) : Pl := ⟨p, d, ofSum p (sumOf (permsE d (elemE (k + 1))))⟩
/-- The elementary polynomials of 1 to d. -/
def elemsP (p : Int) (d : Nat) : List Pl := (List.range d).map (elemP p d)
theorem elemsP_length (p : Int) (d : Nat) : (elemsP p d).length = d := by simp [elemsP]
theorem elemsP_take {p : Int} {d k : Nat} (h : k < d) : (elemsP p d).take (k + 1) = (elemsP p d).take k ++ [elemP p d k] := by
  rw [List.take_add_one]; simp [elemsP, h]

set_option maxHeartbeats 1000000 in
theorem elementaries_ok (p : Int) (d : Nat) (hp : 0 < p) (hp2 : p ≤ 13) (hd : 1 ≤ d ∧ d ≤ 3) : CallOK Go.Proofs.Try.prog 40 [.one (i64 p), .one (i64 d)] (.one (oPolys (elemsP p d))) := by
  have hF := fnOk 21 [.tmp 4]
  refine callOK hF 60 Go.Proofs.Try.func40 rfl rfl rfl (by decide) (by simp) rfl ?_
  intro w0 hw
  have S := @vc_sound w0 _ hF ⟨(.one (oPolys (elemsP p d))), []⟩ Go.Proofs.Try.f40 rfl (by simp)
  simp
  refine J.loop hw (fun k : Nat => ⟨[(0, .c (.d (i64 p))), (1, .c (.d (i64 d))), (5, .c (.ob 64005)), (6, .c (.d (i64 ((k + 1 : Nat) : Int))))], [(64005, .arr 28 3 (((elemsP p d).take k).map pl3))]⟩)
    (fun k => k ≤ d) (fun k => d - k) 0 (by simp) (by simp) ?_
  intro k hk
  have hst := fun h : k < d => elemsP_take (p := p) h
  have hal : ((elemsP p d).take k).length = k := by rw [List.length_take, elemsP_length]; omega
  generalize hac : (elemsP p d).take k = acc at hst hal
  refine S 12 _ _ ?_
  simp
  refine ⟨fun hlt => ?_, fun hge => ?_⟩
  · have hlt : k < d := by omega
    have c1 := elementary_ok p d (k + 1) hp hp2 hd (by omega)
    have hst := hst hlt
    have hel : elemP p d k = ⟨p, d, ofSum p (sumOf (permsE d (elemE (k + 1))))⟩ := rfl
    generalize ofSum p (sumOf (permsE d (elemE (k + 1)))) = T at c1 hel
    refine S 60 _ _ ?_
    simp
    have c1 : CallOK Go.Proofs.Try.prog 84 [.one (i64 p), .one (i64 d), .one (i64 ((k : Int) + 1))] (po p d T) := c1
    refine CallW.ok (by decide) (by simp) c1 (by simp) (S 60 _ _ ?_)
    simp
    refine BsW.move hF (e := 28) (es := [[i64 p, i64 d, oTerms T]]) (ks := [1090]) (by decide) rfl rfl rfl (by simp) (by simp) rfl (by decide) (by decide) (by simp) ?_
    refine S 60 _ _ ?_
    simp [hal]
    have hst2 : List.take (k + 1) (List.map pl3 (elemsP p d)) = acc.map pl3 ++ [[i64 p, i64 d, oTerms T]] := by
      rw [← List.map_take, hst, hel]; simp
    have hwk : IntKind.i64.wrap ((k : Int) + 1 + 1) = (k : Int) + 1 + 1 := wrap64 (by omega) (by omega)
    exact ⟨⟨by omega, by omega⟩, Nxt.mk (k + 1) hlt (by simp [hwk, hst2]) (by omega)⟩
  · obtain rfl : k = d := by omega
    have e : (elemsP p k).take k = elemsP p k := List.take_of_length_le (by rw [elemsP_length]; omega)
    rw [e] at hac
    subst hac
    refine S 60 _ _ ?_
    simp

theorem permsE_inV {d k : Nat} (hd : 1 ≤ d ∧ d ≤ 3) (hk : k ≤ d) : ∀ e ∈ permsE d (elemE k), InV d e := by
  have h1 : d = 1 ∨ d = 2 ∨ d = 3 := by omega
  have h2 : k = 0 ∨ k = 1 ∨ k = 2 ∨ k = 3 := by omega
  rcases h1 with rfl | rfl | rfl <;> rcases h2 with rfl | rfl | rfl | rfl <;> first | omega | decide
/-- The elementary polynomials are polynomials. -/
theorem elemsP_good {p : Int} {d : Nat} (hp : Pr p) (hd : 1 ≤ d ∧ d ≤ 3) : ∀ y ∈ elemsP p d, y.p = p ∧ y.d = d ∧ GoodP p d y.ts := by
  have hp0 : 0 < p := by unfold Pr at hp; omega
  intro y hy
  obtain ⟨k, hk, rfl⟩ := List.mem_map.1 hy
  have hk := List.mem_range.1 hk
  obtain ⟨g1, _, g3⟩ := sumOf_ok (permsE d (elemE (k + 1)))
  obtain ⟨h1, h2⟩ := ofSum_can (p := p) hp0 g1
  refine ⟨rfl, rfl, hp, by omega, fun t ht => ⟨?_, h1.2 t ht⟩, h1.1⟩
  have h3 := coef_mem (asc_nodup h1.1) ht
  have h4 := (h1.2 t ht).1
  rw [h2, g3] at h3
  by_cases he : t.e ∈ permsE d (elemE (k + 1))
  · exact permsE_inV hd (by omega) _ he
  · rw [if_neg he] at h3; simp at h3; omega

noncomputable def symO (p d : Int) (ts : List Tm) : (Int × Int × List Tm) × Int := if GoodP p d ts then (if bndL (elemsP p d.toNat) ts ≤ 12 then ((p, d, subT p (elemsP p d.toNat) ts), 0) else ((0, 0, []), 3)) else ((0, 0, []), 1)
abbrev presR (r : (Int × Int × List Tm) × Int) : RV := pres r.1.1 r.1.2.1 r.1.2.2 r.2

end Go.Sm

namespace Go.Sm
open Go.RowKit

theorem ofSum_one {p v : Int} {e : Ex} (h : 1 ≤ v ∧ v < p) : ofSum p [(e, v)] = [⟨e, v⟩] := by
  have h1 := ofSum_can (p := p) (l := [(e, v)]) (by omega) (by simp)
  refine can_ext h1.1 ⟨by simp, by simpa using h⟩ fun x => ?_
  rw [h1.2]
  simp only [sget, coef]
  by_cases hx : e = x
  · rw [if_pos hx, Int.emod_eq_of_lt (by omega) h.2]
  · rw [if_neg hx]; simp

/-- The first powers of a polynomial. -/
structure Pw where
  y : Pl
  n : Nat
def pwE (p : Int) (y : Pl) (k : Nat) : Pl := ⟨y.p, y.d, powT p y.ts k⟩
def pwL (p : Int) (z : Pw) : List Pl := (List.range z.n).map (pwE p z.y)
abbrev pwD (p : Int) (z : Pw) : List D := [oPolys (pwL p z)]
theorem pwL_length (p : Int) (z : Pw) : (pwL p z).length = z.n := by simp [pwL]
theorem pwL_get {p : Int} {z : Pw} {k : Nat} (h : k < z.n) : (pwL p z)[k]? = some (pwE p z.y k) := by simp [pwL, h]
theorem pwL_succ (p : Int) (y : Pl) (n : Nat) : pwL p ⟨y, n + 1⟩ = pwL p ⟨y, n⟩ ++ [pwE p y n] := by simp [pwL, List.range_succ]
theorem powT_deg {p d : Int} {y : List Tm} {m : Nat} (hy : AllE (DegLe d m) y) : ∀ k : Nat, k * m ≤ 255 → AllE (DegLe d (k * m)) (powT p y k)
  | 0, _ => by rw [Nat.zero_mul]; exact const_all d 1
  | k + 1, h => by
    rw [Nat.succ_mul] at h ⊢
    exact mulT_deg (powT_deg hy k (by omega)) hy h

theorem exAt_dropC (e : Ex) (v : D) {j : Nat} (h : j < 3) : ∃ r, List.drop j [C.d (u8 e.a), C.d (u8 e.b), C.d (u8 e.c), C.d v] = C.d (u8 (exAt e j)) :: r := by
  have hc : j = 0 ∨ j = 1 ∨ j = 2 := by omega
  rcases hc with rfl | rfl | rfl
  · exact ⟨_, rfl⟩
  · exact ⟨_, rfl⟩
  · exact ⟨_, rfl⟩
/-- The lists of powers that are kept. -/
def ZOk (ys : List Pl) (zs : List Pw) : Prop := zs.map (fun z => z.y) = ys ∧ ∀ z ∈ zs, 1 ≤ z.n ∧ z.n ≤ 13 ∧ (z.n - 1) * dg z.y.ts ≤ 12
theorem ZOk.start (ys : List Pl) : ZOk ys (ys.map fun y => ⟨y, 1⟩) := by
  refine ⟨by simp [Function.comp_def], fun z hz => ?_⟩
  obtain ⟨y, _, rfl⟩ := List.mem_map.1 hz
  exact ⟨Nat.le_refl _, show 1 ≤ 13 by decide, by simp⟩

set_option maxHeartbeats 3200000 in
theorem substitute_ok (p d d2 : Int) (ts : List Tm) (ys : List Pl) (hx : GoodP p d ts) (hd : (ys.length : Int) = d) (hys : ∀ y ∈ ys, y.p = p ∧ y.d = d2 ∧ GoodP p d2 y.ts) (hb : ∀ t ∈ ts, bndE t.e 0 ys ≤ 12) : CallOK Go.Proofs.Try.prog 44 [pv p d ts, .one (vPolys ys)] (po p d2 (subT p ys ts)) := by
  have hF := fnOk 114 [.cell 4 28]
  refine callOK hF 60 Go.Proofs.Try.func44 rfl rfl rfl (by decide) (by simp) rfl ?_
  intro w0 hw
  have S := @vc_sound w0 _ hF ⟨(po p d2 (subT p ys ts)), []⟩ Go.Proofs.Try.f44 rfl (by simp)
  have hpp : 2 ≤ p ∧ p ≤ 13 := by have := hx.1; unfold Pr at this; omega
  have hp0 : 0 < p := by omega
  have hl := goodP_len hx
  have hd3 := hx.2.1
  have hy3 : ys.length ≤ 3 := by omega
  have hdeg : ∀ y ∈ ys, dg y.ts ≤ 12 := fun y h => dg_le (hys y h).2.2
  obtain ⟨y0, hy0⟩ : ∃ y, ys[0]? = some y := ⟨ys[0], List.getElem?_eq_getElem (by omega)⟩
  obtain ⟨hq0, hd0, -⟩ := hys y0 (List.mem_of_getElem? hy0)
  have c0 := zeroPoly_ok p d2
  simp
  refine J.dr3 hF mixed 8 [[], [0], [], [2], [2, 3], [2, 3, 4], [0, 1, 2, 3, 4, 5], [], [0, 1, 2, 3, 4, 5, 6, 7]] [[15, 16, 17, 18, 19, 20, 21, 5], [16, 17, 18, 19, 20, 21, 5], [15, 16, 17, 18, 19, 20, 21, 5], [15, 16, 18, 19, 20, 21, 5], [15, 16, 19, 20, 21, 5], [15, 16, 20, 21, 5], [21, 5], [15, 16, 17, 18, 19, 20, 21, 5]] [[], [], [], [], [], [], [], []] [[], [], [], [], [], [], [], []] [] [] (by decide) ?_
  rw [← List.take_append_drop 4 (List.take _ _)]
  generalize htl : List.drop 4 (List.take _ _) = tl
  simp
  refine ⟨by omega, fun y hy => ?_⟩
  obtain rfl : y0 = y := Option.some.inj (hy0.symm.trans hy)
  clear hy
  subst htl
  simp [hd0]
  refine DrC3.ok hF (by rfl) (by simp) c0 (by simp) (by simp) ?_
  simp
  refine S 60 _ _ ?_
  simp
  refine J.loop hw (fun i : Nat => ⟨[(1, .c (.d (vPolys ys))), (2, .c (.ref 64002 0)), (4, .c (.ref 64004 0)), (5, .c (.ref 64005 0)), (6, .c (.ob 64006)), (23, .c (.d (vPolys ys))), (24, .c (.d (i64 ys.length))), (25, .c (.d (i64 i)))],
      [(64002, .var [.d (i64 p), .d (i64 d), .d (vTerms ts)]), (64004, .var [.d (i64 0), .d (i64 0), .ob 64014]), (64014, .arr 57 4 []), (64005, .var [.d (i64 p), .d (i64 d2), .ob 64015]), (64015, .arr 57 4 []),
       (64006, .arr 40 1 ((ys.take i).map fun y => pwD p ⟨y, 1⟩))]⟩)
    (fun i => i ≤ ys.length) (fun i => ys.length - i) 0 (by simp) (by simp) ?_
  intro i hi
  refine S 8 _ _ ?_
  simp
  refine ⟨fun hlt => ?_, fun hge => ?_⟩
  · obtain ⟨y, hyi⟩ : ∃ y, ys[i]? = some y := ⟨ys[i], List.getElem?_eq_getElem hlt⟩
    obtain ⟨hq, hdy, hgy⟩ := hys y (List.mem_of_getElem? hyi)
    have c1 := constant_ok y.p y.d 1 (by omega) (by omega)
    rw [ofSum_one (by omega)] at c1
    refine S 5 _ _ ?_
    simp
    refine ⟨hlt, fun y' hy' => ?_⟩
    obtain rfl : y = y' := Option.some.inj (hyi.symm.trans hy')
    clear hy'
    refine S 60 _ _ ?_
    simp
    refine CallW.ok (by decide) (by simp) c1 (by simp) (S 60 _ _ ?_)
    simp
    have hpw : oPolys (pwL p ⟨y, 1⟩) = .own 28 3 [[i64 y.p, i64 y.d, oTerms [⟨e0, 1⟩]]] := rfl
    refine BsW.move hF (e := 28) (es := [[i64 y.p, i64 y.d, oTerms [⟨e0, 1⟩]]]) (ks := [2178]) (by decide) rfl rfl rfl (by simp) (by simp) rfl (by decide) (by decide) (by simp) ?_
    refine S 60 _ _ ?_
    simp
    refine BsW.move hF (e := 40) (es := [[.own 28 3 [[i64 y.p, i64 y.d, oTerms [⟨e0, 1⟩]]]]]) (ks := [2240]) (by decide) rfl rfl rfl (by simp) (by simp) rfl (by decide) (by decide) (by simp) ?_
    refine S 60 _ _ ?_
    simp
    have hst2 : List.take (i + 1) (List.map (fun y => pwD p { y := y, n := 1 }) ys) = List.take i (List.map (fun y => pwD p { y := y, n := 1 }) ys) ++ [[.own 28 3 [[i64 y.p, i64 y.d, oTerms [⟨e0, 1⟩]]]]] := by
      rw [List.take_add_one]; simp [hyi, hpw]
    have hal : (List.take i (List.map (fun y => pwD p { y := y, n := 1 }) ys)).length = i := by simp; omega
    exact ⟨⟨by omega, by omega⟩, Nxt.mk (i + 1) hlt (by simp [wrapS (i := i) (n := ys.length) hlt (by omega), hst2]) (by omega)⟩
  · obtain rfl : i = ys.length := by omega
    have htk : List.take ys.length (List.map (fun y => pwD p { y := y, n := 1 }) ys) = List.map (fun y => pwD p { y := y, n := 1 }) ys := List.take_of_length_le (by simp)
    refine S 60 _ _ ?_
    simp
    refine J.loop hw (fun q : Nat × List Pw => ⟨[(1, .c (.d (vPolys ys))), (2, .c (.ref 64002 0)), (4, .c (.ref 64004 0)), (5, .c (.ref 64005 0)), (6, .c (.ob 64006)), (40, .c (.d (vTerms ts))), (41, .c (.d (i64 ts.length))), (42, .c (.d (i64 q.1)))],
        [(64002, .var [.d (i64 p), .d (i64 d), .d (vTerms ts)]), (64004, .var [.d (i64 0), .d (i64 0), .ob 64014]), (64014, .arr 57 4 []), (64005, .var [.d (i64 p), .d (i64 d2), .ob 64015]), (64015, .arr 57 4 (terms (subT p ys (ts.take q.1)))),
         (64006, .arr 40 1 (q.2.map (pwD p)))]⟩)
      (fun q => q.1 ≤ ts.length ∧ ZOk ys q.2) (fun q => ts.length - q.1) (0, ys.map fun y => ⟨y, 1⟩) ⟨by simp, ZOk.start ys⟩ (by simp [subT, htk, Function.comp_def]) ?_
    rintro ⟨i, zs⟩ ⟨hi, hz⟩
    simp only at hi hz
    have hsf := subT_facts (d := d2) hpp.1 (ys := ys) (fun y h => dg_all (hys y h).2.2) (ts.take i) (fun t h => (hx.2.2.1 t (List.take_subset _ _ h)).2) (fun t h => hb t (List.take_subset _ _ h))
    have hsl := can_len hsf.1 hsf.2 (Nat.le_refl _)
    have hst : ∀ t, ts[i]? = some t → subT p ys (ts.take (i + 1)) = plusT p (subT p ys (ts.take i)) (prodE p t.e 0 ys [⟨e0, t.v⟩]) 1 := fun t h => subT_take h
    generalize hcs : subT p ys (ts.take i) = acc at hsf hsl hst
    refine S 8 _ _ ?_
    simp
    refine ⟨fun hlt => ?_, fun hge => ?_⟩
    · obtain ⟨t, ht⟩ : ∃ t, ts[i]? = some t := ⟨ts[i], List.getElem?_eq_getElem hlt⟩
      have htm := List.mem_of_getElem? ht
      have htv := (hx.2.2.1 t htm).2
      have hst := hst t ht
      have hbt := hb t htm
      obtain ⟨hf1, hf2⟩ := prodE_facts (d := d2) hpp.1 t.e ys 0 (n := 0) (fun y h => dg_all (hys y h).2.2) (const_can htv) (const_all d2 t.v) (by omega)
      generalize hR : prodE p t.e 0 ys [⟨e0, t.v⟩] = R at hst hf1 hf2
      have c1 := constant_ok p d2 t.v hp0 hpp.2
      rw [ofSum_one htv] at c1
      refine S 6 _ _ ?_
      simp
      refine ⟨hlt, fun x hx' => ?_⟩
      obtain rfl : t = x := Option.some.inj (ht.symm.trans hx')
      clear hx'
      refine S 60 _ _ ?_
      simp
      refine J.dr3 hF mixed 10 [[], [0], [], [2], [2, 3], [2, 3, 4], [], [6], [0, 1, 2, 3, 4, 5, 6, 7], [], [0, 1, 2, 3, 4, 5, 6, 7, 8, 9]] [[46, 47, 48, 49, 50, 51, 52, 53, 54, 11], [47, 48, 49, 50, 51, 52, 53, 54, 11], [46, 47, 48, 49, 50, 51, 52, 53, 54, 11], [46, 47, 49, 50, 51, 52, 53, 54, 11], [46, 47, 50, 51, 52, 53, 54, 11], [46, 47, 51, 52, 53, 54, 11], [46, 47, 48, 49, 50, 51, 52, 53, 54, 11], [46, 47, 48, 49, 50, 51, 53, 54, 11], [54, 11], [46, 47, 48, 49, 50, 51, 52, 53, 54, 11]] [[], [], [], [], [], [], [], [], [], []] [[], [], [], [], [], [], [], [], [], []] [] [] (by decide) ?_
      rw [← List.take_append_drop 4 (List.take _ _)]
      generalize htl : List.drop 4 (List.take _ _) = tl
      simp
      refine ⟨by omega, fun y hy => ?_⟩
      obtain rfl : y0 = y := Option.some.inj (hy0.symm.trans hy)
      clear hy
      subst htl
      simp [hd0]
      refine DrC3.ok hF (by rfl) (by simp) c1 (by simp) (by simp) ?_
      simp
      refine S 60 _ _ ?_
      simp
      refine J.loop hw (fun q : Nat × List Pw × List Tm => ⟨[(1, .c (.d (vPolys ys))), (2, .c (.ref 64002 0)), (4, .c (.ref 64004 0)), (5, .c (.ref 64005 0)), (6, .c (.ob 64006)), (40, .c (.d (vTerms ts))), (41, .c (.d (i64 ts.length))), (42, .c (.d (i64 i))), (10, .c (.ref 64010 0)), (11, .c (.ref 64011 0)), (55, .c (.d (vPolys ys))), (56, .c (.d (i64 ys.length))), (57, .c (.d (i64 q.1)))],
          [(64002, .var [.d (i64 p), .d (i64 d), .d (vTerms ts)]), (64004, .var [.d (i64 0), .d (i64 0), .ob 64014]), (64014, .arr 57 4 []), (64005, .var [.d (i64 p), .d (i64 d2), .ob 64015]), (64015, .arr 57 4 (terms acc)),
           (64006, .arr 40 1 (q.2.1.map (pwD p))), (64010, .var [.d (u8 t.e.a), .d (u8 t.e.b), .d (u8 t.e.c), .d (i64 t.v)]), (64011, .var [.d (i64 p), .d (i64 d2), .ob 64021]), (64021, .arr 57 4 (terms q.2.2))]⟩)
        (fun q => q.1 ≤ ys.length ∧ ZOk ys q.2.1 ∧ prodE p t.e q.1 (ys.drop q.1) q.2.2 = R ∧ Can p q.2.2 ∧ ∃ n : Nat, AllE (DegLe d2 n) q.2.2 ∧ n + bndE t.e q.1 (ys.drop q.1) ≤ 12) (fun q => ys.length - q.1) (0, zs, [⟨e0, t.v⟩])
        ⟨by simp, hz, by simpa using hR, const_can htv, 0, const_all d2 t.v, by simpa using hbt⟩ (by simp) ?_
      rintro ⟨j, zs, cur⟩ ⟨hj, hz, hcur, hcan, n, hdn, hbn⟩
      simp only at hj hz hcur hcan hdn hbn
      refine S 8 _ _ ?_
      simp
      refine ⟨fun hlt2 => ?_, fun hge2 => ?_⟩
      · obtain ⟨y, hyj⟩ : ∃ y, ys[j]? = some y := ⟨ys[j], List.getElem?_eq_getElem hlt2⟩
        obtain ⟨hyp, hyd, hyg⟩ := hys y (List.mem_of_getElem? hyj)
        have hyl := goodP_len hyg
        have hd12 := hdeg y (List.mem_of_getElem? hyj)
        have hya := dg_all hyg
        rw [prodE_drop hyj] at hcur
        rw [bndE_drop hyj] at hbn
        have hxl := (exAt t.e j).toNat_lt
        have hjw : IntKind.i64.wrap ((j : Int) + 1) = ((j + 1 : Nat) : Int) := wrapS (n := ys.length) hlt2 (by omega)
        refine S 7 _ _ ?_
        simp
        refine ⟨hlt2, fun y' hy' => ?_⟩
        obtain rfl : y = y' := Option.some.inj (hyj.symm.trans hy')
        clear hy'
        obtain ⟨rst, hrst⟩ := exAt_dropC t.e (i64 t.v) (j := j) (by omega)
        refine S 60 _ _ ?_
        simp [hrst]
        refine ⟨by omega, ?_⟩
        generalize hE : (exAt t.e j).toNat = E at hcur hbn hxl
        refine J.loop hw (fun zs : List Pw => ⟨[(1, .c (.d (vPolys ys))), (2, .c (.ref 64002 0)), (4, .c (.ref 64004 0)), (5, .c (.ref 64005 0)), (6, .c (.ob 64006)), (40, .c (.d (vTerms ts))), (41, .c (.d (i64 ts.length))), (42, .c (.d (i64 i))), (10, .c (.ref 64010 0)), (11, .c (.ref 64011 0)), (55, .c (.d (vPolys ys))), (56, .c (.d (i64 ys.length))), (57, .c (.d (i64 j))),
            (12, .c (.d (i64 j))), (13, .c (.ref 64013 0)), (14, .c (.d (i64 E)))],
            [(64002, .var [.d (i64 p), .d (i64 d), .d (vTerms ts)]), (64004, .var [.d (i64 0), .d (i64 0), .ob 64014]), (64014, .arr 57 4 []), (64005, .var [.d (i64 p), .d (i64 d2), .ob 64015]), (64015, .arr 57 4 (terms acc)),
             (64006, .arr 40 1 (zs.map (pwD p))), (64010, .var [.d (u8 t.e.a), .d (u8 t.e.b), .d (u8 t.e.c), .d (i64 t.v)]), (64011, .var [.d (i64 p), .d (i64 d2), .ob 64021]), (64021, .arr 57 4 (terms cur)), (64013, .var [.d (i64 y.p), .d (i64 y.d), .d (vTerms y.ts)])]⟩)
          (fun zs => ZOk ys zs) (fun zs => E + 1 - ((zs[j]?.map fun z => z.n).getD 0)) zs hz (by simp [← hE]) ?_
        clear hz
        intro zs hz
        obtain ⟨z, hzj⟩ : ∃ z, zs[j]? = some z := ⟨zs[j]'(by have := congrArg List.length hz.1; simp at this; omega), List.getElem?_eq_getElem _⟩
        have hzy : z.y = y := by
          have := congrArg (fun l => l[j]?) hz.1
          simp [hzj, hyj] at this
          exact this
        obtain ⟨hz1, hz2, hz3⟩ := hz.2 z (List.mem_of_getElem? hzj)
        refine S 7 _ _ ?_
        simp
        have hzl : j < zs.length := (List.getElem?_eq_some_iff.1 hzj).1
        refine ⟨hzl, fun z' hz' => ?_⟩
        obtain rfl : z = z' := Option.some.inj (hzj.symm.trans hz')
        clear hz'
        refine S 5 _ _ ?_
        simp [pwL_length]
        refine ⟨fun hle => ?_, fun hgt => ?_⟩
        · refine S 1 _ _ ?_
          simp
          refine J.cut hw (t := ⟨[(1, .c (.d (vPolys ys))), (2, .c (.ref 64002 0)), (4, .c (.ref 64004 0)), (5, .c (.ref 64005 0)), (6, .c (.ob 64006)), (40, .c (.d (vTerms ts))), (41, .c (.d (i64 ts.length))), (42, .c (.d (i64 i))), (10, .c (.ref 64010 0)), (11, .c (.ref 64011 0)), (55, .c (.d (vPolys ys))), (56, .c (.d (i64 ys.length))), (57, .c (.d (i64 j))),
            (12, .c (.d (i64 j))), (13, .c (.ref 64013 0)), (14, .c (.d (i64 E)))],
            [(64002, .var [.d (i64 p), .d (i64 d), .d (vTerms ts)]), (64004, .var [.d (i64 0), .d (i64 0), .ob 64014]), (64014, .arr 57 4 []), (64005, .var [.d (i64 p), .d (i64 d2), .ob 64015]), (64015, .arr 57 4 (terms acc)),
             (64006, .arr 40 1 (zs.map (pwD p))), (64010, .var [.d (u8 t.e.a), .d (u8 t.e.b), .d (u8 t.e.c), .d (i64 t.v)]), (64011, .var [.d (i64 p), .d (i64 d2), .ob 64021]), (64021, .arr 57 4 (terms cur)), (64013, .var [.d (i64 y.p), .d (i64 y.d), .d (vTerms y.ts)])]⟩) (by simp) ?_
          refine J.out (F := ⟨Go.Proofs.Try.prog, tab, [], 114, [.cell 4 28]⟩) (r := ⟨po p d2 (subT p ys ts), []⟩) (fn := Go.Proofs.Try.f44) hw
            (ky := 64006) (K := 64050) (i := j) (j := 0) (e := 40) (z := 1) (xs := zs.map (pwD p)) (E := pwD p z) (e' := 28) (z' := 3) (ys := (pwL p z).map pl3)
            (by simp) (by simp [hzj]) (by simp) (by simp) (by simp) (by omega) (by simp) (by simp) (by simp) ?_
          intro c
          have S1 := @vc_sound (w0.named 64050 c) _ hF ⟨po p d2 (subT p ys ts), []⟩ Go.Proofs.Try.f44 rfl (by simp)
          refine S1 60 _ _ ?_
          simp
          refine J.dr3 hF mixed 22 [[], [], [], [], [2, 3], [2, 3, 4], [], [], [6, 7], [6, 7, 8], [], [], [10, 11], [10, 11, 12], [10, 11, 12, 13], [10, 11, 12, 13, 14], [6, 7, 8, 9, 10, 11, 12, 13, 14, 15], [6, 7, 8, 9, 10, 11, 12, 13, 14, 15, 16], [], [6, 7, 8, 9, 10, 11, 12, 13, 14, 15, 16, 17, 18], [6, 7, 8, 9, 10, 11, 12, 13, 14, 15, 16, 17, 18, 19], [2, 3, 4, 5, 6, 7, 8, 9, 10, 11, 12, 13, 14, 15, 16, 17, 18, 19, 20], [0, 1, 2, 3, 4, 5, 6, 7, 8, 9, 10, 11, 12, 13, 14, 15, 16, 17, 18, 19, 20, 21], [0, 1, 2, 3, 4, 5, 6, 7, 8, 9, 10, 11, 12, 13, 14, 15, 16, 17, 18, 19, 20, 21, 22]] [[74, 75, 76, 77, 78, 79, 80, 81, 82, 83, 84, 85, 86, 87, 88, 89, 90, 91, 92, 93, 94, 95], [74, 75, 76, 77, 78, 79, 80, 81, 82, 83, 84, 85, 86, 87, 88, 89, 90, 91, 92, 93, 94, 95], [74, 75, 76, 77, 78, 79, 80, 81, 82, 83, 84, 85, 86, 87, 88, 89, 90, 91, 92, 93, 94, 95], [74, 75, 76, 77, 78, 79, 80, 81, 82, 83, 84, 85, 86, 87, 88, 89, 90, 91, 92, 93, 94, 95], [74, 75, 78, 79, 80, 81, 82, 83, 84, 85, 86, 87, 88, 89, 90, 91, 92, 93, 94, 95], [74, 75, 79, 80, 81, 82, 83, 84, 85, 86, 87, 88, 89, 90, 91, 92, 93, 94, 95], [74, 75, 76, 77, 78, 79, 80, 81, 82, 83, 84, 85, 86, 87, 88, 89, 90, 91, 92, 93, 94, 95], [74, 75, 76, 77, 78, 79, 80, 81, 82, 83, 84, 85, 86, 87, 88, 89, 90, 91, 92, 93, 94, 95], [74, 75, 76, 77, 78, 79, 82, 83, 84, 85, 86, 87, 88, 89, 90, 91, 92, 93, 94, 95], [74, 75, 76, 77, 78, 79, 83, 84, 85, 86, 87, 88, 89, 90, 91, 92, 93, 94, 95], [74, 75, 76, 77, 78, 79, 80, 81, 82, 83, 84, 85, 86, 87, 88, 89, 90, 91, 92, 93, 94, 95], [74, 75, 76, 77, 78, 79, 80, 81, 82, 83, 84, 85, 86, 87, 88, 89, 90, 91, 92, 93, 94, 95], [74, 75, 76, 77, 78, 79, 80, 81, 82, 83, 86, 87, 88, 89, 90, 91, 92, 93, 94, 95], [74, 75, 76, 77, 78, 79, 80, 81, 82, 83, 87, 88, 89, 90, 91, 92, 93, 94, 95], [74, 75, 76, 77, 78, 79, 80, 81, 82, 83, 88, 89, 90, 91, 92, 93, 94, 95], [74, 75, 76, 77, 78, 79, 80, 81, 82, 83, 89, 90, 91, 92, 93, 94, 95], [74, 75, 76, 77, 78, 79, 90, 91, 92, 93, 94, 95], [74, 75, 76, 77, 78, 79, 91, 92, 93, 94, 95], [74, 75, 76, 77, 78, 79, 80, 81, 82, 83, 84, 85, 86, 87, 88, 89, 90, 91, 92, 93, 94, 95], [74, 75, 76, 77, 78, 79, 93, 94, 95], [74, 75, 76, 77, 78, 79, 94, 95], [74, 75, 95]] [[], [], [], [], [], [1064050], [], [], [], [2064050], [], [], [], [3064050], [], [], [], [], [], [], [5954], [6016, 64050]] [[1064050, 2064050, 3064050, 5954, 6016, 64050], [1064050, 2064050, 3064050, 5954, 6016, 64050], [2064050, 3064050, 5954], [2064050, 3064050, 5954], [2064050, 3064050, 5954], [2064050, 3064050, 5954], [1064050, 3064050], [1064050, 3064050], [1064050, 3064050], [1064050, 3064050], [1064050, 2064050], [1064050, 2064050], [1064050, 2064050], [1064050, 2064050], [1064050, 2064050], [1064050, 2064050], [1064050], [1064050], [1064050, 2064050, 3064050], [1064050], [1064050], []] [] [] (by decide) ?_
          rw [← List.take_append_drop 6 (List.take _ _)]
          generalize htl : List.drop 6 (List.take _ _) = tl
          simp
          have hce : ((List.map (pwD p) zs).set j [D.v c])[j]? = some [D.v c] := by simp [hzl]
          refine ⟨hzl, fun e he => ?_⟩
          obtain rfl : [D.v c] = e := Option.some.inj (hce.symm.trans he)
          refine ⟨c, rfl, rfl, ?_⟩
          subst htl
          rw [← List.take_append_drop 4 (List.drop 6 _)]
          generalize htl : List.drop 4 (List.drop 6 _) = tl
          simp
          refine ⟨hzl, fun e he => ?_⟩
          obtain rfl : [D.v c] = e := Option.some.inj (hce.symm.trans he)
          refine ⟨c, rfl, rfl, ?_⟩
          subst htl
          rw [← List.take_append_drop 4 (List.drop 4 (List.drop 6 _))]
          generalize htl : List.drop 4 (List.drop 4 (List.drop 6 _)) = tl
          simp
          refine ⟨hzl, fun e he => ?_⟩
          obtain rfl : [D.v c] = e := Option.some.inj (hce.symm.trans he)
          refine ⟨c, rfl, rfl, ?_⟩
          subst htl
          have hlz := pwL_length p z
          have hlast := pwL_get (p := p) (z := z) (k := z.n - 1) (by omega)
          have hwz : IntKind.i64.wrap ((z.n : Int) - 1) = ((z.n - 1 : Nat) : Int) := by rw [wrap64] <;> omega
          rw [← List.take_append_drop 4 (List.drop 4 (List.drop 4 (List.drop 6 _)))]
          generalize htl : List.drop 4 (List.drop 4 (List.drop 4 (List.drop 6 _))) = tl
          simp [hlz, hwz]
          refine ⟨by omega, fun e he => ?_⟩
          obtain rfl : pwE p z.y (z.n - 1) = e := Option.some.inj (hlast.symm.trans he)
          subst htl
          have hpc := powT_can hpp.1 y.ts (z.n - 1)
          have hpd := powT_deg (p := p) hya (z.n - 1) (by rw [← hzy]; omega)
          have hpl := can_len hpc hpd (by rw [← hzy]; exact hz3)
          have c2 := mul_ok p d2 p d2 (powT p y.ts (z.n - 1)) y.ts hp0 hpp.2 hpc (goodP_can hyg) (by omega) (by omega)
          have hpe : mulT p (powT p y.ts (z.n - 1)) y.ts = powT p y.ts z.n := by rw [show powT p y.ts z.n = powT p y.ts (z.n - 1 + 1) by rw [Nat.sub_add_cancel hz1]]; rfl
          rw [hpe] at c2
          simp [pwE, hzy, hyp, hyd]
          refine DrC3.ok hF (by rfl) (by simp) c2 (by simp) (by simp) ?_
          simp
          refine DrB3.move hF (by rfl) (e := 28) (es := [[i64 p, i64 d2, oTerms (powT p y.ts z.n)]]) (ks := [5954]) (by decide) rfl rfl rfl (by simp) (by simp) rfl (by decide) (by decide) (by simp) (by simp) ?_
          simp [hlz]
          refine ⟨⟨by omega, by omega⟩, ?_⟩
          refine J.name (F := ⟨Go.Proofs.Try.prog, tab, [], 114, [.cell 4 28]⟩) (r := ⟨po p d2 (subT p ys ts), []⟩) (fn := Go.Proofs.Try.f44)
            (K := 6080) (by rw [named_ne _ _ (by decide)]; exact fix_none hw (by decide)) (by simp) (by simp) ?_
          intro c2'
          refine J.reV (d := 95) (K := 6080) (c := c2') (by simp) (by simp) ?_
          have S2 := @vc_sound ((w0.named 64050 c).named 6080 c2') _ hF ⟨po p d2 (subT p ys ts), []⟩ Go.Proofs.Try.f44 rfl (by simp)
          refine S2 2 _ _ ?_
          simp [hzl]
          refine J.in' (ky := 64006) (K := 6080) (i := j) (j := 0) (e := 40) (z := 1) (xs := (zs.map (pwD p)).set j [.v c2']) (E := [.v c2']) (e' := 28) (z' := 3) (ys := (pwL p z).map pl3 ++ [[i64 p, i64 d2, oTerms (powT p y.ts z.n)]]) (c := c2')
            (by simp) (by simp) (by simp) (by simp [hzl]) (by simp) (by decide) (by simp) ?_
          have hzE : z = ⟨y, z.n⟩ := by cases z; simp only at hzy; subst hzy; rfl
          have hfin : (zs.map (pwD p)).set j [.own 28 3 ((pwL p z).map pl3 ++ [[i64 p, i64 d2, oTerms (powT p y.ts z.n)]])] = (zs.set j ⟨y, z.n + 1⟩).map (pwD p) := by
            rw [List.map_set]
            congr 1
            have : pwL p ⟨y, z.n + 1⟩ = pwL p z ++ [⟨p, d2, powT p y.ts z.n⟩] := by rw [pwL_succ, ← hzE]; simp [pwE, hyp, hyd]
            show _ = [oPolys (pwL p ⟨y, z.n + 1⟩)]
            rw [this]
            simp
          refine S2 60 _ _ ?_
          simp
          have hE12 : E ≤ 12 := by
            rw [← hE]
            have := (hx.2.2.1 t htm).1.2.2
            unfold Ex.deg at this
            unfold exAt
            split <;> (try split) <;> omega
          have hle : z.n ≤ E := by omega
          have hzd : z.n * dg y.ts ≤ E * dg y.ts := Nat.mul_le_mul_right _ hle
          have hme : ((zs.set j ⟨y, z.n + 1⟩)[j]?.map fun z => z.n).getD 0 = z.n + 1 := by simp [hzl]
          have hmo : (zs[j]?.map fun z => z.n).getD 0 = z.n := by simp [hzj]
          refine Nxt.mk (zs.set j ⟨y, z.n + 1⟩) ⟨?_, fun u hu => ?_⟩ (by simp [hfin]) (by show E + 1 - ((zs.set j ⟨y, z.n + 1⟩)[j]?.map fun z => z.n).getD 0 < E + 1 - (zs[j]?.map fun z => z.n).getD 0; rw [hme, hmo]; omega)
          · rw [List.map_set, hz.1]
            exact List.ext_getElem? fun q => by
              by_cases hq : q = j
              · subst hq; rw [List.getElem?_set_self hlt2, hyj]
              · rw [List.getElem?_set_ne (Ne.symm hq)]
          · rcases List.mem_or_eq_of_mem_set hu with h | h
            · exact hz.2 u h
            · subst h
              exact ⟨by simp, by simp only; omega, by simp only [Nat.add_sub_cancel]; omega⟩
        · have hpc := powT_can hpp.1 y.ts E
          have hpd := powT_deg (p := p) hya E (by omega)
          have hpl := can_len hpc hpd (by omega)
          have hcl := can_len hcan hdn (by omega)
          have htp := timesT_pow hpp.1 y.ts hcan E
          have hmd := mulT_deg (p := p) hdn hpd (by omega)
          have hmc := mulT_can hp0 cur (powT p y.ts E)
          have c2 := mul_ok p d2 p d2 cur (powT p y.ts E) hp0 hpp.2 hcan hpc (by omega) (by omega)
          rw [htp] at hcur
          have hget := pwL_get (p := p) (z := z) (k := E) (by omega)
          have hlz := pwL_length p z
          refine S 60 _ _ ?_
          simp
          refine ⟨fun h0 => ?_, fun h0 => ?_⟩
          · refine S 60 _ _ ?_
            simp
            refine J.dr3 hF mixed 8 [[], [], [], [1, 2], [1, 2, 3], [], [1, 2, 3, 4, 5], [1, 2, 3, 4, 5, 6], [0, 1, 2, 3, 4, 5, 6, 7], [0, 1, 2, 3, 4, 5, 6, 7, 8]] [[99, 100, 101, 102, 103, 104, 105, 106], [99, 100, 101, 102, 103, 104, 105, 106], [99, 100, 101, 102, 103, 104, 105, 106], [99, 102, 103, 104, 105, 106], [99, 103, 104, 105, 106], [99, 100, 101, 102, 103, 104, 105, 106], [99, 105, 106], [99, 106]] [[], [], [], [], [], [], [], []] [[], [], [], [], [], [], [], []] [] [] (by decide) ?_
            rw [← List.take_append_drop 5 (List.take _ _)]
            generalize htl : List.drop 5 (List.take _ _) = tl
            simp
            refine ⟨hzl, fun z' hz' => ?_⟩
            obtain rfl : z = z' := Option.some.inj (hzj.symm.trans hz')
            subst htl
            rw [← List.take_append_drop 2 (List.drop 5 _)]
            generalize htl : List.drop 2 (List.drop 5 _) = tl
            simp [hlz]
            refine ⟨by omega, fun e he => ?_⟩
            obtain rfl : pwE p z.y E = e := Option.some.inj (hget.symm.trans he)
            subst htl
            simp [pwE, hzy, hyp, hyd]
            refine S 60 _ _ ?_
            simp
            refine CallW.ok (by decide) (by simp) c2 (by simp) (S 60 _ _ ?_)
            simp [hjw]
            exact Nxt.mk (j + 1, zs, mulT p cur (powT p y.ts E)) ⟨hlt2, hz, hcur, hmc, n + E * dg y.ts, hmd, by simp only; omega⟩ (by simp) (by simp only; omega)
          · obtain rfl : E = 0 := by omega
            have e1 : mulT p cur (powT p y.ts 0) = cur := mulT_one hp0 hcan
            rw [e1] at hcur
            exact Nxt.mk (j + 1, zs, cur) ⟨hlt2, hz, hcur, hcan, n, hdn, by simp only; omega⟩ (by simp [hjw]) (by simp only; omega)
      · have e : ys.drop j = [] := List.drop_eq_nil_of_le hge2
        rw [e] at hcur
        have hcur : cur = R := hcur
        subst hcur
        have hrl := can_len hf1 hf2 (by omega)
        have c3 := add_ok p d2 p d2 1 acc cur hp0 hpp.2 hsf.1 hf1 (by omega) (by omega) (by omega) (by omega)
        rw [← hst] at c3
        refine S 60 _ _ ?_
        simp
        refine CallW.ok (by decide) (by simp) c3 (by simp) (S 60 _ _ ?_)
        simp
        exact Nxt.mk (i + 1, zs) ⟨hlt, hz⟩ (by simp [wrapS (i := i) (n := ts.length) hlt (by omega)]) (by simp only; omega)
    · obtain rfl : i = ts.length := by omega
      rw [List.take_length] at hcs
      subst hcs
      refine S 60 _ _ ?_
      simp

end Go.Sm
