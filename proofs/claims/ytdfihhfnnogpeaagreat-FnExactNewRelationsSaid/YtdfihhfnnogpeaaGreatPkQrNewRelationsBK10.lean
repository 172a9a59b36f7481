/- Towards the rows of this seat: what the functions do, as contracts over plain data. -/
import Derived.Test.YtdfihhfnnogpeaaGreatPkQrNewRelationsBK5
import Derived.Test.YtdfihhfnnogpeaaGreatPkQrNewRelationsBK6
namespace Go.Sm

/-- Exponents of d letters, of degree n at most. -/
def DegLe (d : Int) (n : Nat) (e : Ex) : Prop := (d ≤ 1 → e.b = 0) ∧ (d ≤ 2 → e.c = 0) ∧ e.deg ≤ n
theorem DegLe.inV {d : Int} {n : Nat} {e : Ex} (h : DegLe d n e) (hn : n ≤ 12) : InV d e := ⟨h.1, h.2.1, by have := h.2.2; omega⟩
theorem InV.degLe {d : Int} {e : Ex} (h : InV d e) : DegLe d 12 e := ⟨h.1, h.2.1, h.2.2⟩
theorem DegLe.mono {d : Int} {n m : Nat} {e : Ex} (h : DegLe d n e) (hn : n ≤ m) : DegLe d m e := ⟨h.1, h.2.1, by have := h.2.2; omega⟩
theorem DegLe.add {d : Int} {n m : Nat} {x y : Ex} (hx : DegLe d n x) (hy : DegLe d m y) (h : n + m ≤ 255) : DegLe d (n + m) (addE x y) := by
  obtain ⟨x1, x2, x3⟩ := hx
  obtain ⟨y1, y2, y3⟩ := hy
  rw [addE_eq]
  refine ⟨fun hd => by simp only; rw [x1 hd, y1 hd]; rfl, fun hd => by simp only; rw [x2 hd, y2 hd]; rfl, ?_⟩
  unfold Ex.deg at x3 y3 ⊢
  simp only [UInt8.toNat_add]
  omega

/-- What holds of all exponents. -/
def AllE (Q : Ex → Prop) (ts : List Tm) : Prop := ∀ t ∈ ts, Q t.e
theorem AllE.mono {Q R : Ex → Prop} {ts : List Tm} (h : AllE Q ts) (hq : ∀ e, Q e → R e) : AllE R ts := fun t ht => hq _ (h t ht)
theorem putT_all {Q : Ex → Prop} {p : Int} {ts : List Tm} {e : Ex} {v : Int} (h : AllE Q ts) (he : Q e) : AllE Q (putT p ts e v) := by
  intro t ht
  unfold putT at ht
  rcases putGo_mem ht with ⟨h1, _⟩ | ⟨h1, _⟩
  · rw [h1]; exact he
  · exact h t h1
theorem mulRow_all {Q : Ex → Prop} {p : Int} {a : Tm} {out : List Tm} (h : AllE Q out) : ∀ {us : List Tm}, (∀ u ∈ us, Q (addE a.e u.e)) → AllE Q (mulRow p a out us) := by
  intro us
  induction us using snocInd with
  | nil => intro _; exact h
  | snoc us u ih =>
    intro hu
    rw [mulRow_snoc]
    exact putT_all (ih fun x hx => hu x (by simp [hx])) (hu u (by simp))
theorem mulT_all {Q : Ex → Prop} {p : Int} {us : List Tm} : ∀ {ts : List Tm}, (∀ t ∈ ts, ∀ u ∈ us, Q (addE t.e u.e)) → AllE Q (mulT p ts us) := by
  intro ts
  induction ts using snocInd with
  | nil => intro _; simp [mulT, AllE]
  | snoc ts t ih =>
    intro h
    rw [mulT_snoc]
    exact mulRow_all (ih fun x hx => h x (by simp [hx])) (h t (by simp))
theorem mulT_deg {p d : Int} {n m : Nat} {ts us : List Tm} (ht : AllE (DegLe d n) ts) (hu : AllE (DegLe d m) us) (h : n + m ≤ 255) : AllE (DegLe d (n + m)) (mulT p ts us) :=
  mulT_all fun t h1 u h2 => (ht t h1).add (hu u h2) h
/-- Few terms. -/
theorem can_len {p d : Int} {n : Nat} {ts : List Tm} (hc : Can p ts) (h : AllE (DegLe d n) ts) (hn : n ≤ 12) : ts.length ≤ 455 := by
  have h1 := nodup_subset (ys := allE) (asc_nodup hc.1) fun e he => by
    obtain ⟨t, ht, rfl⟩ := List.mem_map.1 he
    exact allE_mem ((h t ht).inV hn)
  rw [allE_length, List.length_map] at h1
  exact h1

theorem cmpE_deg {x y : Ex} (h : cmpE x y < 0) : x.deg ≤ y.deg := by
  unfold cmpE at h
  by_cases h0 : x.deg - y.deg ≠ 0
  · rw [if_pos h0] at h; omega
  · omega
/-- The last term is one of the greatest degree. -/
theorem degT_max {ts : List Tm} (h : Asc ts) : ∀ t ∈ ts, t.e.deg ≤ degT ts := by
  intro t ht
  obtain ⟨i, hi, hti⟩ := List.getElem_of_mem ht
  have hl : ts[ts.length - 1]? = some (ts[ts.length - 1]'(by omega)) := List.getElem?_eq_getElem _
  unfold degT
  rw [List.getLast?_eq_getElem?, hl]
  show t.e.deg ≤ (ts[ts.length - 1]'(by omega)).e.deg
  by_cases e : i = ts.length - 1
  · subst e; rw [hti]; exact Int.le_refl _
  · exact cmpE_deg (asc_get h (show ts[i]? = some t by rw [List.getElem?_eq_getElem hi, hti]) hl (by omega))
theorem degT_ge {ts : List Tm} : -1 ≤ degT ts := by
  unfold degT
  cases ts.getLast? with
  | none => exact Int.le_refl _
  | some t => exact Int.le_trans (by decide) (deg_lt t.e).1
theorem degT_le {d : Int} {n : Nat} {ts : List Tm} (h : AllE (DegLe d n) ts) : degT ts ≤ n := by
  unfold degT
  cases ht : ts.getLast? with
  | none => exact Int.le_trans (show (-1 : Int) ≤ 0 by decide) (Int.natCast_nonneg n)
  | some t => exact (h t (List.mem_of_getLast? ht)).2.2
/-- The degree, 0 for the zero polynomial. -/
def dg (ts : List Tm) : Nat := (degT ts).toNat
theorem dg_all {p d : Int} {ts : List Tm} (h : GoodP p d ts) : AllE (DegLe d (dg ts)) ts := fun t ht => by
  have h1 := (h.2.2.1 t ht).1
  have h2 := degT_max h.2.2.2 t ht
  have h3 := deg_lt t.e
  exact ⟨h1.1, h1.2.1, by unfold dg; omega⟩
theorem dg_le {p d : Int} {ts : List Tm} (h : GoodP p d ts) : dg ts ≤ 12 := by
  have := degT_le (d := d) (n := 12) (ts := ts) fun t ht => (h.2.2.1 t ht).1.degLe
  unfold dg; omega

theorem timesT_facts {p d : Int} (hp : 2 ≤ p) {y : List Tm} {m : Nat} (hy : AllE (DegLe d m) y) : ∀ (k : Nat) {n : Nat} {a : List Tm}, Can p a → AllE (DegLe d n) a → n + k * m ≤ 255 → Can p (timesT p y k a) ∧ AllE (DegLe d (n + k * m)) (timesT p y k a)
  | 0, n, a, ha, hn, _ => by simpa [timesT] using And.intro ha hn
  | k + 1, n, a, ha, hn, h => by
    rw [Nat.succ_mul] at h
    have := timesT_facts hp hy k (n := n + m) (mulT_can (by omega) a y) (mulT_deg hn hy (by omega)) (by omega)
    rw [Nat.succ_mul, Nat.add_comm (k * m), ← Nat.add_assoc]
    exact this
theorem const_all (d v : Int) : AllE (DegLe d 0) [⟨e0, v⟩] := by
  intro t ht
  rw [List.mem_singleton] at ht; subst ht
  exact ⟨fun _ => rfl, fun _ => rfl, show Ex.deg e0 ≤ 0 by decide⟩
end Go.Sm

namespace Go.Sm
open Go.RowKit

theorem polyDegree_ok (p d : Int) (ts : List Tm) (hl : ts.length ≤ 1048576) : CallOK Go.Proofs.Tryz.prog 35 [pv p d ts] (.one (i64 (degT ts))) := by
  have hF := fnOk 17 [.tmp 2]
  refine callOK hF 60 Go.Proofs.Tryz.func35 rfl rfl rfl (by decide) (by simp) rfl ?_
  intro w0 hw
  have S := @vc_sound w0 _ hF ⟨(.one (i64 (degT ts))), []⟩ Go.Proofs.Tryz.f35 rfl (by simp)
  by_cases h0 : ts.length = 0
  · have e : ts = [] := List.length_eq_zero_iff.1 h0
    subst e
    have e : degT [] = -1 := rfl
    rw [e] at S ⊢
    simp
  · have hw1 : IntKind.i64.wrap ((ts.length : Int) - 1) = ((ts.length - 1 : Nat) : Int) := by rw [wrap64] <;> omega
    obtain ⟨t, ht⟩ : ∃ t, ts[ts.length - 1]? = some t := ⟨ts[ts.length - 1], List.getElem?_eq_getElem (by omega)⟩
    have e : degT ts = t.e.deg := by unfold degT; rw [List.getLast?_eq_getElem?, ht]
    rw [e] at S ⊢
    have c1 := degree_ok t.e
    generalize hn : ts.length - 1 = n at *
    simp [h0, hw1]
    refine ⟨show n < ts.length by omega, fun a ha => ?_⟩
    obtain rfl : t = a := Option.some.inj (ht.symm.trans ha)
    refine CallW.ok (by decide) (by simp) c1 (by simp) (S 60 _ _ ?_)
    simp

end Go.Sm

namespace Go.Sm
open Go.RowKit

theorem l01TimesZ_ok (p d p2 d2 : Int) (ts us : List Tm) (_ : ts.length ≤ 1000) (_ : us.length ≤ 1000) (h0 : ts.length = 0 ∨ us.length = 0) : CallOK Go.Proofs.Tryz.prog 86 [pv p d ts, pv p2 d2 us] (.tup [(true, [i64 p, i64 d, oTerms []]), (false, [bo true])]) := by
  have hF := fnOk 88 [.cell 4 44, .tmp 5]
  refine callOK hF 60 Go.Proofs.Tryz.func86 rfl rfl rfl (by decide) (by simp) rfl ?_
  intro w0 hw
  have S := @vc_sound w0 _ hF ⟨(.tup [(true, [i64 p, i64 d, oTerms []]), (false, [bo true])]), []⟩ Go.Proofs.Tryz.f86 rfl (by simp)
  have c1 := l01Empty_ok p d
  simp
  refine CallW.ok (by decide) (by simp) c1 (by simp) (S 60 _ _ ?_)
  simp
  refine fun h1 => fun h2 => ?_
  rcases h0 with h | h
  · exact absurd (List.length_eq_zero_iff.1 h) h1
  · exact absurd (List.length_eq_zero_iff.1 h) h2

/-- A product, also of zeros. -/
theorem l01TimesG_ok (p d p2 d2 : Int) (ts us : List Tm) (hp : 0 < p) (hp2 : p ≤ 13) (ht : Can p ts) (hu : Can p us) (hlt : ts.length ≤ 1000) (hlu : us.length ≤ 1000) (hd1 : degT ts ≤ 12) (hd2 : degT us ≤ 12) (hdeg : degT ts + dg us ≤ 12) :
    CallOK Go.Proofs.Tryz.prog 86 [pv p d ts, pv p2 d2 us] (.tup [(true, [i64 p, i64 d, oTerms (mulT p ts us)]), (false, [bo true])]) := by
  by_cases h0 : ts.length ≠ 0 ∧ us.length ≠ 0
  · have h3 : degT us ≤ dg us := by unfold dg; omega
    exact l01Times_ok p d p2 d2 ts us hp hp2 ht hu hlt hlu h0.1 h0.2 (by omega) degT_ge hd1 degT_ge hd2
  · have e : mulT p ts us = [] := by
      by_cases h1 : ts.length = 0
      · rw [List.length_eq_zero_iff.1 h1]; rfl
      · rw [List.length_eq_zero_iff.1 (show us.length = 0 by omega), mulT_nil]
    rw [e]
    exact l01TimesZ_ok p d p2 d2 ts us hlt hlu (by omega)

theorem putT_one {p v : Int} {e : Ex} (h : 1 ≤ v ∧ v < p) : putT p [] e v = [⟨e, v⟩] := by
  unfold putT
  simp only [coef, Int.add_zero]
  rw [Int.emod_eq_of_lt (by omega) h.2, show (v == 0) = false by simp; omega]
  rfl

end Go.Sm
