/- Towards the rows of this seat: what the functions do, as contracts over plain data. -/
import Derived.Test.YtdfihhfnnogpeaaGreatPkQrNewRelationsBK8
import Derived.Test.YtdfihhfnnogpeaaGreatPkQrNewRelationsBK20
import Derived.Test.YtdfihhfnnogpeaaGreatPkQrNewRelationsBK24
namespace Go.Sm
open Go.RowKit

/-- Exponents of d letters, of degree n. -/
def HomE (d : Int) (n : Nat) (e : Ex) : Prop := DegLe d n e ∧ e.deg = n
theorem HomE.add {d : Int} {n m : Nat} {x y : Ex} (hx : HomE d n x) (hy : HomE d m y) (h : n + m ≤ 255) : HomE d (n + m) (addE x y) := by
  refine ⟨hx.1.add hy.1 h, ?_⟩
  have h1 := hx.2
  have h2 := hy.2
  rw [addE_eq]
  unfold Ex.deg at h1 h2 ⊢
  simp only [UInt8.toNat_add]
  omega
theorem mulT_hom {p d : Int} {n m : Nat} {ts us : List Tm} (ht : AllE (HomE d n) ts) (hu : AllE (HomE d m) us) (h : n + m ≤ 255) : AllE (HomE d (n + m)) (mulT p ts us) :=
  mulT_all fun t h1 u h2 => (ht t h1).add (hu u h2) h
theorem hom_deg {d : Int} {n : Nat} {ts : List Tm} (h : AllE (HomE d n) ts) : AllE (DegLe d n) ts := fun t ht => (h t ht).1
theorem one_hom (d : Int) : AllE (HomE d 0) one1 := fun t ht => by
  rw [List.mem_singleton] at ht; subst ht
  exact ⟨⟨fun _ => rfl, fun _ => rfl, by decide⟩, by decide⟩

theorem mem_downTo {f : Nat → List Ex} {e : Ex} {i : Nat} : ∀ {k : Nat}, i < k → e ∈ f i → e ∈ downTo f k
  | 0, h, _ => by omega
  | k + 1, h, he => by
    rw [downTo, List.mem_append]
    by_cases hi : i = k
    · subst hi; exact .inl he
    · exact .inr (mem_downTo (by omega) he)
theorem mons_iff {d : Int} {n : Nat} (hn : n ≤ 12) {e : Ex} : e ∈ mons d n ↔ HomE d n e := by
  constructor
  · intro h
    obtain ⟨a, ha, h⟩ := downTo_mem h
    obtain ⟨b, hb, h⟩ := downTo_mem h
    have hin : inD d b (n - a - b) := by
      unfold monRow at h
      split at h
      · assumption
      · cases h
    have he := monRow_mem h
    subst he
    unfold inD at hin
    have e1 := by8_nat (n := a) (by omega)
    have e2 := by8_nat (n := b) (by omega)
    have e3 := by8_nat (n := n - a - b) (by omega)
    have hdeg : (mkE a b (n - a - b)).deg = n := by
      unfold Ex.deg mkE
      simp only
      rw [e1, e2, e3]; omega
    refine ⟨⟨fun hd => ?_, fun hd => ?_, by rw [hdeg]; exact Int.le_refl _⟩, hdeg⟩
    · show by8 _ = 0
      rw [by8_zero (by omega)]; omega
    · show by8 _ = 0
      rw [by8_zero (by omega)]; omega
  · rintro ⟨⟨h1, h2, _⟩, h3⟩
    unfold Ex.deg at h3
    refine mem_downTo (i := e.a.toNat) (by omega) (mem_downTo (i := e.b.toNat) (by omega) ?_)
    have hc : n - e.a.toNat - e.b.toNat = e.c.toNat := by omega
    have hin : inD d e.b.toNat (n - e.a.toNat - e.b.toNat) := by
      rw [hc]
      refine ⟨fun h => ?_, fun h => ?_⟩
      · rw [h1 (by omega)] at h
        exact absurd h.2 (by decide)
      · rw [h2 (by omega)] at h
        exact absurd h.2 (by decide)
    unfold monRow
    rw [if_pos hin, hc, List.mem_singleton]
    unfold mkE
    rw [by8_toNat, by8_toNat, by8_toNat]

/-- A sum over monomials, with numbers by place. -/
def sumI : List Ex → (Nat → Int) → (Ex → Int) → Int
  | [], _, _ => 0
  | e :: L, f, g => f 0 * g e + sumI L (fun i => f (i + 1)) g
theorem sumI_lin (c : Int) (g : Ex → Int) : ∀ (L : List Ex) (f h : Nat → Int), sumI L (fun i => f i + c * h i) g = sumI L f g + c * sumI L h g
  | [], _, _ => by simp [sumI]
  | e :: L, f, h => by
    simp only [sumI]
    rw [sumI_lin c g L (fun i => f (i + 1)) fun i => h (i + 1), Int.add_mul, Int.mul_add, Int.mul_assoc]
    omega
theorem sumI_al {p : Int} (g : Ex → Int) : ∀ (L : List Ex) {f h : Nat → Int}, (∀ k < L.length, p ∣ f k - h k) → p ∣ sumI L f g - sumI L h g
  | [], _, _, _ => by simp [sumI]
  | e :: L, f, h, hk => by
    simp only [List.length_cons] at hk
    have h1 := dm (hk 0 (by omega)) (g e)
    have h2 := sumI_al g L (f := fun i => f (i + 1)) (h := fun i => h (i + 1)) fun k h' => hk (k + 1) (by omega)
    simp only [sumI]
    have := Int.dvd_add h1 h2
    rwa [show g e * (f 0 - h 0) + (sumI L (fun i => f (i + 1)) g - sumI L (fun i => h (i + 1)) g) = f 0 * g e + sumI L (fun i => f (i + 1)) g - (h 0 * g e + sumI L (fun i => h (i + 1)) g) by rw [Int.mul_sub, Int.mul_comm (g e), Int.mul_comm (g e)]; omega] at this
theorem sumI_ext (g : Ex → Int) : ∀ (L : List Ex) {f h : Nat → Int}, (∀ k < L.length, f k = h k) → sumI L f g = sumI L h g
  | [], _, _, _ => rfl
  | e :: L, f, h, hk => by
    simp only [List.length_cons] at hk
    simp only [sumI]
    rw [hk 0 (by omega), sumI_ext g L (f := fun i => f (i + 1)) (h := fun i => h (i + 1)) fun k h' => hk (k + 1) (by omega)]
theorem sumI_zero (g : Ex → Int) : ∀ (L : List Ex), sumI L (fun _ => 0) g = 0
  | [] => rfl
  | e :: L => by simp only [sumI]; rw [sumI_zero g L]; simp
/-- What a polynomial gives, from its row. -/
theorem lin_list (g : Ex → Int) : ∀ {L : List Ex} {ts : List Tm}, L.Nodup → (ts.map (·.e)).Nodup → (∀ t ∈ ts, t.e ∈ L) → lin ts g = sumI L (gt (L.map (coef ts))) g
  | [], ts, _, _, h => by
    cases ts with
    | nil => rfl
    | cons t ts => exact absurd (h t (by simp)) (by simp)
  | e :: L, ts, hL, hn, h => by
    obtain ⟨h1, h2⟩ := List.nodup_cons.1 hL
    have hn' : ((ts.filter fun t => t.e ≠ e).map (·.e)).Nodup := hn.sublist (List.filter_sublist.map _)
    have ih := lin_list g h2 hn' (fun t ht => by
      obtain ⟨ht1, ht2⟩ := List.mem_filter.1 ht
      rcases List.mem_cons.1 (h t ht1) with h3 | h3
      · simp [h3] at ht2
      · exact h3)
    rw [lin_filter g e hn, ih]
    have hm : L.map (coef (ts.filter fun t => t.e ≠ e)) = L.map (coef ts) := List.map_congr_left fun x hx => by
      rw [coef_filter, if_neg (by rintro rfl; exact h1 hx)]
    rw [hm]
    show sumI L (gt (L.map (coef ts))) g + coef ts e * g e = coef ts e * g e + sumI L (gt (L.map (coef ts))) g
    omega

/-- A linear map takes spaces to spaces. -/
theorem sp_map {p : Int} {n n' : Nat} {S T : List Int → Prop} {A : (Nat → Int) → Nat → Int} (hl : ∀ f g c h, Al p n h (fun k => f k + c * g k) → Al p n' (A h) fun k => A f k + c * A g k) (h0 : ∀ f, Al p n f (fun _ => 0) → Al p n' (A f) fun _ => 0)
    (hST : ∀ r, S r → Sp p n' T (A (gt r))) {f : Nat → Int} (h : Sp p n S f) : Sp p n' T (A f) := by
  induction h with
  | @zero f h => exact .zero (h0 f h)
  | @add r f g c hr _ he ih => exact (ih.sum ((hST r hr).mul c)).al (hl f (gt r) c g he)

/-- The product with a polynomial, on rows. -/
def mulA (x : List Tm) (M M' : List Ex) (f : Nat → Int) (j : Nat) : Int := sumI M f fun b => lin x fun a => if addE a b = M'.getD j e0 then 1 else 0
theorem mulA_lin {p : Int} {x : List Tm} {M M' : List Ex} (f g : Nat → Int) (c : Int) (h : Nat → Int) (ha : Al p M.length h fun k => f k + c * g k) (n' : Nat) : Al p n' (mulA x M M' h) fun k => mulA x M M' f k + c * mulA x M M' g k := fun k _ => by
  unfold mulA
  show p ∣ _ - (sumI M f _ + c * sumI M g _)
  rw [← sumI_lin]
  exact sumI_al _ M ha
theorem mulA_zero {p : Int} {x : List Tm} {M M' : List Ex} (f : Nat → Int) (ha : Al p M.length f fun _ => 0) (n' : Nat) : Al p n' (mulA x M M' f) fun _ => 0 := fun k _ => by
  have := sumI_al (p := p) (fun b => lin x fun a => if addE a b = M'.getD k e0 then 1 else 0) M ha
  rw [sumI_zero] at this
  exact this
theorem mulA_sp {p : Int} {x : List Tm} {M M' : List Ex} {n' : Nat} {S T : List Int → Prop} (hST : ∀ r, S r → Sp p n' T (mulA x M M' (gt r))) {f : Nat → Int} (h : Sp p M.length S f) : Sp p n' T (mulA x M M' f) :=
  sp_map (fun f g c h ha => mulA_lin f g c h ha n') (fun f ha => mulA_zero f ha n') hST h
theorem gt_map {L : List Ex} {f : Ex → Int} {j : Nat} (hj : j < L.length) : gt (L.map f) j = f (L.getD j e0) := by
  unfold gt
  rw [List.getD_eq_getElem?_getD, List.getElem?_map, List.getD_eq_getElem?_getD, List.getElem?_eq_getElem hj]; rfl
theorem eqm_dvd {p x y : Int} (h : Eqm p x y) : p ∣ x - y := by
  obtain ⟨k, h⟩ := h
  exact ⟨k, by omega⟩
/-- The row of a product. -/
theorem row_mul {p d : Int} (hp : 0 < p) {n n' : Nat} (hn : n ≤ 12) {x y : List Tm} (hy : Can p y) (hh : AllE (HomE d n) y) :
    Al p (mons d n').length (gt (rowT d n' (mulT p x y))) (mulA x (mons d n) (mons d n') (gt (rowT d n y))) := fun j hj => by
  have hc := mulT_can hp x y
  unfold rowT
  rw [gt_map hj]
  unfold mulA
  rw [← lin_list _ (mons_nodup d n hn) (asc_nodup hy.1) (fun t ht => (mons_iff hn).2 (hh t ht)), ← lin_coef (asc_nodup hc.1), ← lin_swap]
  exact eqm_dvd (mulT_lin hp y _ x).2

/-- The coefficients that a row puts in, in order. -/
def rowG (es : List Ex) (r : List Int) : Nat → List (Ex × Int)
  | 0 => []
  | i + 1 => match es[i]? with
    | some e => sput (rowG es r i) e (gt r i)
    | none => rowG es r i
theorem rowG_step {es : List Ex} {r : List Int} {i : Nat} {e : Ex} (h : es[i]? = some e) : rowG es r (i + 1) = sput (rowG es r i) e (gt r i) := by simp only [rowG, h]
theorem rowG_ok {es : List Ex} (hn : es.Nodup) (r : List Int) : ∀ i, i ≤ es.length → ((rowG es r i).map (·.1)).Nodup ∧ (rowG es r i).length ≤ i ∧ (∀ j e, j < i → es[j]? = some e → sget (rowG es r i) e = gt r j) ∧ ∀ e, e ∉ es → sget (rowG es r i) e = 0
  | 0, _ => ⟨by simp [rowG], by simp [rowG], fun j e hj => by omega, fun e _ => rfl⟩
  | i + 1, hi => by
    obtain ⟨h1, h2, h3, h4⟩ := rowG_ok hn r i (by omega)
    obtain ⟨e, he⟩ : ∃ e, es[i]? = some e := ⟨es[i], List.getElem?_eq_getElem (by omega)⟩
    rw [rowG_step he]
    refine ⟨sput_nodup h1 _ _, Nat.le_trans (sput_length _ _ _) (by omega), fun j x hj hx => ?_, fun x hx => ?_⟩
    · rw [sget_sput]
      by_cases hij : j = i
      · subst hij
        rw [if_pos (Option.some.inj (hx.symm.trans he))]
      · rw [if_neg, h3 j x (by omega) hx]
        rintro rfl
        exact hij ((List.getElem?_inj (show j < es.length by omega) hn).1 (hx.trans he.symm))
    · rw [sget_sput, if_neg, h4 x hx]
      rintro rfl
      exact hx (List.mem_of_getElem? he)
/-- The polynomial of a row. -/
def ofRow (p d : Int) (n : Nat) (r : List Int) : List Tm := ofSum p (rowG (mons d n) r (mons d n).length)
theorem ofRow_ok {p d : Int} (hp : 0 < p) {n : Nat} (hn : n ≤ 12) {r : List Int} (hr : RowOk p (mons d n).length r) :
    Can p (ofRow p d n r) ∧ AllE (HomE d n) (ofRow p d n r) ∧ rowT d n (ofRow p d n r) = r := by
  obtain ⟨h1, h2, h3, h4⟩ := rowG_ok (mons_nodup d n hn) r (mons d n).length (Nat.le_refl _)
  obtain ⟨c1, c2⟩ := ofSum_can hp h1
  refine ⟨c1, fun t ht => ?_, ?_⟩
  · have hv := c1.2 t ht
    have h5 := coef_mem (asc_nodup c1.1) ht
    refine (mons_iff hn).1 (Classical.byContradiction fun hx => ?_)
    unfold ofRow at *
    rw [c2, h4 _ hx] at h5
    simp at h5
    omega
  · refine gt_ext (by rw [rowT, List.length_map, hr.1]) fun i hi => ?_
    rw [rowT, List.length_map] at hi
    unfold rowT
    rw [gt_map hi]
    unfold ofRow
    rw [c2, h3 i _ hi (by rw [List.getD_eq_getElem?_getD, List.getElem?_eq_getElem hi]; rfl)]
    have := gt_range hp hr i
    exact Int.emod_eq_of_lt this.1 this.2
end Go.Sm

namespace Go.Sm
open Go.RowKit

/-- One more at a place. -/
def incE : Nat → List Int → List Int
  | _, [] => []
  | 0, k :: r => (k + 1) :: r
  | i + 1, k :: r => k :: incE i r
theorem expsG_in {F : Nat → List (List Int)} {d n k : Nat} {s : List Int} : ∀ {m : Nat}, k < m → s ∈ F (n - k * d) → (k : Int) :: s ∈ expsG F d n m
  | 0, h, _ => by omega
  | m + 1, h, hs => by
    simp only [expsG, List.mem_append, List.mem_map]
    by_cases hk : k = m
    · subst hk; exact .inl ⟨s, hs, rfl⟩
    · exact .inr (expsG_in (by omega) hs)
theorem expsL_in : ∀ {ds : List Nat} {n : Nat} {r : List Int}, (∀ d ∈ ds, 1 ≤ d) → r.length = ds.length → degL ds r = n → (∀ x ∈ r, 0 ≤ x) → r ∈ expsL ds n
  | [], n, r, _, hl, hn, _ => by
    have : r = [] := List.length_eq_zero_iff.1 hl
    subst this
    have : n = 0 := by rw [← hn]; rfl
    subst this
    simp [expsL]
  | d :: ds, n, [], _, hl, _, _ => by simp at hl
  | d :: ds, n, k :: s, hd, hl, hn, h0 => by
    have hk := h0 k (by simp)
    obtain ⟨K, rfl⟩ : ∃ K : Nat, k = K := ⟨k.toNat, by omega⟩
    have hd1 := hd d (by simp)
    simp only [degL, Int.toNat_natCast] at hn
    have h1 := expsL_in (ds := ds) (n := n - K * d) (fun x hx => hd x (by simp [hx])) (by simpa using hl) (by omega) (fun x hx => h0 x (by simp [hx]))
    have h2 : K ≤ n / d := (Nat.le_div_iff_mul_le hd1).2 (by omega)
    exact expsG_in (by omega) h1
theorem incE_facts : ∀ {ds : List Nat} {r : List Int} {i d : Nat}, ds[i]? = some d → r.length = ds.length → (∀ x ∈ r, 0 ≤ x) →
    (incE i r).length = r.length ∧ degL ds (incE i r) = degL ds r + d ∧ ∀ x ∈ incE i r, 0 ≤ x
  | [], _, _, _, h, _, _ => by simp at h
  | a :: ds, [], _, _, _, h, _ => by simp at h
  | a :: ds, k :: r, 0, d, h, hl, h0 => by
    have hk := h0 k (by simp)
    simp only [List.getElem?_cons_zero, Option.some.injEq] at h
    subst h
    refine ⟨rfl, ?_, fun x hx => ?_⟩
    · simp only [incE, degL]
      have : (k + 1).toNat = k.toNat + 1 := by omega
      rw [this, Nat.succ_mul]; omega
    · rcases List.mem_cons.1 hx with rfl | hx
      · omega
      · exact h0 x (by simp [hx])
  | a :: ds, k :: r, i + 1, d, h, hl, h0 => by
    have hk := h0 k (by simp)
    simp only [List.getElem?_cons_succ] at h
    obtain ⟨h1, h2, h3⟩ := incE_facts h (r := r) (by simpa using hl) (fun x hx => h0 x (by simp [hx]))
    refine ⟨by simp [incE, h1], ?_, fun x hx => ?_⟩
    · simp only [incE, degL]; omega
    · rcases List.mem_cons.1 hx with rfl | hx
      · exact hk
      · exact h3 x hx
theorem decE : ∀ {ds : List Nat} {r : List Int}, r.length = ds.length → (∀ x ∈ r, 0 ≤ x) → 1 ≤ degL ds r →
    ∃ i d r', ds[i]? = some d ∧ r = incE i r' ∧ r'.length = ds.length ∧ (∀ x ∈ r', 0 ≤ x) ∧ degL ds r = degL ds r' + d
  | [], _, _, _, h => by simp [degL] at h
  | a :: ds, [], h, _, _ => by simp at h
  | a :: ds, k :: r, hl, h0, h1 => by
    have hk := h0 k (by simp)
    by_cases hk0 : k = 0
    · subst hk0
      simp only [degL, Int.toNat_zero, Nat.zero_mul, Nat.zero_add] at h1
      obtain ⟨i, d, r', g1, g2, g3, g4, g5⟩ := decE (r := r) (by simpa using hl) (fun x hx => h0 x (by simp [hx])) h1
      refine ⟨i + 1, d, 0 :: r', by simpa using g1, by rw [g2]; rfl, by simp [g3], fun x hx => ?_, ?_⟩
      · rcases List.mem_cons.1 hx with rfl | hx
        · omega
        · exact g4 x hx
      · simp only [degL]; omega
    · refine ⟨0, a, (k - 1) :: r, rfl, by simp [incE], by simpa using hl, fun x hx => ?_, ?_⟩
      · rcases List.mem_cons.1 hx with rfl | hx
        · omega
        · exact h0 x (by simp [hx])
      · simp only [degL]
        have : k.toNat = (k - 1).toNat + 1 := by omega
        rw [this, Nat.succ_mul]; omega

theorem timesT_mul {p : Int} (hp : 0 < p) (y z : List Tm) : ∀ (k : Nat) (a : List Tm), timesT p y k (mulT p a z) = mulT p (timesT p y k a) z
  | 0, _ => rfl
  | k + 1, a => by
    show timesT p y k (mulT p (mulT p a z) y) = mulT p (timesT p y k (mulT p a y)) z
    rw [← timesT_mul hp y z k, ← mulT_assoc hp, ← mulT_assoc hp, mulT_comm hp z y]
theorem prodL_mul {p : Int} (hp : 0 < p) (z : List Tm) : ∀ (ys : List Pl) (e : List Int) (a : List Tm), prodL p ys e (mulT p a z) = mulT p (prodL p ys e a) z
  | [], _, _ => by simp [prodL]
  | _ :: _, [], _ => by simp [prodL]
  | y :: ys, k :: e, a => by
    simp only [prodL]
    rw [timesT_mul hp, prodL_mul hp z ys e]
/-- One factor more. -/
theorem prodL_inc {p : Int} (hp : 0 < p) : ∀ {ys : List Pl} {e : List Int} {i : Nat} {y : Pl} (a : List Tm), ys[i]? = some y → e.length = ys.length → (∀ x ∈ e, 0 ≤ x) → prodL p ys (incE i e) a = mulT p (prodL p ys e a) y.ts
  | [], _, _, _, _, h, _, _ => by simp at h
  | _ :: _, [], _, _, _, _, h, _ => by simp at h
  | y :: ys, k :: e, 0, z, a, h, hl, h0 => by
    have hk := h0 k (by simp)
    simp only [List.getElem?_cons_zero, Option.some.injEq] at h
    subst h
    simp only [incE, prodL]
    rw [show (k + 1).toNat = k.toNat + 1 by omega, timesT_succ, prodL_mul hp]
  | y :: ys, k :: e, i + 1, z, a, h, hl, h0 => by
    simp only [List.getElem?_cons_succ] at h
    simp only [incE, prodL]
    exact prodL_inc hp _ h (by simpa using hl) (fun x hx => h0 x (by simp [hx]))

theorem timesT_hom {p d : Int} {y : List Tm} {m : Nat} (hy : AllE (HomE d m) y) : ∀ (k : Nat) {n : Nat} {a : List Tm}, AllE (HomE d n) a → n + k * m ≤ 255 → AllE (HomE d (n + k * m)) (timesT p y k a)
  | 0, n, a, ha, _ => by simpa [timesT] using ha
  | k + 1, n, a, ha, h => by
    rw [Nat.succ_mul] at h
    have h1 := mulT_hom (p := p) ha hy (by omega)
    have h2 := timesT_hom (p := p) hy k h1 (by omega)
    rw [Nat.succ_mul, show n + (k * m + m) = n + m + k * m by omega]
    exact h2
/-- All polynomials of a list are homogeneous. -/
def HL (d : Int) (ys : List Pl) : Prop := ∀ y ∈ ys, AllE (HomE d (dgP y)) y.ts
theorem prodL_hom {p d : Int} : ∀ (ys : List Pl) (e : List Int) {n : Nat} {a : List Tm}, HL d ys → AllE (HomE d n) a → n + degL (ys.map dgP) e ≤ 255 → AllE (HomE d (n + degL (ys.map dgP) e)) (prodL p ys e a)
  | [], _, n, a, _, ha, _ => by simpa [prodL, degL] using ha
  | _ :: _, [], n, a, _, ha, _ => by simpa [prodL, degL] using ha
  | y :: ys, k :: e, n, a, hy, ha, h => by
    simp only [List.map_cons, degL] at h ⊢
    have h1 := timesT_hom (p := p) (hy y (by simp)) k.toNat ha (by omega)
    have h2 := prodL_hom (p := p) ys e (fun z hz => hy z (by simp [hz])) h1 (by omega)
    rw [← Nat.add_assoc]
    exact h2
theorem hom_of {p d : Int} {ts : List Tm} (hg : GoodP p d ts) (hh : HomP ts) (h1 : 1 ≤ degT ts) : AllE (HomE d (dg ts)) ts := fun t ht => by
  refine ⟨dg_all hg t ht, ?_⟩
  have ha := hg.2.2.2
  have hm := degT_max ha t ht
  have hdg : ((dg ts : Nat) : Int) = degT ts := by unfold dg; omega
  cases ts with
  | nil => cases ht
  | cons u us =>
    have h2 := homP_cons.1 hh
    rw [hdg]
    rcases List.mem_cons.1 ht with rfl | h3
    · exact h2
    · have h4 := cmpE_deg ((List.pairwise_cons.1 ha).1 t h3)
      omega

/-- The rows of the products of a list with spaces of lesser degrees. -/
def genRows (p d : Int) (ys : List Pl) (G : Nat → List (List Int)) (k : Nat) : List (List Int) :=
  ys.flatMap fun x => if k < dgP x then [] else (G (k - dgP x)).map fun r => rowT d k (mulT p x.ts (ofRow p d (k - dgP x) r))
/-- What is generated in the degrees up to k. -/
def genS (p d : Int) (ys : List Pl) : Nat → List (List (List Int))
  | 0 => [[[1]]]
  | k + 1 => genS p d ys k ++ [echL p (genRows p d ys (fun j => (genS p d ys k).getD j []) (k + 1))]
def genAt (p d : Int) (ys : List Pl) (k : Nat) : List (List Int) := (genS p d ys k).getD k []
theorem genS_len (p d : Int) (ys : List Pl) : ∀ k, (genS p d ys k).length = k + 1
  | 0 => rfl
  | k + 1 => by rw [genS, List.length_append, genS_len p d ys k]; rfl
theorem genS_at (p d : Int) (ys : List Pl) {j : Nat} : ∀ {k : Nat}, j ≤ k → (genS p d ys k).getD j [] = genAt p d ys j
  | 0, h => by
    have : j = 0 := by omega
    subst this; rfl
  | k + 1, h => by
    by_cases hj : j = k + 1
    · subst hj; rfl
    · rw [← genS_at p d ys (k := k) (by omega), genS, List.getD_eq_getElem?_getD, List.getD_eq_getElem?_getD, List.getElem?_append_left (by rw [genS_len]; omega)]
theorem genRows_congr {p d : Int} {ys : List Pl} {F G : Nat → List (List Int)} {k : Nat} (hd : ∀ y ∈ ys, 1 ≤ dgP y) (h : ∀ j < k, F j = G j) : genRows p d ys F k = genRows p d ys G k := by
  have key : ∀ zs : List Pl, (∀ y ∈ zs, 1 ≤ dgP y) → (zs.flatMap fun x => if k < dgP x then [] else (F (k - dgP x)).map fun r => rowT d k (mulT p x.ts (ofRow p d (k - dgP x) r))) = zs.flatMap fun x => if k < dgP x then [] else (G (k - dgP x)).map fun r => rowT d k (mulT p x.ts (ofRow p d (k - dgP x) r)) := by
    intro zs
    induction zs with
    | nil => intro _; rfl
    | cons z zs ih =>
      intro hz
      have h1 := hz z (by simp)
      rw [List.flatMap_cons, List.flatMap_cons, ih fun y hy => hz y (by simp [hy])]
      by_cases hk : k < dgP z
      · rw [if_pos hk, if_pos hk]
      · rw [if_neg hk, if_neg hk, h (k - dgP z) (by omega)]
  exact key ys hd
theorem genAt_succ (p d : Int) (ys : List Pl) (hd : ∀ y ∈ ys, 1 ≤ dgP y) (k : Nat) : genAt p d ys (k + 1) = echL p (genRows p d ys (genAt p d ys) (k + 1)) := by
  unfold genAt
  rw [genS, List.getD_eq_getElem?_getD, List.getElem?_append_right (by rw [genS_len]; omega), genS_len, Nat.sub_self]
  show echL p _ = _
  rw [genRows_congr hd fun j hj => genS_at p d ys (by omega)]
  rfl
theorem mem_genRows {p d : Int} {ys : List Pl} {G : Nat → List (List Int)} {k : Nat} {r : List Int} : r ∈ genRows p d ys G k ↔ ∃ x ∈ ys, dgP x ≤ k ∧ ∃ q ∈ G (k - dgP x), r = rowT d k (mulT p x.ts (ofRow p d (k - dgP x) q)) := by
  unfold genRows
  rw [List.mem_flatMap]
  constructor
  · rintro ⟨x, hx, h⟩
    split at h
    · cases h
    · obtain ⟨q, hq, rfl⟩ := List.mem_map.1 h
      exact ⟨x, hx, by omega, q, hq, rfl⟩
  · rintro ⟨x, hx, hk, q, hq, rfl⟩
    exact ⟨x, hx, by rw [if_neg (by omega)]; exact List.mem_map.2 ⟨q, hq, rfl⟩⟩

theorem mons_zero (d : Int) : mons d 0 = [e0] := by
  have h : inD d 0 0 := ⟨fun h => by omega, fun h => by omega⟩
  simp [mons, downTo, monRow, h, mkE, by8]
theorem row_one (d : Int) : rowT d 0 one1 = [1] := by
  unfold rowT
  rw [mons_zero]
  rfl

/-- What is generated is what the products span. -/
theorem gen_span {p d : Int} (hp : Pr p) {ys : List Pl} (hg : GL p d ys) (hh : HL d ys) (hd1 : ∀ y ∈ ys, 1 ≤ dgP y) : ∀ (m k : Nat), k ≤ m → k ≤ 12 →
    genAt p d ys k = echL p (relRows p d ys k (expsL (ys.map dgP) k))
  | m, 0, _, _ => by
    have hpp := hp.pos
    have hds : ∀ x ∈ ys.map dgP, 1 ≤ x := fun x hx => by obtain ⟨y, hy, rfl⟩ := List.mem_map.1 hx; exact hd1 y hy
    have hR : Red p 1 [[1]] := ⟨fun r hr => by rw [List.mem_singleton] at hr; subst hr; exact ⟨⟨rfl, fun x hx => by rw [List.mem_singleton] at hx; omega⟩, rfl⟩, List.pairwise_singleton _ _⟩
    have hrr := relRows_row (d := d) hpp.1 hg hd1 (n := 0) (by omega)
    have hz : ∀ e ∈ expsL (ys.map dgP) 0, rowT d 0 (prodL p ys e one1) = [1] := fun e he => by
      obtain ⟨_, _, h3⟩ := expsL_mem hds he
      have h4 : ∀ (zs : List Pl) (r : List Int) (a : List Tm), (∀ x ∈ r, 0 ≤ x ∧ x ≤ ((0 : Nat) : Int)) → prodL p zs r a = a := by
        intro zs
        induction zs with
        | nil => intro r a _; simp [prodL]
        | cons z zs ih =>
          intro r a h
          cases r with
          | nil => simp [prodL]
          | cons k r =>
            have hk := h k (by simp)
            have : k = 0 := by omega
            subst this
            simp only [prodL]
            exact ih r a fun x hx => h x (by simp [hx])
      rw [h4 ys e one1 h3, row_one]
    have hin : List.replicate ys.length (0 : Int) ∈ expsL (ys.map dgP) 0 := expsL_in hds (by simp) (by
      have : ∀ zs : List Nat, degL zs (List.replicate zs.length 0) = 0 := by
        intro zs
        induction zs with
        | nil => rfl
        | cons z zs ih => simp only [List.length_cons, List.replicate_succ, degL, ih]; simp
      have := this (ys.map dgP)
      rwa [List.length_map] at this) (fun x hx => by rw [List.eq_of_mem_replicate hx]; omega)
    have e1 : genAt p d ys 0 = [[1]] := rfl
    have hw : (mons d 0).length = 1 := by rw [mons_zero]; rfl
    rw [hw] at hrr
    rw [e1, ← ech_id hp hR (List.pairwise_singleton _ _)]
    refine ech_unique hp (fun r hr => (hR.1 r hr).1) hrr (fun r hr => ?_) (fun r hr => ?_)
    · rw [List.mem_singleton] at hr; subst hr
      exact .one (List.mem_map.2 ⟨_, hin, hz _ hin⟩)
    · obtain ⟨e, he, rfl⟩ := List.mem_map.1 hr
      rw [hz e he]
      exact .one (List.mem_singleton.2 rfl)
  | 0, k + 1, h, _ => by omega
  | m + 1, k + 1, hkm, hk => by
    have hpp := hp.pos
    have hp0 : 0 < p := by omega
    have hds : ∀ x ∈ ys.map dgP, 1 ≤ x := fun x hx => by obtain ⟨y, hy, rfl⟩ := List.mem_map.1 hx; exact hd1 y hy
    have hrr := fun n (hn : n ≤ 12) => relRows_row (d := d) hpp.1 hg hd1 (n := n) hn
    have ih := fun j (hj : j ≤ k) => gen_span hp hg hh hd1 m j (by omega) (by omega)
    have hP : ∀ {n : Nat}, n ≤ 12 → ∀ e ∈ expsL (ys.map dgP) n, Can p (prodL p ys e one1) ∧ AllE (HomE d n) (prodL p ys e one1) ∧ e.length = ys.length ∧ (∀ x ∈ e, 0 ≤ x) ∧ degL (ys.map dgP) e = n := fun {n} hn e he => by
      obtain ⟨h1, h2, h3⟩ := expsL_mem hds he
      rw [List.length_map] at h1
      refine ⟨(prodL_good hpp.1 hg (by omega)).1, ?_, h1, fun x hx => (h3 x hx).1, h2⟩
      have := prodL_hom (p := p) ys e hh (one_hom d) (by omega)
      rwa [h2, Nat.zero_add] at this
    have hG : ∀ j ≤ k, ∀ r ∈ genAt p d ys j, RowOk p (mons d j).length r := fun j hj r hr => by
      rw [ih j hj] at hr
      exact (ech_facts hp (hrr j (by omega))).2 r hr
    have hgr : ∀ r ∈ genRows p d ys (genAt p d ys) (k + 1), RowOk p (mons d (k + 1)).length r := fun r hr => by
      obtain ⟨x, hx, _, q, _, rfl⟩ := mem_genRows.1 hr
      exact rowT_ok hp0 _ (mulT_can hp0 _ _)
    rw [genAt_succ p d ys hd1 k]
    refine ech_unique hp hgr (hrr (k + 1) hk) (fun r hr => ?_) (fun r hr => ?_)
    · obtain ⟨x, hx, hxk, q, hq, rfl⟩ := mem_genRows.1 hr
      have hx1 := hd1 x hx
      have hj : k + 1 - dgP x ≤ k := by omega
      obtain ⟨o1, o2, o3⟩ := ofRow_ok (d := d) hp0 (n := k + 1 - dgP x) (by omega) (hG _ hj q hq)
      have h1 := row_mul (d := d) hp0 (n := k + 1 - dgP x) (n' := k + 1) (by omega) (x := x.ts) o1 o2
      rw [o3] at h1
      rw [ih _ hj] at hq
      have h2 := (ech_sp hp (hrr (k + 1 - dgP x) (by omega))).2 q hq
      refine (mulA_sp (x := x.ts) (M' := mons d (k + 1)) (n' := (mons d (k + 1)).length) (fun s hs => ?_) h2).al h1
      obtain ⟨e, he, rfl⟩ := List.mem_map.1 hs
      obtain ⟨i, hi⟩ := List.getElem?_of_mem hx
      obtain ⟨p1, p2, p3, p4, p5⟩ := hP (by omega) e he
      have h3 := row_mul (d := d) hp0 (n := k + 1 - dgP x) (n' := k + 1) (by omega) (x := x.ts) p1 p2
      obtain ⟨f1, f2, f3⟩ := incE_facts (ds := ys.map dgP) (i := i) (d := dgP x) (by rw [List.getElem?_map, hi]; rfl) (by rw [p3, List.length_map]) p4
      have h4 := prodL_inc hp0 one1 hi p3 p4
      rw [mulT_comm hp0] at h4
      refine (Sp.one (S := (· ∈ relRows p d ys (k + 1) (expsL (ys.map dgP) (k + 1)))) (r := rowT d (k + 1) (prodL p ys (incE i e) one1)) (List.mem_map.2 ⟨_, expsL_in hds (by rw [f1, p3, List.length_map]) (by rw [f2, p5]; omega) f3, rfl⟩)).al ?_
      rw [h4]
      exact h3.symm
    · obtain ⟨e, he, rfl⟩ := List.mem_map.1 hr
      obtain ⟨_, _, p3, p4, p5⟩ := hP hk e he
      obtain ⟨i, dx, e', g1, rfl, g3, g4, g5⟩ := decE (ds := ys.map dgP) (r := e) (by rw [p3, List.length_map]) p4 (by omega)
      rw [List.getElem?_map] at g1
      obtain ⟨x, hi, rfl⟩ := Option.map_eq_some_iff.1 g1
      have hx := List.mem_of_getElem? hi
      have hx1 := hd1 x hx
      rw [List.length_map] at g3
      have hj : k + 1 - dgP x ≤ k := by omega
      have he' : e' ∈ expsL (ys.map dgP) (k + 1 - dgP x) := expsL_in hds (by rw [g3, List.length_map]) (by omega) g4
      obtain ⟨p1, p2, _, _, _⟩ := hP (by omega) e' he'
      have h3 := row_mul (d := d) hp0 (n := k + 1 - dgP x) (n' := k + 1) (by omega) (x := x.ts) p1 p2
      have h4 := prodL_inc hp0 one1 hi g3 g4
      rw [mulT_comm hp0] at h4
      rw [h4]
      have h2 := (ech_sp hp (hrr (k + 1 - dgP x) (by omega))).1 _ (List.mem_map.2 ⟨e', he', rfl⟩)
      rw [← ih _ hj] at h2
      refine (mulA_sp (x := x.ts) (M' := mons d (k + 1)) (n' := (mons d (k + 1)).length) (fun q hq => ?_) h2).al h3
      obtain ⟨o1, o2, o3⟩ := ofRow_ok (d := d) hp0 (n := k + 1 - dgP x) (by omega) (hG _ hj q hq)
      have h1 := row_mul (d := d) hp0 (n := k + 1 - dgP x) (n' := k + 1) (by omega) (x := x.ts) o1 o2
      rw [o3] at h1
      exact (Sp.one (S := (· ∈ genRows p d ys (genAt p d ys) (k + 1))) (mem_genRows.2 ⟨x, hx, by omega, q, hq, rfl⟩)).al h1.symm
end Go.Sm

namespace Go.Sm

theorem red_le {p : Int} {n : Nat} {L : List (List Int)} (h : Red p n L) : L.length ≤ n := by
  have h1 : (L.map leadN).Nodup := by
    have h2 := h.2
    have h3 := h.1
    clear h
    induction L with
    | nil => exact List.nodup_nil
    | cons r L ih =>
      obtain ⟨a, b⟩ := List.pairwise_cons.1 h2
      rw [List.map_cons]
      refine List.nodup_cons.2 ⟨fun hm => ?_, ih b fun q hq => h3 q (List.mem_cons_of_mem _ hq)⟩
      obtain ⟨q, hq, e⟩ := List.mem_map.1 hm
      have h4 := (h3 q (List.mem_cons_of_mem _ hq)).2
      rw [e, (a q hq).1] at h4
      omega
  have h2 : ∀ x ∈ L.map leadN, x ∈ List.range n := fun x hx => by
    obtain ⟨r, hr, rfl⟩ := List.mem_map.1 hx
    obtain ⟨h4, h5⟩ := h.1 r hr
    refine List.mem_range.2 (Classical.byContradiction fun hc => ?_)
    have : gt r (leadN r) = 0 := by
      unfold gt
      rw [List.getD_eq_getElem?_getD, List.getElem?_eq_none (by rw [h4.1]; omega)]; rfl
    omega
  have h3 := nodup_subset h1 h2
  rwa [List.length_map, List.length_range] at h3
theorem ech_le {p : Int} {n : Nat} (hp : Pr p) {rows : List (List Int)} (h : ∀ r ∈ rows, RowOk p n r) : (echL p rows).length ≤ n := by
  have hb := both_ok hp rows (both_nil p n) h
  exact red_le (hb.1.perm hb.2.1.symm)
theorem gen_row {p d : Int} (hp : Pr p) {ys : List Pl} (hg : GL p d ys) (hh : HL d ys) (hd1 : ∀ y ∈ ys, 1 ≤ dgP y) {k : Nat} (hk : k ≤ 12) :
    (genAt p d ys k).length ≤ (mons d k).length ∧ ∀ r ∈ genAt p d ys k, RowOk p (mons d k).length r := by
  rw [gen_span hp hg hh hd1 k k (Nat.le_refl _) hk]
  have h := relRows_row (d := d) hp.pos.1 hg hd1 hk
  exact ⟨ech_le hp h, (ech_facts hp h).2⟩
/-- The rows of one polynomial of the list. -/
def genOne (p d : Int) (x : Pl) (A : List (List Int)) (k : Nat) : List (List Int) := A.map fun r => rowT d k (mulT p x.ts (ofRow p d (k - dgP x) r))
theorem genRows_step {p d : Int} {ys : List Pl} {i : Nat} {x : Pl} {G : Nat → List (List Int)} {k : Nat} (h : ys[i]? = some x) :
    genRows p d (ys.take (i + 1)) G k = genRows p d (ys.take i) G k ++ if k < dgP x then [] else genOne p d x (G (k - dgP x)) k := by
  unfold genRows genOne
  rw [List.take_add_one, h]
  simp
theorem genOne_step {p d : Int} {x : Pl} {A : List (List Int)} {k j : Nat} {r : List Int} (h : A[j]? = some r) :
    genOne p d x (A.take (j + 1)) k = genOne p d x (A.take j) k ++ [rowT d k (mulT p x.ts (ofRow p d (k - dgP x) r))] := by
  unfold genOne
  rw [List.take_add_one, h]
  simp
theorem genRows_le {p d : Int} (hp : Pr p) {ys : List Pl} (hg : GL p d ys) (hh : HL d ys) (hd1 : ∀ y ∈ ys, 1 ≤ dgP y) {k : Nat} (hk : k ≤ 12) :
    ∀ {i : Nat}, i ≤ ys.length → (genRows p d (ys.take i) (genAt p d ys) k).length ≤ i * 169 ∧ ∀ r ∈ genRows p d (ys.take i) (genAt p d ys) k, RowOk p (mons d k).length r := by
  intro i
  induction i with
  | zero => intro _; simp [genRows]
  | succ i ih =>
    intro hi
    obtain ⟨h1, h2⟩ := ih (by omega)
    obtain ⟨x, hx⟩ : ∃ x, ys[i]? = some x := ⟨ys[i], List.getElem?_eq_getElem (by omega)⟩
    rw [genRows_step hx]
    by_cases hc : k < dgP x
    · rw [if_pos hc, List.append_nil]; exact ⟨by omega, h2⟩
    · rw [if_neg hc]
      have h3 := (gen_row hp hg hh hd1 (k := k - dgP x) (by omega)).1
      have h4 := mons_len d (k - dgP x) (by omega)
      refine ⟨by rw [List.length_append, genOne, List.length_map]; omega, fun r hr => ?_⟩
      rcases List.mem_append.1 hr with hr | hr
      · exact h2 r hr
      · obtain ⟨q, _, rfl⟩ := List.mem_map.1 hr
        exact rowT_ok (by have := hp.pos.1; omega) _ (mulT_can (by have := hp.pos.1; omega) _ _)
/-- The polynomials of a degree that are generated. -/
def genP (p d : Int) (ys : List Pl) (k : Nat) : List Pl := (genAt p d ys k).map fun r => ⟨p, d, ofRow p d k r⟩
theorem genP_zero (p d : Int) (ys : List Pl) : genP p d ys 0 = [⟨p, d, ofSum p [(⟨0, 0, 0⟩, 1)]⟩] := by
  have e : genAt p d ys 0 = [[1]] := rfl
  unfold genP ofRow
  rw [e, mons_zero]
  rfl
theorem genP_len (p d : Int) (ys : List Pl) (k : Nat) : (genP p d ys k).length = (genAt p d ys k).length := by rw [genP, List.length_map]
theorem genP_at {p d : Int} {ys : List Pl} {k j : Nat} {r : List Int} (h : (genAt p d ys k)[j]? = some r) : (genP p d ys k)[j]? = some ⟨p, d, ofRow p d k r⟩ := by
  rw [genP, List.getElem?_map, h]; rfl
end Go.Sm
