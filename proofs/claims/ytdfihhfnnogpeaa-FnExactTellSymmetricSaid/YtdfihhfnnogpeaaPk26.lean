/- Towards the rows of this seat: what the functions do, as contracts over plain data. -/
import Derived.Test.YtdfihhfnnogpeaaPk21
import Derived.Test.YtdfihhfnnogpeaaPk17
import Derived.Test.YtdfihhfnnogpeaaPk24
namespace Go.Sm

/-- Terms of which one is the greatest, with the coefficient 1. -/
structure Lead (W : Ex → Nat) (p : Int) (ts : List Tm) (x : Ex) : Prop where
  can : Can p ts
  one : coef ts x = 1
  max : ∀ u ∈ ts, W u.e ≤ W x
theorem Lead.mem {W : Ex → Nat} {p : Int} {ts : List Tm} {x : Ex} (h : Lead W p ts x) : ∃ t ∈ ts, t.e = x := coef_ne_mem (by rw [h.one]; decide)
theorem Lead.unit {W : Ex → Nat} {p : Int} (hp : 2 ≤ p) : Lead W p [⟨e0, 1⟩] e0 := ⟨one_can hp, by simp [coef], fun u hu => by rw [List.mem_singleton] at hu; rw [hu]; exact Nat.le_refl _⟩
theorem Lead.mul {W : Ex → Nat} (hW : IsW W) {p : Int} (hp : 2 ≤ p) {xs ys : List Tm} {x y : Ex} (hx : Lead W p xs x) (hy : Lead W p ys y) {d : Int} {n m : Nat} (dx : AllE (DegLe d n) xs) (dy : AllE (DegLe d m) ys) (hnm : n + m ≤ 255) :
    Lead W p (mulT p xs ys) (addE x y) := by
  obtain ⟨tx, htx, rfl⟩ := hx.mem
  obtain ⟨ty, hty, rfl⟩ := hy.mem
  have had : ∀ t ∈ xs, ∀ u ∈ ys, W (addE t.e u.e) = W t.e + W u.e := fun t ht u hu => hW.add _ _ (by have := (dx t ht).2.2; have := (dy u hu).2.2; omega)
  have hc := mulT_can (p := p) (by omega) xs ys
  refine ⟨hc, ?_, ?_⟩
  · have h1 := (mulT_lin (p := p) (by omega) ys (fun e => if e = addE tx.e ty.e then 1 else 0) xs).2
    rw [lin_coef (asc_nodup hc.1)] at h1
    rw [lin_filter _ tx.e (asc_nodup hx.can.1), hx.one] at h1
    rw [lin_none (ts := xs.filter fun t => t.e ≠ tx.e)] at h1
    · have e1 : (fun y : Ex => if addE tx.e y = addE tx.e ty.e then (1 : Int) else 0) = fun y => if y = ty.e then 1 else 0 := by
        funext y
        by_cases h : y = ty.e
        · rw [h, if_pos rfl, if_pos rfl]
        · rw [if_neg h, if_neg (fun q => h (addE_cancel q))]
      rw [e1, lin_coef (asc_nodup hy.can.1), hy.one] at h1
      exact h1.eq (coef_bound (by omega) hc _) (by omega)
    · intro t ht
      rw [List.mem_filter] at ht
      obtain ⟨ht, hne⟩ := ht
      refine lin_none fun u hu => if_neg fun heq => ?_
      have h2 := had t ht u hu
      rw [heq, had tx htx ty hty] at h2
      have h3 := hx.max t ht
      have h4 := hy.max u hu
      have h5 : t.e = tx.e := hW.inj _ _ (by omega)
      simp [h5] at hne
  · exact mulT_all (Q := fun e => W e ≤ W (addE tx.e ty.e)) fun t h1 u h2 => by
      rw [had t h1 u h2, had tx htx ty hty]
      have := hx.max t h1
      have := hy.max u h2
      omega

/-- n times an exponent. -/
def mulE (y : Ex) : Nat → Ex
  | 0 => e0
  | n + 1 => addE (mulE y n) y
theorem Lead.times {W : Ex → Nat} (hW : IsW W) {p : Int} (hp : 2 ≤ p) {ys : List Tm} {y : Ex} (hy : Lead W p ys y) {d : Int} {m : Nat} (dy : AllE (DegLe d m) ys) {xs : List Tm} {x : Ex} (hx : Lead W p xs x) {n : Nat} (dx : AllE (DegLe d n) xs) :
    ∀ k : Nat, n + k * m ≤ 255 → Lead W p (timesT p ys k xs) (addE x (mulE y k))
  | 0, _ => by rw [mulE, addE_zero]; exact hx
  | k + 1, h => by
    rw [Nat.succ_mul] at h
    rw [timesT_succ, mulE, ← addE_assoc]
    exact (Lead.times hW hp hy dy hx dx k (by omega)).mul hW hp hy (timesT_facts hp dy k hx.can dx (by omega)).2 dy (by omega)

/-! ### the elementary polynomials -/
abbrev eT (p : Int) (d k : Nat) : List Tm := (elemP p d k).ts
theorem eT_coef {p : Int} (hp : 2 ≤ p) (d k : Nat) (e : Ex) : coef (eT p d k) e = if e ∈ permsE d (elemE (k + 1)) then 1 else 0 := by
  obtain ⟨g1, _, g3⟩ := sumOf_ok (permsE d (elemE (k + 1)))
  obtain ⟨h1, h2⟩ := ofSum_can (p := p) (by omega) g1
  show coef (ofSum p (sumOf (permsE d (elemE (k + 1))))) e = _
  rw [h2, g3]
  split
  · exact Int.emod_eq_of_lt (by omega) (by omega)
  · simp
theorem eT_can {p : Int} (hp : 2 ≤ p) (d k : Nat) : Can p (eT p d k) := by
  obtain ⟨g1, _, _⟩ := sumOf_ok (permsE d (elemE (k + 1)))
  exact (ofSum_can (p := p) (by omega) g1).1
theorem eT_mem {p : Int} (hp : 2 ≤ p) {d k : Nat} {t : Tm} (ht : t ∈ eT p d k) : t.e ∈ permsE d (elemE (k + 1)) := by
  have h1 := coef_mem (asc_nodup (eT_can hp d k).1) ht
  rw [eT_coef hp] at h1
  have h2 := (eT_can hp d k).2 t ht
  by_cases h : t.e ∈ permsE d (elemE (k + 1))
  · exact h
  · rw [if_neg h] at h1; omega
theorem dk_cases {d k : Nat} (hd : 1 ≤ d ∧ d ≤ 3) (hk : k < d) : (d = 1 ∧ k = 0) ∨ (d = 2 ∧ k = 0) ∨ (d = 2 ∧ k = 1) ∨ (d = 3 ∧ k = 0) ∨ (d = 3 ∧ k = 1) ∨ (d = 3 ∧ k = 2) := by omega
theorem eT_deg {p : Int} (hp : 2 ≤ p) {d k : Nat} (hd : 1 ≤ d ∧ d ≤ 3) (hk : k < d) : AllE (DegLe d (k + 1)) (eT p d k) := by
  intro t ht
  have h := eT_mem hp ht
  revert h
  generalize t.e = e
  revert e
  unfold DegLe
  rcases dk_cases hd hk with ⟨rfl, rfl⟩ | ⟨rfl, rfl⟩ | ⟨rfl, rfl⟩ | ⟨rfl, rfl⟩ | ⟨rfl, rfl⟩ | ⟨rfl, rfl⟩ <;> decide
theorem eT_lead {W : Ex → Nat} (hW : W = wL ∨ W = wG) {p : Int} (hp : 2 ≤ p) {d k : Nat} (hd : 1 ≤ d ∧ d ≤ 3) (hk : k < d) : Lead W p (eT p d k) (elemE (k + 1)) := by
  refine ⟨eT_can hp d k, ?_, fun u hu => ?_⟩
  · rw [eT_coef hp, if_pos]
    rcases dk_cases hd hk with ⟨rfl, rfl⟩ | ⟨rfl, rfl⟩ | ⟨rfl, rfl⟩ | ⟨rfl, rfl⟩ | ⟨rfl, rfl⟩ | ⟨rfl, rfl⟩ <;> decide
  · have h := eT_mem hp hu
    revert h
    generalize u.e = e
    intro h
    rcases dk_cases hd hk with ⟨rfl, rfl⟩ | ⟨rfl, rfl⟩ | ⟨rfl, rfl⟩ | ⟨rfl, rfl⟩ | ⟨rfl, rfl⟩ | ⟨rfl, rfl⟩ <;>
      simp only [permsE, List.mem_cons, List.not_mem_nil, or_false] at h <;> rcases hW with rfl | rfl
    all_goals
      first
      | (rcases h with rfl | rfl | rfl | rfl | rfl | rfl <;> simp [wL, wG, elemE])
      | (rcases h with rfl | rfl <;> simp [wL, wG, elemE])
      | (subst h; simp [wL, wG, elemE])

/-! ### products of them -/
/-- The product of the powers of the elementary polynomials. -/
def powE (p : Int) (d : Nat) (k : Ex) : List Tm := prodE p k 0 (elemsP p d) [⟨e0, 1⟩]
/-- Its greatest exponents. -/
def phi (d : Nat) (k : Ex) : Ex := if d = 1 then mulE (elemE 1) k.a.toNat else if d = 2 then addE (mulE (elemE 1) k.a.toNat) (mulE (elemE 2) k.b.toNat) else addE (addE (mulE (elemE 1) k.a.toNat) (mulE (elemE 2) k.b.toNat)) (mulE (elemE 3) k.c.toNat)
/-- Powers whose product is of degree 12 at most. -/
def KOk (d : Nat) (k : Ex) : Prop := (d ≤ 1 → k.b = 0) ∧ (d ≤ 2 → k.c = 0) ∧ k.a.toNat + 2 * k.b.toNat + 3 * k.c.toNat ≤ 12
theorem KOk.w {d : Nat} {k : Ex} (h : KOk d k) : k.a.toNat + 2 * k.b.toNat + 3 * k.c.toNat ≤ 12 := h.2.2
theorem elemsP1 (p : Int) : elemsP p 1 = [elemP p 1 0] := rfl
theorem elemsP2 (p : Int) : elemsP p 2 = [elemP p 2 0, elemP p 2 1] := rfl
theorem elemsP3 (p : Int) : elemsP p 3 = [elemP p 3 0, elemP p 3 1, elemP p 3 2] := rfl
theorem powE_eq (p : Int) (k : Ex) : powE p 1 k = timesT p (eT p 1 0) k.a.toNat [⟨e0, 1⟩] ∧ powE p 2 k = timesT p (eT p 2 1) k.b.toNat (timesT p (eT p 2 0) k.a.toNat [⟨e0, 1⟩]) ∧
    powE p 3 k = timesT p (eT p 3 2) k.c.toNat (timesT p (eT p 3 1) k.b.toNat (timesT p (eT p 3 0) k.a.toNat [⟨e0, 1⟩])) := ⟨rfl, rfl, rfl⟩
theorem powE_ok {W : Ex → Nat} (hW : W = wL ∨ W = wG) {p : Int} (hp : 2 ≤ p) {d : Nat} (hd : 1 ≤ d ∧ d ≤ 3) {k : Ex} (hk : KOk d k) : Lead W p (powE p d k) (phi d k) ∧ AllE (DegLe d 12) (powE p d k) := by
  have hW' : IsW W := by rcases hW with rfl | rfl; exact wL_ok; exact wG_ok
  have hw := hk.w
  have hu : Lead W p [⟨e0, 1⟩] e0 := Lead.unit hp
  have hu2 := const_all (d := (d : Int)) (v := 1)
  obtain ⟨q1, q2, q3⟩ := powE_eq p k
  have : d = 1 ∨ d = 2 ∨ d = 3 := by omega
  rcases this with rfl | rfl | rfl
  · have d0 := eT_deg hp hd (k := 0) (by omega)
    have l0 := Lead.times hW' hp (eT_lead hW hp hd (k := 0) (by omega)) d0 hu hu2 k.a.toNat (by omega)
    have f0 := (timesT_facts hp d0 k.a.toNat hu.can hu2 (by omega)).2
    rw [zero_addE] at l0
    rw [q1]
    exact ⟨l0, f0.mono fun e he => he.mono (by omega)⟩
  · have d0 := eT_deg hp hd (k := 0) (by omega)
    have d1 := eT_deg hp hd (k := 1) (by omega)
    have l0 := Lead.times hW' hp (eT_lead hW hp hd (k := 0) (by omega)) d0 hu hu2 k.a.toNat (by omega)
    have f0 := (timesT_facts hp d0 k.a.toNat hu.can hu2 (by omega)).2
    have l1 := Lead.times hW' hp (eT_lead hW hp hd (k := 1) (by omega)) d1 l0 f0 k.b.toNat (by omega)
    have f1 := (timesT_facts hp d1 k.b.toNat l0.can f0 (by omega)).2
    rw [zero_addE] at l1
    rw [q2]
    exact ⟨l1, f1.mono fun e he => he.mono (by omega)⟩
  · have d0 := eT_deg hp hd (k := 0) (by omega)
    have d1 := eT_deg hp hd (k := 1) (by omega)
    have d2 := eT_deg hp hd (k := 2) (by omega)
    have l0 := Lead.times hW' hp (eT_lead hW hp hd (k := 0) (by omega)) d0 hu hu2 k.a.toNat (by omega)
    have f0 := (timesT_facts hp d0 k.a.toNat hu.can hu2 (by omega)).2
    have l1 := Lead.times hW' hp (eT_lead hW hp hd (k := 1) (by omega)) d1 l0 f0 k.b.toNat (by omega)
    have f1 := (timesT_facts hp d1 k.b.toNat l0.can f0 (by omega)).2
    have l2 := Lead.times hW' hp (eT_lead hW hp hd (k := 2) (by omega)) d2 l1 f1 k.c.toNat (by omega)
    have f2 := (timesT_facts hp d2 k.c.toNat l1.can f1 (by omega)).2
    rw [zero_addE] at l2
    rw [q3]
    exact ⟨l2, f2.mono fun e he => he.mono (by omega)⟩

theorem mulE_E (a b c : Nat) : ∀ n, mulE (E a b c) n = E (n * a) (n * b) (n * c)
  | 0 => by simp only [mulE, Nat.zero_mul]; rfl
  | n + 1 => by rw [mulE, mulE_E a b c n, addE_E, Nat.succ_mul, Nat.succ_mul, Nat.succ_mul]
/-- The greatest exponents, as numbers. -/
theorem phi_E {d : Nat} (hd : 1 ≤ d ∧ d ≤ 3) {k : Ex} (hk : KOk d k) : phi d k = E (k.a.toNat + k.b.toNat + k.c.toNat) (k.b.toNat + k.c.toNat) k.c.toNat := by
  have u1 : elemE 1 = E 1 0 0 := rfl
  have u2 : elemE 2 = E 1 1 0 := rfl
  have u3 : elemE 3 = E 1 1 1 := rfl
  obtain ⟨h1, h2, _⟩ := hk
  have : d = 1 ∨ d = 2 ∨ d = 3 := by omega
  unfold phi
  rcases this with rfl | rfl | rfl
  · rw [h1 (by omega), h2 (by omega), if_pos rfl, u1, mulE_E]; simp
  · rw [h2 (by omega), if_neg (by decide), if_pos rfl, u1, u2, mulE_E, mulE_E, addE_E]; simp
  · rw [if_neg (by decide), if_neg (by decide), u1, u2, u3, mulE_E, mulE_E, mulE_E, addE_E, addE_E]; simp
theorem phi_inj {d : Nat} (hd : 1 ≤ d ∧ d ≤ 3) {k l : Ex} (hk : KOk d k) (hl : KOk d l) (h : phi d k = phi d l) : k = l := by
  rw [phi_E hd hk, phi_E hd hl] at h
  have := hk.w; have := hl.w
  simp only [E, Ex.mk.injEq] at h
  have g1 := congrArg UInt8.toNat h.1
  have g2 := congrArg UInt8.toNat h.2.1
  have g3 := congrArg UInt8.toNat h.2.2
  simp only [UInt8.toNat_ofNat'] at g1 g2 g3
  exact ex_inj (by omega) (by omega) (by omega)
end Go.Sm

namespace Go.Sm

/-! ### sums with elementary polynomials put in -/
theorem prodE_mul {p : Int} (hp : 2 ≤ p) (e : Ex) : ∀ (ys : List Pl) (i : Nat) {a : List Tm}, Can p a → prodE p e i ys a = mulT p a (prodE p e i ys [⟨e0, 1⟩])
  | [], _, a, ha => (mulT_one (by omega) ha).symm
  | y :: ys, i, a, ha => by
    simp only [prodE]
    rw [timesT_pow hp y.ts ha, timesT_pow hp y.ts (one_can hp), prodE_mul hp e ys (i + 1) (mulT_can (by omega) _ _), prodE_mul hp e ys (i + 1) (a := mulT p [⟨e0, 1⟩] _) (mulT_can (by omega) _ _), ← mulT_assoc (by omega) a, mulT_comm (by omega) [⟨e0, 1⟩], mulT_one (by omega) (powT_can hp _ _)]
theorem prodE_lin {p : Int} (hp : 2 ≤ p) {d : Nat} {k : Ex} {v : Int} (hv : 1 ≤ v ∧ v < p) (f : Ex → Int) : Eqm p (lin (prodE p k 0 (elemsP p d) [⟨e0, v⟩]) f) (v * lin (powE p d k) f) := by
  rw [prodE_mul hp k (elemsP p d) 0 (const_can hv)]
  refine (mulT_lin (by omega) _ f [⟨e0, v⟩]).2.trans (Eqm.of_eq ?_)
  simp only [lin, zero_addE, Int.add_zero]
  rfl
theorem subT_lin {p : Int} (hp : 2 ≤ p) {d : Nat} (f : Ex → Int) : ∀ q : List Tm, (∀ t ∈ q, 1 ≤ t.v ∧ t.v < p) → Can p (subT p (elemsP p d) q) ∧ Eqm p (lin (subT p (elemsP p d) q) f) (lin q fun k => lin (powE p d k) f) := by
  intro q
  induction q using snocInd with
  | nil => intro _; exact ⟨can_nil p, Eqm.refl p _⟩
  | snoc q t ih =>
    intro h
    obtain ⟨h1, h2⟩ := ih fun u hu => h u (by simp [hu])
    rw [subT_snoc]
    obtain ⟨g1, g2⟩ := plusT_lin (p := p) (by omega) h1 1 f (prodE p t.e 0 (elemsP p d) [⟨e0, t.v⟩])
    refine ⟨g1, g2.trans ?_⟩
    rw [lin_append]
    simp only [lin, Int.add_zero, Int.one_mul]
    exact h2.add (prodE_lin hp (h t (by simp)) f)
theorem bndE_kok {p : Int} (hp : Pr p) {d : Nat} (hd : 1 ≤ d ∧ d ≤ 3) {k : Ex} (hk : KOk d k) : bndE k 0 (elemsP p d) ≤ 12 := by
  have hw := hk.w
  have hdg : ∀ {i}, i < d → dg (eT p d i) ≤ i + 1 := fun {i} hi => by
    have := degT_le (eT_deg hp.pos.1 hd hi)
    unfold dg; omega
  have : d = 1 ∨ d = 2 ∨ d = 3 := by omega
  rcases this with rfl | rfl | rfl
  · have g0 := hdg (i := 0) (by omega)
    have := Nat.mul_le_mul_left k.a.toNat g0
    show k.a.toNat * dg (eT p 1 0) + 0 ≤ 12
    omega
  · have g0 := Nat.mul_le_mul_left k.a.toNat (hdg (i := 0) (by omega))
    have g1 := Nat.mul_le_mul_left k.b.toNat (hdg (i := 1) (by omega))
    show k.a.toNat * dg (eT p 2 0) + (k.b.toNat * dg (eT p 2 1) + 0) ≤ 12
    omega
  · have g0 := Nat.mul_le_mul_left k.a.toNat (hdg (i := 0) (by omega))
    have g1 := Nat.mul_le_mul_left k.b.toNat (hdg (i := 1) (by omega))
    have g2 := Nat.mul_le_mul_left k.c.toNat (hdg (i := 2) (by omega))
    show k.a.toNat * dg (eT p 3 0) + (k.b.toNat * dg (eT p 3 1) + (k.c.toNat * dg (eT p 3 2) + 0)) ≤ 12
    omega

/-! ### symmetry, by sums -/
theorem exT_lin {p : Int} (hp : 0 < p) (g : Ex → Ex) (f : Ex → Int) : ∀ ts : List Tm, Can p (exT p g ts) ∧ Eqm p (lin (exT p g ts) f) (lin ts fun e => f (g e)) := by
  intro ts
  induction ts using snocInd with
  | nil => exact ⟨can_nil p, Eqm.refl p _⟩
  | snoc ts t ih =>
    rw [exT_snoc]
    refine ⟨(putT_can hp ih.1 _ _).1, (lin_putT ih.1 _ _ f).trans ?_⟩
    rw [lin_append]
    simp only [lin, Int.add_zero]
    exact ih.2.add (Eqm.refl p _)
/-- Exchanges of letters change nothing. -/
def SymL (p : Int) (d : Int) (ts : List Tm) : Prop := ∀ i k : Nat, k < i → (i : Int) < d → ∀ f, Eqm p (lin ts fun e => f (swE i k e)) (lin ts f)
theorem symL_coef {p d : Int} (hp : 0 < p) {ts : List Tm} (hc : Can p ts) (h : ∀ i k : Nat, k < i → (i : Int) < d → ∀ e, coef ts (swE i k e) = coef ts e) : SymL p d ts := by
  intro i k h1 h2 f
  obtain ⟨g1, _, g3⟩ := exT_ok hp (swE_swE i k) ts (asc_nodup hc.1) hc.2
  have e : exT p (swE i k) ts = ts := can_ext g1 hc fun e => by rw [g3, h i k h1 h2]
  have := (exT_lin hp (swE i k) f ts).2
  rw [e] at this
  exact this.symm
theorem swE_add (i k : Nat) (x y : Ex) : swE i k (addE x y) = addE (swE i k x) (swE i k y) := by
  unfold swE
  simp only [addE_eq]
  split
  · rfl
  · split
    · rfl
    · split <;> rfl
theorem SymL.mul {p d : Int} (hp : 0 < p) {xs ys : List Tm} (hx : SymL p d xs) (hy : SymL p d ys) : SymL p d (mulT p xs ys) := by
  intro i k h1 h2 f
  refine (mulT_lin hp ys _ xs).2.trans (Eqm.trans ?_ (mulT_lin hp ys f xs).2.symm)
  have e1 : ∀ x, Eqm p (lin ys fun y => f (swE i k (addE x y))) (lin ys fun y => f (addE (swE i k x) y)) := fun x => by
    simp only [swE_add]
    exact hy i k h1 h2 fun y => f (addE (swE i k x) y)
  exact (lin_congr e1 xs).trans (hx i k h1 h2 fun x => lin ys fun y => f (addE x y))
theorem SymL.plus {p d : Int} (hp : 0 < p) {xs ys : List Tm} (hc : Can p xs) (hx : SymL p d xs) (hy : SymL p d ys) (n : Int) : SymL p d (plusT p xs ys n) := by
  intro i k h1 h2 f
  refine (plusT_lin hp hc n _ ys).2.trans (Eqm.trans ?_ (plusT_lin hp hc n f ys).2.symm)
  exact (hx i k h1 h2 f).add ((hy i k h1 h2 f).mul n)
theorem SymL.one (p d : Int) : SymL p d [⟨e0, 1⟩] := by
  intro i k _ _ f
  have e : swE i k e0 = e0 := by
    unfold swE
    split
    · rfl
    · split
      · rfl
      · split <;> rfl
  simp only [lin, e]
  exact Eqm.refl p _
theorem SymL.times {p d : Int} (hp : 0 < p) {ys : List Tm} (hy : SymL p d ys) : ∀ (n : Nat) {xs : List Tm}, SymL p d xs → SymL p d (timesT p ys n xs)
  | 0, _, h => h
  | n + 1, _, h => SymL.times hp hy n (h.mul hp hy)
theorem eT_sym {p : Int} (hp : 2 ≤ p) {d k : Nat} (hd : 1 ≤ d ∧ d ≤ 3) (hk : k < d) : SymL p d (eT p d k) := by
  refine symL_coef (by omega) (eT_can hp d k) fun i j h1 h2 e => ?_
  have key : ∀ e, e ∈ permsE d (elemE (k + 1)) → swE i j e ∈ permsE d (elemE (k + 1)) := by
    have hij : (i = 1 ∧ j = 0) ∨ (i = 2 ∧ j = 0) ∨ (i = 2 ∧ j = 1) := by omega
    rcases dk_cases hd hk with ⟨rfl, rfl⟩ | ⟨rfl, rfl⟩ | ⟨rfl, rfl⟩ | ⟨rfl, rfl⟩ | ⟨rfl, rfl⟩ | ⟨rfl, rfl⟩ <;> rcases hij with ⟨rfl, rfl⟩ | ⟨rfl, rfl⟩ | ⟨rfl, rfl⟩ <;> first | omega | decide
  rw [eT_coef hp, eT_coef hp]
  by_cases h : e ∈ permsE d (elemE (k + 1))
  · rw [if_pos h, if_pos (key e h)]
  · rw [if_neg h, if_neg (fun q => h (by have := key _ q; rwa [swE_swE] at this))]
theorem powE_sym {p : Int} (hp : 2 ≤ p) {d : Nat} (hd : 1 ≤ d ∧ d ≤ 3) (k : Ex) : SymL p d (powE p d k) := by
  obtain ⟨q1, q2, q3⟩ := powE_eq p k
  have : d = 1 ∨ d = 2 ∨ d = 3 := by omega
  rcases this with rfl | rfl | rfl
  · rw [q1]
    exact SymL.times (by omega) (eT_sym hp hd (by omega)) _ (SymL.one p _)
  · rw [q2]
    exact SymL.times (by omega) (eT_sym hp hd (by omega)) _ (SymL.times (by omega) (eT_sym hp hd (by omega)) _ (SymL.one p _))
  · rw [q3]
    exact SymL.times (by omega) (eT_sym hp hd (by omega)) _ (SymL.times (by omega) (eT_sym hp hd (by omega)) _ (SymL.times (by omega) (eT_sym hp hd (by omega)) _ (SymL.one p _)))
theorem SymL.coef {p d : Int} (hp : 0 < p) {ts : List Tm} (hc : Can p ts) (h : SymL p d ts) {i k : Nat} (h1 : k < i) (h2 : (i : Int) < d) (e : Ex) : coef ts (swE i k e) = coef ts e := by
  have := h i k h1 h2 fun x => if x = e then 1 else 0
  rw [lin_coef (asc_nodup hc.1)] at this
  have e1 : (fun x => if swE i k x = e then (1 : Int) else 0) = fun x => if x = swE i k e then 1 else 0 := by
    funext x
    by_cases hx : x = swE i k e
    · rw [if_pos hx, if_pos (by rw [hx, swE_swE])]
    · rw [if_neg hx, if_neg (fun q => hx (by rw [← q, swE_swE]))]
  rw [e1, lin_coef (asc_nodup hc.1)] at this
  exact this.eq (coef_bound hp hc _) (coef_bound hp hc _)

/-- The powers that make some exponents the greatest. -/
def unPhi (e : Ex) : Ex := E (e.a.toNat - e.b.toNat) (e.b.toNat - e.c.toNat) e.c.toNat
theorem unPhi_ok {d : Nat} (hd : 1 ≤ d ∧ d ≤ 3) {e : Ex} (h12 : DegLe d 12 e) (h1 : 2 ≤ d → e.b.toNat ≤ e.a.toNat) (h2 : d = 3 → e.c.toNat ≤ e.b.toNat) : KOk d (unPhi e) ∧ phi d (unPhi e) = e := by
  obtain ⟨g1, g2, g3⟩ := h12
  unfold Ex.deg at g3
  have hbc : e.c.toNat ≤ e.b.toNat := by
    by_cases h : d = 3
    · exact h2 h
    · rw [g2 (by omega)]; exact Nat.zero_le _
  have hab : e.b.toNat ≤ e.a.toNat := by
    by_cases h : d = 1
    · rw [g1 (by omega)]; exact Nat.zero_le _
    · exact h1 (by omega)
  have t1 : (unPhi e).a.toNat = e.a.toNat - e.b.toNat := by show (UInt8.ofNat _).toNat = _; rw [UInt8.toNat_ofNat']; omega
  have t2 : (unPhi e).b.toNat = e.b.toNat - e.c.toNat := by show (UInt8.ofNat _).toNat = _; rw [UInt8.toNat_ofNat']; omega
  have t3 : (unPhi e).c.toNat = e.c.toNat := by show (UInt8.ofNat _).toNat = _; rw [UInt8.toNat_ofNat']; omega
  have hk : KOk d (unPhi e) := by
    refine ⟨fun h => ?_, fun h => ?_, by omega⟩
    · apply UInt8.toNat.inj
      rw [t2, g1 (by omega)]
      exact Nat.zero_sub _
    · apply UInt8.toNat.inj
      rw [t3, g2 (by omega)]
  refine ⟨hk, ?_⟩
  rw [phi_E hd hk, t1, t2, t3]
  rw [show e.a.toNat - e.b.toNat + (e.b.toNat - e.c.toNat) + e.c.toNat = e.a.toNat by omega, show e.b.toNat - e.c.toNat + e.c.toNat = e.b.toNat by omega, E_of]

theorem sym_exists {p : Int} (hp : Pr p) {d : Nat} (hd : 1 ≤ d ∧ d ≤ 3) : ∀ (n : Nat) (x : List Tm), Can p x → AllE (DegLe d 12) x → SymL p d x → (∀ u ∈ x, wL u.e < n) →
    ∃ q, Can p q ∧ AllE (KOk d) q ∧ ∀ f, Eqm p (lin x f) (lin q fun k => lin (powE p d k) f) := by
  have hpp := hp.pos
  intro n
  induction n using Nat.strongRecOn with
  | _ n ih =>
    intro x hc hdg hs hn
    by_cases hne : x = []
    · subst hne
      refine ⟨[], can_nil p, fun t ht => ?_, fun f => Eqm.refl p _⟩
      cases ht
    · obtain ⟨t, ht, hm⟩ := max_of wL hne
      have hv := hc.2 t ht
      have hct : coef x t.e = t.v := coef_mem (asc_nodup hc.1) ht
      have hmem : ∀ i k : Nat, k < i → (i : Int) < d → wL (swE i k t.e) ≤ wL t.e := fun i k h1 h2 => by
        have hl := hs.coef (by omega) hc h1 h2 t.e
        rw [hct] at hl
        obtain ⟨u, hu, hue⟩ := coef_ne_mem (ts := x) (e := swE i k t.e) (by omega)
        rw [← hue]; exact hm u hu
      obtain ⟨hk, hphi⟩ := unPhi_ok hd (hdg t ht) (fun h => by
        have h1 := hmem 1 0 (by omega) (by omega)
        rw [sw10] at h1
        unfold wL at h1
        have := u8_lt t.e.a; have := u8_lt t.e.b; have := u8_lt t.e.c
        simp at h1
        omega) (fun h => by
        have h1 := hmem 2 1 (by omega) (by omega)
        rw [sw21] at h1
        unfold wL at h1
        have := u8_lt t.e.a; have := u8_lt t.e.b; have := u8_lt t.e.c
        simp at h1
        omega)
      generalize unPhi t.e = k at hk hphi
      obtain ⟨hB, hBd⟩ := powE_ok (.inl rfl : wL = wL ∨ wL = wG) hpp.1 hd hk
      rw [hphi] at hB
      obtain ⟨g1, _, g3⟩ := plusT_ok (p := p) (by omega) hc (p - t.v) (powE p d k) (asc_nodup hB.can.1)
      obtain ⟨q', r1, r2, r3⟩ := ih (wL t.e) (hn t ht) (plusT p x (powE p d k) (p - t.v)) g1 (plusT_all hdg hBd) (hs.plus (by omega) hc (powE_sym hpp.1 hd k) _) fun u hu => by
        have h1 := coef_mem (asc_nodup g1.1) hu
        have h2 := g1.2 u hu
        rw [g3] at h1
        apply Classical.byContradiction
        intro hge
        by_cases he : u.e = t.e
        · rw [he, hct, hB.one, show t.v + (p - t.v) * 1 = p by omega, Int.emod_self] at h1
          omega
        · have hgt : wL t.e < wL u.e := by
            have : wL t.e ≠ wL u.e := fun h => he (wL_ok.inj _ _ h).symm
            omega
          have z1 : coef x u.e = 0 := Classical.byContradiction fun h => by
            obtain ⟨w, hw, hwe⟩ := coef_ne_mem h
            have := hm w hw
            rw [hwe] at this; omega
          have z2 : coef (powE p d k) u.e = 0 := Classical.byContradiction fun h => by
            obtain ⟨w, hw, hwe⟩ := coef_ne_mem h
            have := hB.max w hw
            rw [hwe] at this; omega
          rw [z1, z2] at h1
          simp at h1
          omega
      refine ⟨putT p q' k t.v, (putT_can (by omega) r1 _ _).1, putT_all r2 hk, fun f => ?_⟩
      refine Eqm.trans ?_ (lin_putT r1 k t.v fun k => lin (powE p d k) f).symm
      obtain ⟨l, hl⟩ := r3 f
      obtain ⟨m, hm2⟩ := (plusT_lin (p := p) (by omega) hc (p - t.v) f (powE p d k)).2
      rw [hm2] at hl
      exact ⟨l - m - lin (powE p d k) f, by grind⟩
end Go.Sm

namespace Go.Sm

/-- A polynomial with the elementary ones put in. -/
abbrev subE (p : Int) (d : Nat) (q : List Tm) : List Tm := subT p (elemsP p d) q
theorem subE_can {p : Int} (hp : 2 ≤ p) {d : Nat} {q : List Tm} (h : Can p q) : Can p (subE p d q) := (subT_lin hp (fun _ => 0) q h.2).1
theorem subE_deg {p : Int} (hp : Pr p) {d : Nat} (hd : 1 ≤ d ∧ d ≤ 3) {q : List Tm} (h : Can p q) (hk : AllE (KOk d) q) : AllE (DegLe d 12) (subE p d q) :=
  (subT_facts hp.pos.1 (ys := elemsP p d) (fun y hy => dg_all (elemsP_good hp hd y hy).2.2) q h.2 fun t ht => bndE_kok hp hd (hk t ht)).2

/-- What is left, and what is told: together all. -/
def Rest (q0 q : List Tm) (g : Ex → Int) : Prop := ∀ e, (coef q e = coef q0 e ∧ g e = 0) ∨ (coef q e = 0 ∧ g e = coef q0 e)
theorem Rest.start (q0 : List Tm) : Rest q0 q0 (fun _ => 0) := fun _ => .inl ⟨rfl, rfl⟩
theorem Rest.done {q0 : List Tm} {g : Ex → Int} (h : Rest q0 [] g) (e : Ex) : g e = coef q0 e := by
  rcases h e with ⟨h1, h2⟩ | ⟨_, h⟩
  · rw [h2, ← h1]; rfl
  · exact h
theorem Rest.step {q0 q : List Tm} {g : Ex → Int} (h : Rest q0 q g) {k : Ex} (hk : coef q k ≠ 0) : Rest q0 (q.filter fun t => t.e ≠ k) (fun e => if e = k then coef q k else g e) := by
  intro e
  rw [coef_filter]
  by_cases he : e = k
  · subst he
    rw [if_pos rfl]
    refine .inr ⟨rfl, ?_⟩
    rcases h e with ⟨h1, _⟩ | ⟨h1, _⟩
    · show (if e = e then coef q e else g e) = coef q0 e
      rw [if_pos rfl, h1]
    · exact (hk h1).elim
  · rw [if_neg he]
    show (coef q e = coef q0 e ∧ (if e = k then coef q k else g e) = 0) ∨ (coef q e = 0 ∧ (if e = k then coef q k else g e) = coef q0 e)
    rw [if_neg he]
    exact h e

/-- What is not nothing tells something. -/
theorem tell_ne {p : Int} (hp : Pr p) {d : Nat} (hd : 1 ≤ d ∧ d ≤ 3) {q : List Tm} (hc : Can p q) (hk : AllE (KOk d) q) (hne : q ≠ []) : subE p d q ≠ [] := by
  have hpp := hp.pos
  intro h0
  obtain ⟨t0, h1, h2⟩ := max_of (fun e => wL (phi d e)) hne
  have hv := hc.2 t0 h1
  have hB := fun t (ht : t ∈ q) => (powE_ok (.inl rfl : wL = wL ∨ wL = wG) hpp.1 hd (hk t ht)).1
  have h3 := (subT_lin hpp.1 (d := d) (fun x => if x = phi d t0.e then 1 else 0) q hc.2).2
  have e0 : subT p (elemsP p d) q = [] := h0
  rw [e0, lin_filter _ t0.e (asc_nodup hc.1), coef_mem (asc_nodup hc.1) h1, lin_coef (asc_nodup (hB t0 h1).can.1), (hB t0 h1).one] at h3
  rw [lin_none (ts := q.filter fun t => t.e ≠ t0.e)] at h3
  · have h4 : Eqm p t0.v 0 := by have := h3.symm; simpa [lin] using this
    have := h4.eq ⟨by omega, hv.2⟩ ⟨by omega, by omega⟩
    omega
  · intro u hu
    rw [List.mem_filter] at hu
    obtain ⟨hu, hune⟩ := hu
    rw [lin_coef (asc_nodup (hB u hu).can.1)]
    apply Classical.byContradiction
    intro h
    obtain ⟨w, hw, hwe⟩ := coef_ne_mem h
    have h5 := (hB u hu).max w hw
    rw [hwe] at h5
    have h6 := h2 u hu
    have h7 : phi d u.e = phi d t0.e := wL_ok.inj _ _ (by omega)
    have h8 := phi_inj hd (hk u hu) (hk t0 h1) h7
    simp [h8] at hune

/-- The first term tells a term of the telling polynomial. -/
theorem tell_step {W : Ex → Nat} (hW : W = wL ∨ W = wG) {p : Int} (hp : Pr p) {d : Nat} (hd : 1 ≤ d ∧ d ≤ 3) {q : List Tm} (hc : Can p q) (hk : AllE (KOk d) q) {t : Tm} (ht : t ∈ subE p d q) (hm : ∀ u ∈ subE p d q, W u.e ≤ W t.e) :
    ∃ k, KOk d k ∧ t.e = phi d k ∧ coef q k = t.v ∧ 1 ≤ t.v ∧ t.v < p ∧ Can p (q.filter fun t => t.e ≠ k) ∧ AllE (KOk d) (q.filter fun t => t.e ≠ k) ∧ (q.filter fun t => t.e ≠ k).length < q.length ∧
      plusT p (subE p d q) (subE p d [⟨k, t.v⟩]) (p - 1) = subE p d (q.filter fun t => t.e ≠ k) ∧ plusT p (subE p d q) (powE p d k) (p - t.v) = subE p d (q.filter fun t => t.e ≠ k) := by
  have hpp := hp.pos
  have hW' : IsW W := by rcases hW with rfl | rfl; exact wL_ok; exact wG_ok
  have hxc := subE_can (d := d) hpp.1 hc
  have hlin := fun f => (subT_lin hpp.1 (d := d) f q hc.2).2
  have hne : q ≠ [] := fun e => by subst e; cases ht
  obtain ⟨t0, h1, h2⟩ := max_of (fun e => W (phi d e)) hne
  have hv := hc.2 t0 h1
  have hB := fun t (ht : t ∈ q) => (powE_ok hW hpp.1 hd (hk t ht)).1
  have hco : ∀ e, W (phi d t0.e) ≤ W e → coef (subE p d q) e = if e = phi d t0.e then t0.v else 0 := fun e he => by
    have h3 := hlin fun x => if x = e then 1 else 0
    rw [lin_coef (asc_nodup hxc.1), lin_filter _ t0.e (asc_nodup hc.1), coef_mem (asc_nodup hc.1) h1, lin_coef (asc_nodup (hB t0 h1).can.1)] at h3
    rw [lin_none (ts := q.filter fun t => t.e ≠ t0.e)] at h3
    · by_cases hee : e = phi d t0.e
      · rw [if_pos hee]
        rw [hee, (hB t0 h1).one] at h3
        rw [hee]
        have h4 : Eqm p (coef (subE p d q) (phi d t0.e)) t0.v := h3.trans_eq (by omega)
        exact h4.eq (coef_bound (by omega) hxc _) ⟨by omega, hv.2⟩
      · rw [if_neg hee]
        have hz : coef (powE p d t0.e) e = 0 := Classical.byContradiction fun h => by
          obtain ⟨w, hw, hwe⟩ := coef_ne_mem h
          have h5 := (hB t0 h1).max w hw
          rw [hwe] at h5
          exact hee (hW'.inj _ _ (by omega))
        rw [hz] at h3
        have h4 : Eqm p (coef (subE p d q) e) 0 := h3.trans_eq (by omega)
        exact h4.eq (coef_bound (by omega) hxc _) ⟨by omega, by omega⟩
    · intro u hu
      rw [List.mem_filter] at hu
      obtain ⟨hu, hune⟩ := hu
      rw [lin_coef (asc_nodup (hB u hu).can.1)]
      apply Classical.byContradiction
      intro h
      obtain ⟨w, hw, hwe⟩ := coef_ne_mem h
      have h5 := (hB u hu).max w hw
      rw [hwe] at h5
      have h6 := h2 u hu
      have h7 : phi d u.e = phi d t0.e := hW'.inj _ _ (by omega)
      have h8 := phi_inj hd (hk u hu) (hk t0 h1) h7
      simp [h8] at hune
  have hct : coef (subE p d q) (phi d t0.e) = t0.v := by rw [hco _ (Nat.le_refl _), if_pos rfl]
  obtain ⟨u, h5, h6⟩ := coef_ne_mem (ts := subE p d q) (e := phi d t0.e) (by rw [hct]; omega)
  have h7 := hm u h5
  rw [h6] at h7
  have h8 := hco t.e h7
  rw [coef_mem (asc_nodup hxc.1) ht] at h8
  have htv := hxc.2 t ht
  have hte : t.e = phi d t0.e := Classical.byContradiction fun h => by rw [if_neg h] at h8; omega
  rw [if_pos hte] at h8
  have hsub : (q.filter fun t => t.e ≠ t0.e).Sublist q := List.filter_sublist
  have hq' : Can p (q.filter fun t => t.e ≠ t0.e) := ⟨hc.1.sublist hsub, fun u hu => hc.2 u (hsub.subset hu)⟩
  have hfin : ∀ x', Can p x' → (∀ f, Eqm p (lin x' f) (lin (subE p d q) f - t.v * lin (powE p d t0.e) f)) → x' = subE p d (q.filter fun t => t.e ≠ t0.e) := fun x' hx' hl => by
    refine can_lin (by omega) hx' (subE_can hpp.1 hq') fun f => ?_
    refine (hl f).trans (Eqm.trans ?_ (subT_lin hpp.1 (d := d) f _ hq'.2).2.symm)
    obtain ⟨l, hl2⟩ := hlin f
    have h9 := lin_filter (fun k => lin (powE p d k) f) t0.e (asc_nodup hc.1)
    rw [coef_mem (asc_nodup hc.1) h1] at h9
    exact ⟨l, by rw [hl2, h9, h8]; omega⟩
  refine ⟨t0.e, hk t0 h1, hte, by rw [coef_mem (asc_nodup hc.1) h1, h8], by omega, by omega, hq', fun u hu => hk u (hsub.subset hu), ?_, ?_, ?_⟩
  · exact List.length_filter_lt_length_iff_exists.2 ⟨t0, h1, by simp⟩
  · refine hfin _ (plusT_can (by omega) hxc _ _) fun f => ?_
    refine (plusT_lin (by omega) hxc (p - 1) f _).2.trans ?_
    have hone : ∀ u ∈ [(⟨t0.e, t.v⟩ : Tm)], 1 ≤ u.v ∧ u.v < p := fun u hu => by rw [List.mem_singleton] at hu; rw [hu]; exact htv
    obtain ⟨m, hm2⟩ := (subT_lin hpp.1 (d := d) f [⟨t0.e, t.v⟩] hone).2
    rw [hm2]
    simp only [lin]
    exact ⟨(p - 1) * m + t.v * lin (powE p d t0.e) f, by grind⟩
  · refine hfin _ (plusT_can (by omega) hxc _ _) fun f => ?_
    refine (plusT_lin (by omega) hxc (p - t.v) f _).2.trans ?_
    exact ⟨lin (powE p d t0.e) f, by grind⟩

/-- A symmetric polynomial is told by one. -/
theorem sym_told {p : Int} {d : Nat} {ts : List Tm} (hg : GoodP p d ts) (hs : SymP p d 1 ts) : ∃ q, Can p q ∧ AllE (KOk d) q ∧ ts = subE p d q := by
  have hp := hg.1
  have hpp := hp.pos
  have hd : 1 ≤ d ∧ d ≤ 3 := by have := hg.2.1; omega
  have hc : Can p ts := ⟨hg.2.2.2, fun t ht => (hg.2.2.1 t ht).2⟩
  have hsym : SymL p d ts := symL_coef (by omega) hc fun i k h1 h2 e => by
    rw [(sgn_iff (by omega) hc 1 i k).1 (hs i k h1 h2) e, Int.one_mul]
    have := coef_bound (show 0 < p by omega) hc e
    exact Int.emod_eq_of_lt this.1 this.2
  obtain ⟨n, hn⟩ : ∃ n, ∀ u ∈ ts, wL u.e < n := by
    by_cases hne : ts = []
    · exact ⟨0, fun u hu => by rw [hne] at hu; cases hu⟩
    · obtain ⟨t, _, hm⟩ := max_of wL hne
      exact ⟨wL t.e + 1, fun u hu => by have := hm u hu; omega⟩
  obtain ⟨q, h1, h2, h3⟩ := sym_exists hp hd n ts hc (fun t ht => (hg.2.2.1 t ht).1.degLe) hsym hn
  exact ⟨q, h1, h2, can_lin (by omega) hc (subE_can hpp.1 h1) fun f => (h3 f).trans (subT_lin hpp.1 f q h1.2).2.symm⟩
end Go.Sm
