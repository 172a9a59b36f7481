/- Towards the rows of this seat: what the functions do, as contracts over plain data. -/
import Derived.Test.YtdfihhfnnogpeaaGreatPkQrNewRelationsBK10
import Derived.Test.YtdfihhfnnogpeaaGreatPkQrNewRelationsBK6
import Derived.Test.YtdfihhfnnogpeaaGreatPkQrNewRelationsBK14
namespace Go.Sm

def E (a b c : Nat) : Ex := ⟨UInt8.ofNat a, UInt8.ofNat b, UInt8.ofNat c⟩
theorem addE_E (a b c k l m : Nat) : addE (E a b c) (E k l m) = E (a + k) (b + l) (c + m) := by
  simp [addE_eq, E, UInt8.ofNat_add]
/-- Alternating sums. -/
def alt3 (a b c : Nat) (f : Ex → Int) : Int := f (E a b c) - f (E a c b) - f (E b a c) + f (E b c a) + f (E c a b) - f (E c b a)
def alt2 (a b : Nat) (f : Ex → Int) : Int := f (E a b 0) - f (E b a 0)
def altd (d : Int) (a b c : Nat) (f : Ex → Int) : Int := if d = 1 then f (E a 0 0) else if d = 2 then alt2 a b f else alt3 a b c f
/-- The Vandermonde polynomial's sum. -/
def vlin (d : Int) (f : Ex → Int) : Int := altd d (if d = 1 then 0 else if d = 2 then 1 else 2) (if d = 2 then 0 else 1) 0 f
theorem vlin_add (d : Int) (f g : Ex → Int) : vlin d (fun e => f e + g e) = vlin d f + vlin d g := by
  unfold vlin altd alt2 alt3
  dsimp only
  split <;> first | rfl | (split <;> omega)
theorem vlin_mul (d c : Int) (f : Ex → Int) : vlin d (fun e => c * f e) = c * vlin d f := by
  unfold vlin altd alt2 alt3
  dsimp only
  split <;> first | rfl | (split <;> grind)
/-- A sum that is that of a product with the Vandermonde polynomial. -/
def Dv (d : Int) (n : Nat) (F : (Ex → Int) → Int) : Prop := ∃ s, AllE (DegLe d n) s ∧ ∀ f, F f = vlin d fun x => lin s fun y => f (addE x y)
theorem Dv.mono {d : Int} {n m : Nat} {F : (Ex → Int) → Int} (h : Dv d n F) (hn : n ≤ m) : Dv d m F := by
  obtain ⟨s, h1, h2⟩ := h
  exact ⟨s, h1.mono fun e he => he.mono hn, h2⟩
theorem Dv.zero (d : Int) (n : Nat) {F : (Ex → Int) → Int} (h : ∀ f, F f = 0) : Dv d n F := by
  refine ⟨[], fun t ht => ?_, fun f => ?_⟩
  · cases ht
  · rw [h]; simp [vlin, altd, alt2, alt3, lin]
theorem Dv.add {d : Int} {n : Nat} {F G H : (Ex → Int) → Int} (h : Dv d n F) (g : Dv d n G) (hH : ∀ f, H f = F f + G f) : Dv d n H := by
  obtain ⟨s, h1, h2⟩ := h
  obtain ⟨t, g1, g2⟩ := g
  refine ⟨s ++ t, fun x hx => ?_, fun f => ?_⟩
  · rcases List.mem_append.1 hx with hx | hx
    · exact h1 x hx
    · exact g1 x hx
  · rw [hH, h2, g2, ← vlin_add]
    simp only [lin_append]
theorem lin_shift (e : Ex) (f : Ex → Int) : ∀ ts : List Tm, lin (ts.map fun t => ⟨addE t.e e, t.v⟩) f = lin ts fun x => f (addE x e)
  | [] => rfl
  | t :: ts => by simp only [List.map_cons, lin, lin_shift e f ts]
theorem Dv.shift {d : Int} {n k : Nat} {F H : (Ex → Int) → Int} (h : Dv d n F) {e : Ex} (he : DegLe d k e) (hnk : n + k ≤ 255) (hH : ∀ f, H f = F fun x => f (addE x e)) : Dv d (n + k) H := by
  obtain ⟨s, h1, h2⟩ := h
  refine ⟨s.map fun t => ⟨addE t.e e, t.v⟩, fun x hx => ?_, fun f => ?_⟩
  · obtain ⟨y, hy, rfl⟩ := List.mem_map.1 hx
    exact (h1 y hy).add he hnk
  · rw [hH, h2]
    simp only [lin_shift, addE_assoc]

/-- The degree of the Vandermonde polynomial. -/
def vdeg (d : Int) : Nat := if d = 1 then 0 else if d = 2 then 1 else 3
/-! ### the program's Vandermonde polynomial -/
theorem fct_lin {p : Int} (hp : Pr p) (i k : Nat) (f : Ex → Int) : Eqm p (lin (fct p i k) f) (f (unE i) - f (unE k)) := by
  have hpp := hp.pos
  unfold fct mono
  obtain ⟨k1, h1⟩ := lin_putT (can_nil p) (unE i) 1 f
  obtain ⟨k2, h2⟩ := lin_putT (mono_can (show 0 < p by omega) (unE i) 1) (unE k) (p - 1) f
  unfold mono at h2
  exact ⟨k1 + k2 + f (unE k), by simp only [lin] at h1; grind⟩
theorem Eqm.trans_eq {p x y z : Int} (h : Eqm p x y) (e : y = z) : Eqm p x z := e ▸ h
theorem vanT_lin {p d : Int} (hp : Pr p) (hd : 1 ≤ d ∧ d ≤ 3) (f : Ex → Int) : Eqm p (lin (vanT p d) f) (vlin d f) := by
  have hpp := hp.pos
  have e1 : ∀ f, Eqm p (lin (van1 p) f) (f e0) := fun f => by
    have := lin_putT (can_nil p) e0 1 f
    simpa [lin, van1, mono] using this
  have e2 : ∀ f, Eqm p (lin (van2 p) f) (f (unE 0) - f (unE 1)) := fun f => by
    refine ((mulT_lin (by omega) (fct p 0 1) f (van1 p)).2.trans (e1 _)).trans ((fct_lin hp 0 1 _).trans_eq ?_)
    simp only [zero_addE]
  have e3 : ∀ f, Eqm p (lin (van3 p) f) (f (addE (unE 0) (unE 0)) - f (addE (unE 0) (unE 2)) - (f (addE (unE 1) (unE 0)) - f (addE (unE 1) (unE 2)))) := fun f => by
    refine ((mulT_lin (by omega) (fct p 0 2) f (van2 p)).2.trans (e2 _)).trans ?_
    obtain ⟨k, h⟩ := fct_lin hp 0 2 fun y => f (addE (unE 0) y)
    obtain ⟨l, g⟩ := fct_lin hp 0 2 fun y => f (addE (unE 1) y)
    exact ⟨k - l, by rw [h, g]; grind⟩
  have : d = 1 ∨ d = 2 ∨ d = 3 := by omega
  rcases this with rfl | rfl | rfl
  · exact e1 f
  · exact e2 f
  · show Eqm p (lin (van4 p) f) (alt3 2 1 0 f)
    refine ((mulT_lin (by omega) (fct p 1 2) f (van3 p)).2.trans (e3 _)).trans ?_
    have g := fun x => fct_lin hp 1 2 fun y => f (addE x y)
    obtain ⟨k1, h1⟩ := g (addE (unE 0) (unE 0))
    obtain ⟨k2, h2⟩ := g (addE (unE 0) (unE 2))
    obtain ⟨k3, h3⟩ := g (addE (unE 1) (unE 0))
    obtain ⟨k4, h4⟩ := g (addE (unE 1) (unE 2))
    refine ⟨k1 - k2 - (k3 - k4), ?_⟩
    rw [h1, h2, h3, h4]
    have u0 : unE 0 = E 1 0 0 := rfl
    have u1 : unE 1 = E 0 1 0 := rfl
    have u2 : unE 2 = E 0 0 1 := rfl
    simp only [u0, u1, u2, addE_E, alt3, Nat.zero_add, Nat.add_zero, Nat.reduceAdd]
    grind
end Go.Sm

namespace Go.Sm

/-- The first exponents of the Vandermonde polynomial. -/
def dE (d : Int) : Ex := if d = 1 then E 0 0 0 else if d = 2 then E 1 0 0 else E 2 1 0
def vE (d : Int) : List Ex := if d = 1 then [E 0 0 0] else if d = 2 then [E 1 0 0, E 0 1 0] else [E 2 1 0, E 2 0 1, E 1 2 0, E 1 0 2, E 0 2 1, E 0 1 2]
structure IsW (W : Ex → Nat) : Prop where
  add : ∀ x y : Ex, x.deg + y.deg ≤ 255 → W (addE x y) = W x + W y
  inj : ∀ x y : Ex, W x = W y → x = y
  van : ∀ d : Int, 1 ≤ d ∧ d ≤ 3 → ∀ e ∈ vE d, W e ≤ W (dE d)
theorem ex_inj {x y : Ex} (h1 : x.a.toNat = y.a.toNat) (h2 : x.b.toNat = y.b.toNat) (h3 : x.c.toNat = y.c.toNat) : x = y := by
  cases x; cases y
  simp only [Ex.mk.injEq]
  exact ⟨UInt8.toNat.inj h1, UInt8.toNat.inj h2, UInt8.toNat.inj h3⟩
theorem wL_ok : IsW wL := by
  refine ⟨fun x y h => ?_, fun x y h => ?_, fun d hd => ?_⟩
  · unfold Ex.deg at h
    simp only [wL, addE_eq, UInt8.toNat_add]
    rw [Nat.mod_eq_of_lt (by omega : x.a.toNat + y.a.toNat < 2 ^ 8), Nat.mod_eq_of_lt (by omega : x.b.toNat + y.b.toNat < 2 ^ 8), Nat.mod_eq_of_lt (by omega : x.c.toNat + y.c.toNat < 2 ^ 8)]
    omega
  · have := u8_lt x.a; have := u8_lt x.b; have := u8_lt x.c; have := u8_lt y.a; have := u8_lt y.b; have := u8_lt y.c
    unfold wL at h
    exact ex_inj (by omega) (by omega) (by omega)
  · have : d = 1 ∨ d = 2 ∨ d = 3 := by omega
    rcases this with rfl | rfl | rfl <;> simp [vE, dE, E, wL]
theorem van_all {p d : Int} (hp : Pr p) (hd : 1 ≤ d ∧ d ≤ 3) : AllE (fun e => e ∈ vE d) (vanT p d) := by
  have : d = 1 ∨ d = 2 ∨ d = 3 := by omega
  unfold AllE
  rcases this with rfl | rfl | rfl <;> rcases hp with rfl | rfl | rfl | rfl | rfl | rfl <;> decide
theorem vE_deg {d : Int} (hd : 1 ≤ d ∧ d ≤ 3) : ∀ e ∈ vE d, DegLe d (vdeg d) e := by
  have : d = 1 ∨ d = 2 ∨ d = 3 := by omega
  unfold DegLe
  rcases this with rfl | rfl | rfl <;> decide
theorem dE_mem {d : Int} (hd : 1 ≤ d ∧ d ≤ 3) : dE d ∈ vE d := by
  have : d = 1 ∨ d = 2 ∨ d = 3 := by omega
  rcases this with rfl | rfl | rfl <;> decide
theorem vlin_one {d : Int} (hd : 1 ≤ d ∧ d ≤ 3) {g : Ex → Int} (h : ∀ e ∈ vE d, e ≠ dE d → g e = 0) : vlin d g = g (dE d) := by
  have : d = 1 ∨ d = 2 ∨ d = 3 := by omega
  rcases this with rfl | rfl | rfl
  · rfl
  · have h1 := h (E 0 1 0) (by decide) (by decide)
    show g (E 1 0 0) - g (E 0 1 0) = g (E 1 0 0)
    omega
  · have h1 := h (E 2 0 1) (by decide) (by decide)
    have h2 := h (E 1 2 0) (by decide) (by decide)
    have h3 := h (E 1 0 2) (by decide) (by decide)
    have h4 := h (E 0 2 1) (by decide) (by decide)
    have h5 := h (E 0 1 2) (by decide) (by decide)
    show alt3 2 1 0 g = g (E 2 1 0)
    unfold alt3
    omega
theorem vdeg_le (d : Int) : vdeg d ≤ 3 := by unfold vdeg; split <;> first | omega | (split <;> omega)

theorem addE_cancel {x y z : Ex} (h : addE x y = addE x z) : y = z := by
  rw [addE_eq, addE_eq] at h
  simp only [Ex.mk.injEq] at h
  cases y; cases z
  simp only [Ex.mk.injEq]
  exact ⟨by simpa using h.1, by simpa using h.2.1, by simpa using h.2.2⟩
theorem lin_none {g : Ex → Int} : ∀ {ts : List Tm}, (∀ t ∈ ts, g t.e = 0) → lin ts g = 0
  | [], _ => rfl
  | t :: ts, h => by
    simp only [lin]
    rw [h t (List.mem_cons_self ..), lin_none fun u hu => h u (List.mem_cons_of_mem _ hu)]
    simp
theorem coef_ne_mem {ts : List Tm} {e : Ex} (h : coef ts e ≠ 0) : ∃ t ∈ ts, t.e = e := by
  apply Classical.byContradiction
  intro hn
  exact h (coef_none fun t ht he => hn ⟨t, ht, he⟩)
theorem max_of (W : Ex → Nat) : ∀ {ts : List Tm}, ts ≠ [] → ∃ t ∈ ts, ∀ u ∈ ts, W u.e ≤ W t.e
  | [], h => (h rfl).elim
  | [t], _ => ⟨t, by simp, by simp⟩
  | t :: u :: ts, _ => by
    obtain ⟨m, h1, h2⟩ := max_of W (ts := u :: ts) (by simp)
    by_cases h : W t.e ≤ W m.e
    · refine ⟨m, List.mem_cons_of_mem _ h1, fun x hx => ?_⟩
      rcases List.mem_cons.1 hx with rfl | hx
      · exact h
      · exact h2 x hx
    · refine ⟨t, List.mem_cons_self .., fun x hx => ?_⟩
      rcases List.mem_cons.1 hx with rfl | hx
      · exact Nat.le_refl _
      · have := h2 x hx; omega

/-- A product with the Vandermonde polynomial. -/
def byV (p d : Int) (q : List Tm) : List Tm := mulT p (vanT p d) q
theorem byV_can {p d : Int} (hp : 0 < p) (q : List Tm) : Can p (byV p d q) := mulT_can hp _ _
theorem byV_lin {p d : Int} (hp : Pr p) (hd : 1 ≤ d ∧ d ≤ 3) (q : List Tm) (f : Ex → Int) : Eqm p (lin (byV p d q) f) (vlin d fun x => lin q fun y => f (addE x y)) :=
  (mulT_lin (by have := hp.pos; omega) q f (vanT p d)).2.trans (vanT_lin hp hd _)
theorem leadV_ok {W : Ex → Nat} (hW : IsW W) {p d : Int} (hp : Pr p) (hd : 1 ≤ d ∧ d ≤ 3) {q : List Tm} (hq : Can p q) (hn : AllE (DegLe d 12) q) {t0 : Tm} (h0 : t0 ∈ q) (hm : ∀ t ∈ q, W t.e ≤ W t0.e) :
    coef (byV p d q) (addE (dE d) t0.e) = t0.v ∧ ∀ u ∈ byV p d q, W u.e ≤ W (addE (dE d) t0.e) := by
  have hpp := hp.pos
  have hv := vdeg_le d
  have had : ∀ e ∈ vE d, ∀ t ∈ q, W (addE e t.e) = W e + W t.e := fun e he t ht => hW.add _ _ (by have := (vE_deg hd e he).2.2; have := (hn t ht).2.2; omega)
  refine ⟨?_, ?_⟩
  · have hc := byV_can (p := p) (d := d) (by omega) q
    have h1 := byV_lin hp hd q fun x => if x = addE (dE d) t0.e then 1 else 0
    rw [lin_coef (asc_nodup hc.1), vlin_one hd] at h1
    · have e1 : (fun y : Ex => if addE (dE d) y = addE (dE d) t0.e then (1 : Int) else 0) = fun y => if y = t0.e then 1 else 0 := by
        funext y
        by_cases h : y = t0.e
        · rw [h, if_pos rfl, if_pos rfl]
        · rw [if_neg h, if_neg (fun q => h (addE_cancel q))]
      rw [e1, lin_coef (asc_nodup hq.1), coef_mem (asc_nodup hq.1) h0] at h1
      have hv := hq.2 t0 h0
      exact h1.eq (coef_bound (by omega) hc _) ⟨by omega, hv.2⟩
    · intro e he hne
      refine lin_none fun t ht => if_neg fun heq => ?_
      have h2 := had e he t ht
      rw [heq, had _ (dE_mem hd) t0 h0] at h2
      have h3 := hW.van d hd e he
      have h4 := hm t ht
      exact hne (hW.inj _ _ (by omega))
  · exact mulT_all (Q := fun e => W e ≤ W (addE (dE d) t0.e)) fun t h1 u h2 => by
      rw [had _ (van_all hp hd t h1) u h2, had _ (dE_mem hd) t0 h0]
      have := hW.van d hd _ (van_all hp hd t h1)
      have := hm u h2
      omega

/-- The state of a division: what is left, and what is told. -/
structure QInv (p d : Int) (q0 q out : List Tm) : Prop where
  can : Can p q
  deg : AllE (DegLe d (12 - vdeg d)) q
  ocan : Can p out
  odeg : AllE (DegLe d 12) out
  sum : ∀ f, Eqm p (lin out f + lin q f) (lin q0 f)
theorem QInv.start {p d : Int} {q0 : List Tm} (h : Can p q0) (hn : AllE (DegLe d (12 - vdeg d)) q0) : QInv p d q0 q0 [] :=
  ⟨h, hn, can_nil p, (fun t ht => by cases ht), fun f => Eqm.of_eq (by simp [lin])⟩
theorem QInv.done {p d : Int} (hp : 0 < p) {q0 out : List Tm} (h : QInv p d q0 [] out) (h0 : Can p q0) : out = q0 :=
  can_lin hp h.ocan h0 fun f => by simpa [lin] using h.sum f
theorem QInv.len {p d : Int} {q0 q out : List Tm} (h : QInv p d q0 q out) : q.length ≤ 455 ∧ out.length ≤ 455 :=
  ⟨can_len h.can h.deg (by omega), can_len h.ocan h.odeg (Nat.le_refl _)⟩
theorem QInv.nil {p d : Int} {q0 q out : List Tm} (h : QInv p d q0 q out) (hp : Pr p) (hd : 1 ≤ d ∧ d ≤ 3) : byV p d q = [] → q = [] := by
  intro hx
  apply Classical.byContradiction
  intro hne
  obtain ⟨t0, h1, h2⟩ := max_of wL hne
  have h3 := (leadV_ok wL_ok hp hd h.can (h.deg.mono fun e he => he.mono (by omega)) h1 h2).1
  rw [hx] at h3
  have := h.can.2 t0 h1
  simp only [coef] at h3; omega
/-- A step of a division. -/
theorem QInv.step {W : Ex → Nat} (hW : IsW W) {p d : Int} (hp : Pr p) (hd : 1 ≤ d ∧ d ≤ 3) {q0 q out : List Tm} (h : QInv p d q0 q out) {t : Tm} (ht : t ∈ byV p d q) (hm : ∀ u ∈ byV p d q, W u.e ≤ W t.e) :
    ∃ e q', t.e = addE (dE d) e ∧ DegLe d (12 - vdeg d) e ∧ q'.length < q.length ∧ 1 ≤ t.v ∧ t.v < p ∧
      (∀ x', Can p x' → (∀ f, Eqm p (lin x' f) (lin (byV p d q) f - t.v * vlin d fun x => f (addE x e))) → x' = byV p d q') ∧
      (∀ out', Can p out' → AllE (DegLe d 12) out' → (∀ f, Eqm p (lin out' f) (lin out f + t.v * f e)) → QInv p d q0 q' out') := by
  have hpp := hp.pos
  have hne : q ≠ [] := fun e => by
    subst e
    rw [show byV p d [] = [] from mulT_nil _] at ht
    cases ht
  obtain ⟨t0, h1, h2⟩ := max_of W hne
  have hcan := byV_can (p := p) (d := d) (by omega) q
  obtain ⟨h3, h4⟩ := leadV_ok hW hp hd h.can (h.deg.mono fun e he => he.mono (by omega)) h1 h2
  have hv := h.can.2 t0 h1
  obtain ⟨u, h5, h6⟩ := coef_ne_mem (ts := byV p d q) (e := addE (dE d) t0.e) (by rw [h3]; omega)
  have h7 := hm u h5
  have h8 := h4 t ht
  rw [← h6] at h8
  have h9 : t.e = u.e := hW.inj _ _ (by omega)
  have h10 : t.v = t0.v := by rw [← coef_mem (asc_nodup hcan.1) ht, h9, h6, h3]
  have h11 := fun f => lin_filter f t0.e (asc_nodup h.can.1)
  simp only [coef_mem (asc_nodup h.can.1) h1] at h11
  have hsub : (q.filter fun t => t.e ≠ t0.e).Sublist q := List.filter_sublist
  refine ⟨t0.e, q.filter fun t => t.e ≠ t0.e, by rw [h9, h6], h.deg t0 h1, ?_, by omega, by omega, ?_, ?_⟩
  · refine List.length_filter_lt_length_iff_exists.2 ⟨t0, h1, by simp⟩
  · intro x' hx' hl
    refine can_lin (by omega) hx' (byV_can (by omega) _) fun f => ?_
    refine (hl f).trans (Eqm.trans ?_ (byV_lin hp hd _ f).symm)
    obtain ⟨k, hk⟩ := byV_lin hp hd q f
    refine ⟨k, ?_⟩
    rw [hk]
    have e1 : (fun x => lin q fun y => f (addE x y)) = fun x => lin (q.filter fun t => t.e ≠ t0.e) (fun y => f (addE x y)) + t.v * f (addE x t0.e) := by
      funext x; rw [h11, h10]
    rw [e1, vlin_add, vlin_mul]
    omega
  · intro out' ho hd' hl
    refine ⟨⟨h.can.1.sublist hsub, fun u hu => h.can.2 u (hsub.subset hu)⟩, fun u hu => h.deg u (hsub.subset hu), ho, hd', fun f => ?_⟩
    obtain ⟨k, hk⟩ := hl f
    obtain ⟨l, hl2⟩ := h.sum f
    have := h11 f
    refine ⟨k + l, ?_⟩
    rw [hk]
    rw [this] at hl2
    rw [h10]
    grind

/-- A monomial with a number of the field. -/
theorem mono_one {p : Int} {e : Ex} {v : Int} (h : 1 ≤ v ∧ v < p) : mono p e v = [⟨e, v⟩] := by
  unfold mono putT
  simp only [coef, Int.add_zero]
  rw [Int.emod_eq_of_lt (by omega) h.2]
  have : (v == 0) = false := by simp; omega
  rw [this]
  simp [putGo]
end Go.Sm
