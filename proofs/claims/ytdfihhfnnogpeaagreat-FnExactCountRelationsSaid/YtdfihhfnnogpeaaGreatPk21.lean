/- Towards the rows of this seat: what the functions do, as contracts over plain data. -/
import Derived.Test.YtdfihhfnnogpeaaGreatPk17
import Derived.Test.YtdfihhfnnogpeaaGreatPk16
import Derived.Test.YtdfihhfnnogpeaaGreatPk20
namespace Go.Sm

def E (a b c : Nat) : Ex := ⟨UInt8.ofNat a, UInt8.ofNat b, UInt8.ofNat c⟩
theorem addE_E (a b c k l m : Nat) : addE (E a b c) (E k l m) = E (a + k) (b + l) (c + m) := by
  simp [addE_eq, E, UInt8.ofNat_add]
theorem E_of (e : Ex) : E e.a.toNat e.b.toNat e.c.toNat = e := by cases e; simp [E]
theorem degLe_E {d : Int} {n a b c : Nat} (h1 : d ≤ 1 → b = 0) (h2 : d ≤ 2 → c = 0) (h : a + b + c ≤ n) (hn : n ≤ 255) : DegLe d n (E a b c) := by
  refine ⟨fun hd => by rw [h1 hd]; rfl, fun hd => by rw [h2 hd]; rfl, ?_⟩
  simp only [Ex.deg, E, UInt8.toNat_ofNat']
  omega

/-- Alternating sums. -/
def alt3 (a b c : Nat) (f : Ex → Int) : Int := f (E a b c) - f (E a c b) - f (E b a c) + f (E b c a) + f (E c a b) - f (E c b a)
def alt2 (a b : Nat) (f : Ex → Int) : Int := f (E a b 0) - f (E b a 0)
def altd (d : Int) (a b c : Nat) (f : Ex → Int) : Int := if d = 1 then f (E a 0 0) else if d = 2 then alt2 a b f else alt3 a b c f
/-- The Vandermonde polynomial's sum. -/
def vlin (d : Int) (f : Ex → Int) : Int := altd d (if d = 1 then 0 else if d = 2 then 1 else 2) (if d = 2 then 0 else 1) 0 f
theorem vlin_add (d : Int) (f g : Ex → Int) : vlin d (fun e => f e + g e) = vlin d f + vlin d g := by
  unfold vlin altd alt2 alt3
  dsimp only
  split <;> first | rfl | (split <;> omega)
theorem vlin_mul (d c : Int) (f : Ex → Int) : vlin d (fun e => c * f e) = c * vlin d f := by
  unfold vlin altd alt2 alt3
  dsimp only
  split <;> first | rfl | (split <;> grind)
theorem vlin_congr {p d : Int} {f g : Ex → Int} (h : ∀ e, Eqm p (f e) (g e)) : Eqm p (vlin d f) (vlin d g) := by
  have h2 : ∀ {x y a b : Int}, Eqm p x y → Eqm p a b → Eqm p (x - a) (y - b) := fun ⟨k, h⟩ ⟨l, h2⟩ => ⟨k - l, by grind⟩
  unfold vlin altd alt2 alt3
  split
  · exact h _
  · split
    · exact h2 (h _) (h _)
    · exact h2 (((h2 (h2 (h _) (h _)) (h _)).add (h _)).add (h _)) (h _)

/-- A sum that is that of a product with the Vandermonde polynomial. -/
def Dv (d : Int) (n : Nat) (F : (Ex → Int) → Int) : Prop := ∃ s, AllE (DegLe d n) s ∧ ∀ f, F f = vlin d fun x => lin s fun y => f (addE x y)
theorem Dv.mono {d : Int} {n m : Nat} {F : (Ex → Int) → Int} (h : Dv d n F) (hn : n ≤ m) : Dv d m F := by
  obtain ⟨s, h1, h2⟩ := h
  exact ⟨s, h1.mono fun e he => he.mono hn, h2⟩
theorem Dv.zero (d : Int) (n : Nat) {F : (Ex → Int) → Int} (h : ∀ f, F f = 0) : Dv d n F := by
  refine ⟨[], fun t ht => ?_, fun f => ?_⟩
  · cases ht
  · rw [h]; simp [vlin, altd, alt2, alt3, lin]
theorem Dv.add {d : Int} {n : Nat} {F G H : (Ex → Int) → Int} (h : Dv d n F) (g : Dv d n G) (hH : ∀ f, H f = F f + G f) : Dv d n H := by
  obtain ⟨s, h1, h2⟩ := h
  obtain ⟨t, g1, g2⟩ := g
  refine ⟨s ++ t, fun x hx => ?_, fun f => ?_⟩
  · rcases List.mem_append.1 hx with hx | hx
    · exact h1 x hx
    · exact g1 x hx
  · rw [hH, h2, g2, ← vlin_add]
    simp only [lin_append]
theorem lin_smul (c : Int) (f : Ex → Int) : ∀ ts : List Tm, lin (ts.map fun t => ⟨t.e, c * t.v⟩) f = c * lin ts f
  | [] => by simp [lin]
  | t :: ts => by simp only [List.map_cons, lin, lin_smul c f ts]; grind
theorem lin_shift (e : Ex) (f : Ex → Int) : ∀ ts : List Tm, lin (ts.map fun t => ⟨addE t.e e, t.v⟩) f = lin ts fun x => f (addE x e)
  | [] => rfl
  | t :: ts => by simp only [List.map_cons, lin, lin_shift e f ts]
theorem Dv.smul {d : Int} {n : Nat} {F H : (Ex → Int) → Int} (h : Dv d n F) (c : Int) (hH : ∀ f, H f = c * F f) : Dv d n H := by
  obtain ⟨s, h1, h2⟩ := h
  refine ⟨s.map fun t => ⟨t.e, c * t.v⟩, fun x hx => ?_, fun f => ?_⟩
  · obtain ⟨y, hy, rfl⟩ := List.mem_map.1 hx
    exact h1 y hy
  · rw [hH, h2, ← vlin_mul]
    simp only [lin_smul]
theorem Dv.shift {d : Int} {n k : Nat} {F H : (Ex → Int) → Int} (h : Dv d n F) {e : Ex} (he : DegLe d k e) (hnk : n + k ≤ 255) (hH : ∀ f, H f = F fun x => f (addE x e)) : Dv d (n + k) H := by
  obtain ⟨s, h1, h2⟩ := h
  refine ⟨s.map fun t => ⟨addE t.e e, t.v⟩, fun x hx => ?_, fun f => ?_⟩
  · obtain ⟨y, hy, rfl⟩ := List.mem_map.1 hx
    exact (h1 y hy).add he hnk
  · rw [hH, h2]
    simp only [lin_shift, addE_assoc]

theorem alt2_dv : ∀ m a b : Nat, 20 * (a + b) + a ≤ m → b < a → a + b ≤ 13 → Dv 2 (a + b - 1) (alt2 a b)
  | 0, _, _, h, hb, _ => by omega
  | m + 1, a, b, h, hb, hn => by
    cases b with
    | succ b =>
      obtain ⟨a, rfl⟩ : ∃ k, a = k + 1 := ⟨a - 1, by omega⟩
      refine Dv.mono ((alt2_dv m a b (by omega) (by omega) (by omega)).shift (k := 2) (e := E 1 1 0) (degLe_E (by omega) (by omega) (by omega) (by omega)) (by omega) fun f => ?_) (by omega)
      simp only [alt2, addE_E, Nat.add_zero]
    | zero =>
      by_cases h1 : a = 1
      · subst h1
        refine ⟨[⟨e0, 1⟩], fun t ht => ?_, fun f => ?_⟩
        · rw [List.mem_singleton] at ht; subst ht
          exact degLe_E (a := 0) (b := 0) (c := 0) (by omega) (by omega) (by omega) (by omega)
        · simp [vlin, altd, lin, addE_zero]
      · obtain ⟨a, rfl⟩ : ∃ k, a = k + 2 := ⟨a - 2, by omega⟩
        have i1 := alt2_dv m (a + 1) 0 (by omega) (by omega) (by omega)
        have s1 := i1.shift (k := 1) (e := E 1 0 0) (degLe_E (by omega) (by omega) (by omega) (by omega)) (by omega) fun f => rfl
        have s2 := i1.shift (k := 1) (e := E 0 1 0) (degLe_E (by omega) (by omega) (by omega) (by omega)) (by omega) fun f => rfl
        have s3 : Dv 2 (a + 1 + 0 - 1 + 1) (alt2 (a + 1) 1) := by
          by_cases h2 : a = 0
          · subst h2
            exact Dv.zero _ _ fun f => by simp [alt2]
          · refine Dv.mono ((alt2_dv m a 0 (by omega) (by omega) (by omega)).shift (k := 2) (e := E 1 1 0) (degLe_E (by omega) (by omega) (by omega) (by omega)) (by omega) fun f => ?_) (by omega)
            simp only [alt2, addE_E, Nat.zero_add, Nat.add_zero]
        refine Dv.mono ((s1.add s2 fun f => rfl).add (s3.smul (-1) fun f => rfl) fun f => ?_) (by omega)
        simp only [alt2, addE_E, Nat.zero_add, Nat.add_zero, Nat.add_assoc, Nat.reduceAdd]
        omega

theorem alt3_zero {a b c : Nat} (h : a = b ∨ b = c) (f : Ex → Int) : alt3 a b c f = 0 := by
  unfold alt3
  rcases h with rfl | rfl <;> omega
theorem alt3_dv : ∀ m a b c : Nat, 20 * (a + b + c) + a ≤ m + b → c < b → b < a → a + b + c ≤ 15 → Dv 3 (a + b + c - 3) (alt3 a b c)
  | 0, _, _, _, h, _, _, _ => by omega
  | m + 1, a, b, c, h, hc, hb, hn => by
    cases c with
    | succ c =>
      obtain ⟨a, rfl⟩ : ∃ k, a = k + 1 := ⟨a - 1, by omega⟩
      obtain ⟨b, rfl⟩ : ∃ k, b = k + 1 := ⟨b - 1, by omega⟩
      refine Dv.mono ((alt3_dv m a b c (by omega) (by omega) (by omega) (by omega)).shift (k := 3) (e := E 1 1 1) (degLe_E (by omega) (by omega) (by omega) (by omega)) (by omega) fun f => ?_) (by omega)
      simp only [alt3, addE_E]
    | zero =>
      by_cases hab : a = b + 1
      · by_cases hb1 : b = 1
        · subst hab; subst hb1
          refine ⟨[⟨e0, 1⟩], fun t ht => ?_, fun f => ?_⟩
          · rw [List.mem_singleton] at ht; subst ht
            exact degLe_E (a := 0) (b := 0) (c := 0) (by omega) (by omega) (by omega) (by omega)
          · simp [vlin, altd, lin, addE_zero]
        · obtain ⟨b, rfl⟩ : ∃ k, b = k + 2 := ⟨b - 2, by omega⟩
          subst hab
          have i1 := alt3_dv m (b + 2) (b + 1) 0 (by omega) (by omega) (by omega) (by omega)
          have s1 := i1.shift (k := 2) (e := E 1 1 0) (degLe_E (by omega) (by omega) (by omega) (by omega)) (by omega) fun f => rfl
          have s2 := i1.shift (k := 2) (e := E 1 0 1) (degLe_E (by omega) (by omega) (by omega) (by omega)) (by omega) fun f => rfl
          have s3 := i1.shift (k := 2) (e := E 0 1 1) (degLe_E (by omega) (by omega) (by omega) (by omega)) (by omega) fun f => rfl
          have s4 : Dv 3 (b + 2 + (b + 1) + 0 - 3 + 2) (alt3 (b + 3) (b + 1) 1) := by
            by_cases h2 : b = 0
            · subst h2
              exact Dv.zero _ _ (alt3_zero (by omega))
            · refine Dv.mono ((alt3_dv m (b + 2) b 0 (by omega) (by omega) (by omega) (by omega)).shift (k := 3) (e := E 1 1 1) (degLe_E (by omega) (by omega) (by omega) (by omega)) (by omega) fun f => ?_) (by omega)
              simp only [alt3, addE_E, Nat.zero_add, Nat.add_assoc, Nat.reduceAdd]
          refine Dv.mono ((((s1.add s2 fun f => rfl).add s3 fun f => rfl).add (s4.smul (-1) fun f => rfl)) fun f => ?_) (by omega)
          simp only [alt3, addE_E, Nat.zero_add, Nat.add_zero, Nat.add_assoc, Nat.reduceAdd]
          omega
      · obtain ⟨a, rfl⟩ : ∃ k, a = k + 2 := ⟨a - 2, by omega⟩
        obtain ⟨b, rfl⟩ : ∃ k, b = k + 1 := ⟨b - 1, by omega⟩
        have i1 := alt3_dv m (a + 1) (b + 1) 0 (by omega) (by omega) (by omega) (by omega)
        have s1 := i1.shift (k := 1) (e := E 1 0 0) (degLe_E (by omega) (by omega) (by omega) (by omega)) (by omega) fun f => rfl
        have s2 := i1.shift (k := 1) (e := E 0 1 0) (degLe_E (by omega) (by omega) (by omega) (by omega)) (by omega) fun f => rfl
        have s3 := i1.shift (k := 1) (e := E 0 0 1) (degLe_E (by omega) (by omega) (by omega) (by omega)) (by omega) fun f => rfl
        have s4 : Dv 3 (a + 1 + (b + 1) + 0 - 3 + 1) (alt3 (a + 1) (b + 1) 1) := by
          by_cases h2 : b = 0
          · subst h2
            exact Dv.zero _ _ (alt3_zero (by omega))
          · refine Dv.mono ((alt3_dv m a b 0 (by omega) (by omega) (by omega) (by omega)).shift (k := 3) (e := E 1 1 1) (degLe_E (by omega) (by omega) (by omega) (by omega)) (by omega) fun f => ?_) (by omega)
            simp only [alt3, addE_E, Nat.zero_add]
        have s5 : Dv 3 (a + 1 + (b + 1) + 0 - 3 + 1) (alt3 (a + 1) (b + 2) 0) := by
          by_cases h2 : a = b + 1
          · subst h2
            exact Dv.zero _ _ (alt3_zero (by omega))
          · exact Dv.mono (alt3_dv m (a + 1) (b + 2) 0 (by omega) (by omega) (by omega) (by omega)) (by omega)
        refine Dv.mono ((((s1.add s2 fun f => rfl).add s3 fun f => rfl).add (s4.smul (-1) fun f => rfl) fun f => rfl).add (s5.smul (-1) fun f => rfl) fun f => ?_) (by omega)
        simp only [alt3, addE_E, Nat.zero_add, Nat.add_zero, Nat.add_assoc, Nat.reduceAdd]
        omega

/-- The degree of the Vandermonde polynomial. -/
def vdeg (d : Int) : Nat := if d = 1 then 0 else if d = 2 then 1 else 3
/-- Exponents that go down. -/
def Down (d : Int) (a b c : Nat) : Prop := (d = 1 → b = 0) ∧ (d ≤ 2 → c = 0) ∧ (2 ≤ d → b < a) ∧ (d = 3 → c < b)
theorem altd_dv {d : Int} (hd : 1 ≤ d ∧ d ≤ 3) {a b c n : Nat} (h : Down d a b c) (hn : a + b + c ≤ n) (h12 : n ≤ 12) : Dv d (n - vdeg d) (altd d a b c) := by
  obtain ⟨h1, h2, h3, h4⟩ := h
  have : d = 1 ∨ d = 2 ∨ d = 3 := by omega
  rcases this with rfl | rfl | rfl
  · refine ⟨[⟨E a 0 0, 1⟩], fun t ht => ?_, fun f => ?_⟩
    · rw [List.mem_singleton] at ht; subst ht
      exact degLe_E (by omega) (by omega) (by simp [vdeg]; omega) (by omega)
    · simp [vlin, altd, lin, addE_E]
  · have hc := h2 (by omega)
    subst hc
    refine Dv.mono (F := altd 2 a b 0) ?_ (show a + b - 1 ≤ n - vdeg 2 by simp [vdeg]; omega)
    have := alt2_dv _ a b (Nat.le_refl _) (h3 (by omega)) (by omega)
    exact this
  · refine Dv.mono (F := altd 3 a b c) ?_ (show a + b + c - 3 ≤ n - vdeg 3 by simp [vdeg]; omega)
    exact alt3_dv (20 * (a + b + c) + a) a b c (by omega) (h4 (by omega)) (h3 (by omega)) (by omega)

/-! ### the program's Vandermonde polynomial -/
theorem fct_lin {p : Int} (hp : Pr p) (i k : Nat) (f : Ex → Int) : Eqm p (lin (fct p i k) f) (f (unE i) - f (unE k)) := by
  have hpp := hp.pos
  unfold fct mono
  obtain ⟨k1, h1⟩ := lin_putT (can_nil p) (unE i) 1 f
  obtain ⟨k2, h2⟩ := lin_putT (mono_can (show 0 < p by omega) (unE i) 1) (unE k) (p - 1) f
  unfold mono at h2
  exact ⟨k1 + k2 + f (unE k), by simp only [lin] at h1; grind⟩
theorem Eqm.trans_eq {p x y z : Int} (h : Eqm p x y) (e : y = z) : Eqm p x z := e ▸ h
theorem vanT_lin {p d : Int} (hp : Pr p) (hd : 1 ≤ d ∧ d ≤ 3) (f : Ex → Int) : Eqm p (lin (vanT p d) f) (vlin d f) := by
  have hpp := hp.pos
  have e1 : ∀ f, Eqm p (lin (van1 p) f) (f e0) := fun f => by
    have := lin_putT (can_nil p) e0 1 f
    simpa [lin, van1, mono] using this
  have e2 : ∀ f, Eqm p (lin (van2 p) f) (f (unE 0) - f (unE 1)) := fun f => by
    refine ((mulT_lin (by omega) (fct p 0 1) f (van1 p)).2.trans (e1 _)).trans ((fct_lin hp 0 1 _).trans_eq ?_)
    simp only [zero_addE]
  have e3 : ∀ f, Eqm p (lin (van3 p) f) (f (addE (unE 0) (unE 0)) - f (addE (unE 0) (unE 2)) - (f (addE (unE 1) (unE 0)) - f (addE (unE 1) (unE 2)))) := fun f => by
    refine ((mulT_lin (by omega) (fct p 0 2) f (van2 p)).2.trans (e2 _)).trans ?_
    obtain ⟨k, h⟩ := fct_lin hp 0 2 fun y => f (addE (unE 0) y)
    obtain ⟨l, g⟩ := fct_lin hp 0 2 fun y => f (addE (unE 1) y)
    exact ⟨k - l, by rw [h, g]; grind⟩
  have : d = 1 ∨ d = 2 ∨ d = 3 := by omega
  rcases this with rfl | rfl | rfl
  · exact e1 f
  · exact e2 f
  · show Eqm p (lin (van4 p) f) (alt3 2 1 0 f)
    refine ((mulT_lin (by omega) (fct p 1 2) f (van3 p)).2.trans (e3 _)).trans ?_
    have g := fun x => fct_lin hp 1 2 fun y => f (addE x y)
    obtain ⟨k1, h1⟩ := g (addE (unE 0) (unE 0))
    obtain ⟨k2, h2⟩ := g (addE (unE 0) (unE 2))
    obtain ⟨k3, h3⟩ := g (addE (unE 1) (unE 0))
    obtain ⟨k4, h4⟩ := g (addE (unE 1) (unE 2))
    refine ⟨k1 - k2 - (k3 - k4), ?_⟩
    rw [h1, h2, h3, h4]
    have u0 : unE 0 = E 1 0 0 := rfl
    have u1 : unE 1 = E 0 1 0 := rfl
    have u2 : unE 2 = E 0 0 1 := rfl
    simp only [u0, u1, u2, addE_E, alt3, Nat.zero_add, Nat.add_zero, Nat.reduceAdd]
    grind
end Go.Sm

namespace Go.Sm

/-- The first exponents of the Vandermonde polynomial. -/
def dE (d : Int) : Ex := if d = 1 then E 0 0 0 else if d = 2 then E 1 0 0 else E 2 1 0
def vE (d : Int) : List Ex := if d = 1 then [E 0 0 0] else if d = 2 then [E 1 0 0, E 0 1 0] else [E 2 1 0, E 2 0 1, E 1 2 0, E 1 0 2, E 0 2 1, E 0 1 2]
structure IsW (W : Ex → Nat) : Prop where
  add : ∀ x y : Ex, x.deg + y.deg ≤ 255 → W (addE x y) = W x + W y
  inj : ∀ x y : Ex, W x = W y → x = y
  van : ∀ d : Int, 1 ≤ d ∧ d ≤ 3 → ∀ e ∈ vE d, W e ≤ W (dE d)
theorem ex_inj {x y : Ex} (h1 : x.a.toNat = y.a.toNat) (h2 : x.b.toNat = y.b.toNat) (h3 : x.c.toNat = y.c.toNat) : x = y := by
  cases x; cases y
  simp only [Ex.mk.injEq]
  exact ⟨UInt8.toNat.inj h1, UInt8.toNat.inj h2, UInt8.toNat.inj h3⟩
theorem wL_ok : IsW wL := by
  refine ⟨fun x y h => ?_, fun x y h => ?_, fun d hd => ?_⟩
  · unfold Ex.deg at h
    simp only [wL, addE_eq, UInt8.toNat_add]
    rw [Nat.mod_eq_of_lt (by omega : x.a.toNat + y.a.toNat < 2 ^ 8), Nat.mod_eq_of_lt (by omega : x.b.toNat + y.b.toNat < 2 ^ 8), Nat.mod_eq_of_lt (by omega : x.c.toNat + y.c.toNat < 2 ^ 8)]
    omega
  · have := u8_lt x.a; have := u8_lt x.b; have := u8_lt x.c; have := u8_lt y.a; have := u8_lt y.b; have := u8_lt y.c
    unfold wL at h
    exact ex_inj (by omega) (by omega) (by omega)
  · have : d = 1 ∨ d = 2 ∨ d = 3 := by omega
    rcases this with rfl | rfl | rfl <;> simp [vE, dE, E, wL]
theorem wG_ok : IsW wG := by
  refine ⟨fun x y h => ?_, fun x y h => ?_, fun d hd => ?_⟩
  · unfold Ex.deg at h
    simp only [wG, addE_eq, UInt8.toNat_add]
    rw [Nat.mod_eq_of_lt (by omega : x.a.toNat + y.a.toNat < 2 ^ 8), Nat.mod_eq_of_lt (by omega : x.b.toNat + y.b.toNat < 2 ^ 8), Nat.mod_eq_of_lt (by omega : x.c.toNat + y.c.toNat < 2 ^ 8)]
    omega
  · have h1 := u8_lt x.a; have h2 := u8_lt x.b; have h3 := u8_lt x.c; have h4 := u8_lt y.a; have h5 := u8_lt y.b; have h6 := u8_lt y.c
    unfold wG at h
    generalize hs : x.a.toNat + x.b.toNat + x.c.toNat = s at h
    generalize ht : y.a.toNat + y.b.toNat + y.c.toNat = t at h
    have e1 : s = t := by omega
    have e2 : x.a.toNat = y.a.toNat := by omega
    have e3 : x.b.toNat = y.b.toNat := by omega
    exact ex_inj e2 e3 (by omega)
  · have : d = 1 ∨ d = 2 ∨ d = 3 := by omega
    rcases this with rfl | rfl | rfl <;> simp [vE, dE, E, wG]

theorem van_all {p d : Int} (hp : Pr p) (hd : 1 ≤ d ∧ d ≤ 3) : AllE (fun e => e ∈ vE d) (vanT p d) := by
  have : d = 1 ∨ d = 2 ∨ d = 3 := by omega
  unfold AllE
  rcases this with rfl | rfl | rfl <;> rcases hp with rfl | rfl | rfl | rfl | rfl | rfl <;> decide
theorem vE_deg {d : Int} (hd : 1 ≤ d ∧ d ≤ 3) : ∀ e ∈ vE d, DegLe d (vdeg d) e := by
  have : d = 1 ∨ d = 2 ∨ d = 3 := by omega
  unfold DegLe
  rcases this with rfl | rfl | rfl <;> decide
theorem dE_mem {d : Int} (hd : 1 ≤ d ∧ d ≤ 3) : dE d ∈ vE d := by
  have : d = 1 ∨ d = 2 ∨ d = 3 := by omega
  rcases this with rfl | rfl | rfl <;> decide
theorem vlin_one {d : Int} (hd : 1 ≤ d ∧ d ≤ 3) {g : Ex → Int} (h : ∀ e ∈ vE d, e ≠ dE d → g e = 0) : vlin d g = g (dE d) := by
  have : d = 1 ∨ d = 2 ∨ d = 3 := by omega
  rcases this with rfl | rfl | rfl
  · rfl
  · have h1 := h (E 0 1 0) (by decide) (by decide)
    show g (E 1 0 0) - g (E 0 1 0) = g (E 1 0 0)
    omega
  · have h1 := h (E 2 0 1) (by decide) (by decide)
    have h2 := h (E 1 2 0) (by decide) (by decide)
    have h3 := h (E 1 0 2) (by decide) (by decide)
    have h4 := h (E 0 2 1) (by decide) (by decide)
    have h5 := h (E 0 1 2) (by decide) (by decide)
    show alt3 2 1 0 g = g (E 2 1 0)
    unfold alt3
    omega
theorem vdeg_le (d : Int) : vdeg d ≤ 3 := by unfold vdeg; split <;> first | omega | (split <;> omega)

theorem addE_cancel {x y z : Ex} (h : addE x y = addE x z) : y = z := by
  rw [addE_eq, addE_eq] at h
  simp only [Ex.mk.injEq] at h
  cases y; cases z
  simp only [Ex.mk.injEq]
  exact ⟨by simpa using h.1, by simpa using h.2.1, by simpa using h.2.2⟩
theorem lin_none {g : Ex → Int} : ∀ {ts : List Tm}, (∀ t ∈ ts, g t.e = 0) → lin ts g = 0
  | [], _ => rfl
  | t :: ts, h => by
    simp only [lin]
    rw [h t (List.mem_cons_self ..), lin_none fun u hu => h u (List.mem_cons_of_mem _ hu)]
    simp
theorem coef_ne_mem {ts : List Tm} {e : Ex} (h : coef ts e ≠ 0) : ∃ t ∈ ts, t.e = e := by
  apply Classical.byContradiction
  intro hn
  exact h (coef_none fun t ht he => hn ⟨t, ht, he⟩)
theorem max_of (W : Ex → Nat) : ∀ {ts : List Tm}, ts ≠ [] → ∃ t ∈ ts, ∀ u ∈ ts, W u.e ≤ W t.e
  | [], h => (h rfl).elim
  | [t], _ => ⟨t, by simp, by simp⟩
  | t :: u :: ts, _ => by
    obtain ⟨m, h1, h2⟩ := max_of W (ts := u :: ts) (by simp)
    by_cases h : W t.e ≤ W m.e
    · refine ⟨m, List.mem_cons_of_mem _ h1, fun x hx => ?_⟩
      rcases List.mem_cons.1 hx with rfl | hx
      · exact h
      · exact h2 x hx
    · refine ⟨t, List.mem_cons_self .., fun x hx => ?_⟩
      rcases List.mem_cons.1 hx with rfl | hx
      · exact Nat.le_refl _
      · have := h2 x hx; omega

/-- A product with the Vandermonde polynomial. -/
def byV (p d : Int) (q : List Tm) : List Tm := mulT p (vanT p d) q
theorem byV_can {p d : Int} (hp : 0 < p) (q : List Tm) : Can p (byV p d q) := mulT_can hp _ _
theorem byV_lin {p d : Int} (hp : Pr p) (hd : 1 ≤ d ∧ d ≤ 3) (q : List Tm) (f : Ex → Int) : Eqm p (lin (byV p d q) f) (vlin d fun x => lin q fun y => f (addE x y)) :=
  (mulT_lin (by have := hp.pos; omega) q f (vanT p d)).2.trans (vanT_lin hp hd _)
theorem byV_deg {p d : Int} (hp : Pr p) (hd : 1 ≤ d ∧ d ≤ 3) {q : List Tm} {n : Nat} (hq : AllE (DegLe d n) q) (hn : n ≤ 12) : AllE (DegLe d (n + vdeg d)) (byV p d q) := by
  have hv := vdeg_le d
  rw [Nat.add_comm]
  exact mulT_deg ((van_all hp hd).mono (vE_deg hd)) hq (by omega)
theorem leadV_ok {W : Ex → Nat} (hW : IsW W) {p d : Int} (hp : Pr p) (hd : 1 ≤ d ∧ d ≤ 3) {q : List Tm} (hq : Can p q) (hn : AllE (DegLe d 12) q) {t0 : Tm} (h0 : t0 ∈ q) (hm : ∀ t ∈ q, W t.e ≤ W t0.e) :
    coef (byV p d q) (addE (dE d) t0.e) = t0.v ∧ ∀ u ∈ byV p d q, W u.e ≤ W (addE (dE d) t0.e) := by
  have hpp := hp.pos
  have hv := vdeg_le d
  have had : ∀ e ∈ vE d, ∀ t ∈ q, W (addE e t.e) = W e + W t.e := fun e he t ht => hW.add _ _ (by have := (vE_deg hd e he).2.2; have := (hn t ht).2.2; omega)
  refine ⟨?_, ?_⟩
  · have hc := byV_can (p := p) (d := d) (by omega) q
    have h1 := byV_lin hp hd q fun x => if x = addE (dE d) t0.e then 1 else 0
    rw [lin_coef (asc_nodup hc.1), vlin_one hd] at h1
    · have e1 : (fun y : Ex => if addE (dE d) y = addE (dE d) t0.e then (1 : Int) else 0) = fun y => if y = t0.e then 1 else 0 := by
        funext y
        by_cases h : y = t0.e
        · rw [h, if_pos rfl, if_pos rfl]
        · rw [if_neg h, if_neg (fun q => h (addE_cancel q))]
      rw [e1, lin_coef (asc_nodup hq.1), coef_mem (asc_nodup hq.1) h0] at h1
      have hv := hq.2 t0 h0
      exact h1.eq (coef_bound (by omega) hc _) ⟨by omega, hv.2⟩
    · intro e he hne
      refine lin_none fun t ht => if_neg fun heq => ?_
      have h2 := had e he t ht
      rw [heq, had _ (dE_mem hd) t0 h0] at h2
      have h3 := hW.van d hd e he
      have h4 := hm t ht
      exact hne (hW.inj _ _ (by omega))
  · exact mulT_all (Q := fun e => W e ≤ W (addE (dE d) t0.e)) fun t h1 u h2 => by
      rw [had _ (van_all hp hd t h1) u h2, had _ (dE_mem hd) t0 h0]
      have := hW.van d hd _ (van_all hp hd t h1)
      have := hm u h2
      omega

/-- The state of a division: what is left, and what is told. -/
structure QInv (p d : Int) (q0 q out : List Tm) : Prop where
  can : Can p q
  deg : AllE (DegLe d (12 - vdeg d)) q
  ocan : Can p out
  odeg : AllE (DegLe d 12) out
  sum : ∀ f, Eqm p (lin out f + lin q f) (lin q0 f)
theorem QInv.start {p d : Int} {q0 : List Tm} (h : Can p q0) (hn : AllE (DegLe d (12 - vdeg d)) q0) : QInv p d q0 q0 [] :=
  ⟨h, hn, can_nil p, (fun t ht => by cases ht), fun f => Eqm.of_eq (by simp [lin])⟩
theorem QInv.done {p d : Int} (hp : 0 < p) {q0 out : List Tm} (h : QInv p d q0 [] out) (h0 : Can p q0) : out = q0 :=
  can_lin hp h.ocan h0 fun f => by simpa [lin] using h.sum f
theorem QInv.len {p d : Int} {q0 q out : List Tm} (h : QInv p d q0 q out) : q.length ≤ 455 ∧ out.length ≤ 455 :=
  ⟨can_len h.can h.deg (by omega), can_len h.ocan h.odeg (Nat.le_refl _)⟩
theorem QInv.xlen {p d : Int} {q0 q out : List Tm} (h : QInv p d q0 q out) (hp : Pr p) (hd : 1 ≤ d ∧ d ≤ 3) : (byV p d q).length ≤ 455 := by
  have := vdeg_le d
  have h1 := byV_deg hp hd h.deg (by omega)
  exact can_len (byV_can (by have := hp.pos; omega) q) h1 (by omega)
theorem QInv.nil {p d : Int} {q0 q out : List Tm} (h : QInv p d q0 q out) (hp : Pr p) (hd : 1 ≤ d ∧ d ≤ 3) : byV p d q = [] → q = [] := by
  intro hx
  apply Classical.byContradiction
  intro hne
  obtain ⟨t0, h1, h2⟩ := max_of wL hne
  have h3 := (leadV_ok wL_ok hp hd h.can (h.deg.mono fun e he => he.mono (by omega)) h1 h2).1
  rw [hx] at h3
  have := h.can.2 t0 h1
  simp only [coef] at h3; omega
/-- A step of a division. -/
theorem QInv.step {W : Ex → Nat} (hW : IsW W) {p d : Int} (hp : Pr p) (hd : 1 ≤ d ∧ d ≤ 3) {q0 q out : List Tm} (h : QInv p d q0 q out) {t : Tm} (ht : t ∈ byV p d q) (hm : ∀ u ∈ byV p d q, W u.e ≤ W t.e) :
    ∃ e q', t.e = addE (dE d) e ∧ DegLe d (12 - vdeg d) e ∧ q'.length < q.length ∧ 1 ≤ t.v ∧ t.v < p ∧
      (∀ x', Can p x' → (∀ f, Eqm p (lin x' f) (lin (byV p d q) f - t.v * vlin d fun x => f (addE x e))) → x' = byV p d q') ∧
      (∀ out', Can p out' → AllE (DegLe d 12) out' → (∀ f, Eqm p (lin out' f) (lin out f + t.v * f e)) → QInv p d q0 q' out') := by
  have hpp := hp.pos
  have hne : q ≠ [] := fun e => by
    subst e
    rw [show byV p d [] = [] from mulT_nil _] at ht
    cases ht
  obtain ⟨t0, h1, h2⟩ := max_of W hne
  have hcan := byV_can (p := p) (d := d) (by omega) q
  obtain ⟨h3, h4⟩ := leadV_ok hW hp hd h.can (h.deg.mono fun e he => he.mono (by omega)) h1 h2
  have hv := h.can.2 t0 h1
  obtain ⟨u, h5, h6⟩ := coef_ne_mem (ts := byV p d q) (e := addE (dE d) t0.e) (by rw [h3]; omega)
  have h7 := hm u h5
  have h8 := h4 t ht
  rw [← h6] at h8
  have h9 : t.e = u.e := hW.inj _ _ (by omega)
  have h10 : t.v = t0.v := by rw [← coef_mem (asc_nodup hcan.1) ht, h9, h6, h3]
  have h11 := fun f => lin_filter f t0.e (asc_nodup h.can.1)
  simp only [coef_mem (asc_nodup h.can.1) h1] at h11
  have hsub : (q.filter fun t => t.e ≠ t0.e).Sublist q := List.filter_sublist
  refine ⟨t0.e, q.filter fun t => t.e ≠ t0.e, by rw [h9, h6], h.deg t0 h1, ?_, by omega, by omega, ?_, ?_⟩
  · refine List.length_filter_lt_length_iff_exists.2 ⟨t0, h1, by simp⟩
  · intro x' hx' hl
    refine can_lin (by omega) hx' (byV_can (by omega) _) fun f => ?_
    refine (hl f).trans (Eqm.trans ?_ (byV_lin hp hd _ f).symm)
    obtain ⟨k, hk⟩ := byV_lin hp hd q f
    refine ⟨k, ?_⟩
    rw [hk]
    have e1 : (fun x => lin q fun y => f (addE x y)) = fun x => lin (q.filter fun t => t.e ≠ t0.e) (fun y => f (addE x y)) + t.v * f (addE x t0.e) := by
      funext x; rw [h11, h10]
    rw [e1, vlin_add, vlin_mul]
    omega
  · intro out' ho hd' hl
    refine ⟨⟨h.can.1.sublist hsub, fun u hu => h.can.2 u (hsub.subset hu)⟩, fun u hu => h.deg u (hsub.subset hu), ho, hd', fun f => ?_⟩
    obtain ⟨k, hk⟩ := hl f
    obtain ⟨l, hl2⟩ := h.sum f
    have := h11 f
    refine ⟨k + l, ?_⟩
    rw [hk]
    rw [this] at hl2
    rw [h10]
    grind

/-- A monomial with a number of the field. -/
theorem mono_one {p : Int} {e : Ex} {v : Int} (h : 1 ≤ v ∧ v < p) : mono p e v = [⟨e, v⟩] := by
  unfold mono putT
  simp only [coef, Int.add_zero]
  rw [Int.emod_eq_of_lt (by omega) h.2]
  have : (v == 0) = false := by simp; omega
  rw [this]
  simp [putGo]
theorem QInv.stepI {W : Ex → Nat} (hW : IsW W) {p d : Int} (hp : Pr p) (hd : 1 ≤ d ∧ d ≤ 3) {q0 q out : List Tm} (h : QInv p d q0 q out) {t : Tm} (ht : t ∈ byV p d q) (hm : ∀ u ∈ byV p d q, W u.e ≤ W t.e) :
    ∃ e q', t.e = addE (dE d) e ∧ DegLe d (12 - vdeg d) e ∧ q'.length < q.length ∧ 1 ≤ t.v ∧ t.v < p ∧
      plusT p (byV p d q) (mulT p (mono p e t.v) (vanT p d)) (p - 1) = byV p d q' ∧ QInv p d q0 q' (plusT p out (mono p e t.v) 1) := by
  have hpp := hp.pos
  obtain ⟨e, q', h1, h2, h3, h4, h5, h6, h7⟩ := h.step hW hp hd ht hm
  refine ⟨e, q', h1, h2, h3, h4, h5, h6 _ (plusT_can (by omega) (byV_can (by omega) q) _ _) fun f => ?_, h7 _ (plusT_can (by omega) h.ocan _ _) ?_ fun f => ?_⟩
  · refine (plusT_lin (by omega) (byV_can (by omega) q) (p - 1) f _).2.trans ?_
    obtain ⟨k, hk⟩ := (mulT_lin (p := p) (by omega) (vanT p d) f (mono p e t.v)).2
    rw [mono_one ⟨h4, h5⟩] at hk ⊢
    obtain ⟨l, hl⟩ := vanT_lin hp hd fun y => f (addE e y)
    simp only [lin, hl] at hk
    rw [hk]
    simp only [addE_comm _ e]
    refine ⟨(p - 1) * (k + t.v * l) + t.v * vlin d fun x => f (addE e x), ?_⟩
    grind
  · refine plusT_all h.odeg ?_
    rw [mono_one ⟨h4, h5⟩]
    intro u hu
    rw [List.mem_singleton] at hu
    rw [hu]
    exact h2.mono (by omega)
  · have := (plusT_lin (p := p) (by omega) h.ocan 1 f (mono p e t.v)).2
    rw [mono_one ⟨h4, h5⟩] at this ⊢
    simpa [lin] using this
theorem QInv.stepS {W : Ex → Nat} (hW : IsW W) {p d : Int} (hp : Pr p) (hd : 1 ≤ d ∧ d ≤ 3) {q0 q out : List Tm} (h : QInv p d q0 q out) {t : Tm} (ht : t ∈ byV p d q) (hm : ∀ u ∈ byV p d q, W u.e ≤ W t.e) :
    ∃ e q', t.e = addE (dE d) e ∧ DegLe d (12 - vdeg d) e ∧ q'.length < q.length ∧ 1 ≤ t.v ∧ t.v < p ∧
      plusT p (byV p d q) (mulT p (mono p e 1) (vanT p d)) (p - t.v) = byV p d q' ∧ QInv p d q0 q' (putT p out e t.v) := by
  have hpp := hp.pos
  obtain ⟨e, q', h1, h2, h3, h4, h5, h6, h7⟩ := h.step hW hp hd ht hm
  refine ⟨e, q', h1, h2, h3, h4, h5, h6 _ (plusT_can (by omega) (byV_can (by omega) q) _ _) fun f => ?_, h7 _ (putT_can (by omega) h.ocan _ _).1 (putT_all h.odeg (h2.mono (by omega))) fun f => lin_putT h.ocan e t.v f⟩
  refine (plusT_lin (by omega) (byV_can (by omega) q) (p - t.v) f _).2.trans ?_
  obtain ⟨k, hk⟩ := (mulT_lin (p := p) (by omega) (vanT p d) f (mono p e 1)).2
  rw [mono_one (by omega)] at hk ⊢
  obtain ⟨l, hl⟩ := vanT_lin hp hd fun y => f (addE e y)
  simp only [lin, hl] at hk
  rw [hk]
  simp only [addE_comm _ e]
  refine ⟨(p - t.v) * (k + l) + vlin d fun x => f (addE e x), ?_⟩
  grind

/-- What an alternating sum divided by the Vandermonde polynomial is. -/
theorem quo_exists {p d : Int} (hp : Pr p) (hd : 1 ≤ d ∧ d ≤ 3) {F : (Ex → Int) → Int} (h : Dv d (12 - vdeg d) F) {x : List Tm} (hx : Can p x) (hF : ∀ f, Eqm p (lin x f) (F f)) :
    ∃ q, Can p q ∧ AllE (DegLe d (12 - vdeg d)) q ∧ x = byV p d q := by
  have hpp := hp.pos
  obtain ⟨s, h1, h2⟩ := h
  refine ⟨plusT p [] s 1, plusT_can (by omega) (can_nil p) _ _, plusT_all (fun t ht => by cases ht) h1, can_lin (by omega) hx (byV_can (by omega) _) fun f => ?_⟩
  refine (hF f).trans (Eqm.trans ?_ (byV_lin hp hd _ f).symm)
  rw [h2]
  refine vlin_congr fun x => ?_
  have := (plusT_lin (p := p) (by omega) (can_nil p) 1 (fun y => f (addE x y)) s).2
  simpa [lin] using this.symm
end Go.Sm
