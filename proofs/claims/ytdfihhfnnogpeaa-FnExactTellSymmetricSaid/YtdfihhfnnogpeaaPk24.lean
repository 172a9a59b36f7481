/- Towards the rows of this seat: what the functions do, as contracts over plain data. -/
import Derived.Test.YtdfihhfnnogpeaaPk21
import Derived.Test.YtdfihhfnnogpeaaPk16
namespace Go.Sm

/-- Terms without those of some exponents. -/
def remE : List Ex → List Tm → List Tm
  | [], ts => ts
  | e :: es, ts => remE es (ts.filter fun t => t.e ≠ e)
theorem remE_sub : ∀ (es : List Ex) (ts : List Tm), (remE es ts).Sublist ts
  | [], ts => List.Sublist.refl ts
  | _ :: es, _ => (remE_sub es _).trans List.filter_sublist
theorem remE_coef : ∀ (es : List Ex) (ts : List Tm) (x : Ex), coef (remE es ts) x = if x ∈ es then 0 else coef ts x
  | [], _, _ => by simp [remE]
  | e :: es, ts, x => by
    rw [remE, remE_coef es _ x, coef_filter]
    by_cases h1 : x = e
    · subst h1; simp
    · by_cases h2 : x ∈ es
      · simp [h2]
      · simp [h1, h2]
theorem remE_lin (f : Ex → Int) : ∀ (es : List Ex) (ts : List Tm), es.Nodup → (ts.map (·.e)).Nodup → lin ts f = lin (remE es ts) f + (es.map fun e => coef ts e * f e).sum
  | [], ts, _, _ => by simp [remE]
  | e :: es, ts, h1, h2 => by
    rw [List.nodup_cons] at h1
    have hs : (ts.filter fun t => t.e ≠ e).Sublist ts := List.filter_sublist
    have ih := remE_lin f es (ts.filter fun t => t.e ≠ e) h1.2 (h2.sublist (hs.map _))
    rw [lin_filter f e h2, ih]
    have e1 : (es.map fun x => coef (ts.filter fun t => t.e ≠ e) x * f x) = es.map fun x => coef ts x * f x := by
      refine List.map_congr_left fun x hx => ?_
      have hxe : x ≠ e := fun h => h1.1 (by rw [← h]; exact hx)
      rw [coef_filter, if_neg hxe]
    rw [e1]
    simp only [remE, List.map_cons, List.sum_cons]
    omega
theorem remE_len {es : List Ex} {ts : List Tm} {t : Tm} (hn : (ts.map (·.e)).Nodup) (ht : t ∈ ts) (he : t.e ∈ es) (hv : t.v ≠ 0) : (remE es ts).length < ts.length := by
  have h1 := (remE_sub es ts).length_le
  by_cases h : (remE es ts).length = ts.length
  · have h2 := (remE_sub es ts).eq_of_length h
    have h3 := remE_coef es ts t.e
    rw [if_pos he, h2, coef_mem hn ht] at h3
    exact (hv h3).elim
  · omega

/-- The exponents that exchanges make of some. -/
def orbE (d : Int) (a b c : Nat) : List Ex := if d = 1 then [E a 0 0] else if d = 2 then [E a b 0, E b a 0] else [E a b c, E a c b, E b a c, E b c a, E c a b, E c b a]
def AltC (p d : Int) (ts : List Tm) : Prop := ∀ i k : Nat, k < i → (i : Int) < d → ∀ e, Eqm p (coef ts (swE i k e)) (- coef ts e)
theorem E_inj {a b c k l m : Nat} (h : E a b c = E k l m) (h1 : a < 256) (h2 : b < 256) (h3 : c < 256) (h4 : k < 256) (h5 : l < 256) (h6 : m < 256) : a = k ∧ b = l ∧ c = m := by
  simp only [E, Ex.mk.injEq] at h
  have g1 := congrArg UInt8.toNat h.1
  have g2 := congrArg UInt8.toNat h.2.1
  have g3 := congrArg UInt8.toNat h.2.2
  simp only [UInt8.toNat_ofNat'] at g1 g2 g3
  omega
theorem orb_nodup {d : Int} (hd : 1 ≤ d ∧ d ≤ 3) {a b c : Nat} (h : Down d a b c) (hs : a + b + c ≤ 12) : (orbE d a b c).Nodup := by
  obtain ⟨h1, h2, h3, h4⟩ := h
  have key : ∀ {a b c k l m : Nat}, E a b c = E k l m → a + b + c ≤ 12 → k + l + m ≤ 12 → a = k ∧ b = l ∧ c = m := fun h g1 g2 => E_inj h (by omega) (by omega) (by omega) (by omega) (by omega) (by omega)
  have : d = 1 ∨ d = 2 ∨ d = 3 := by omega
  rcases this with rfl | rfl | rfl
  · simp [orbE]
  · have := h3 (by decide)
    have := h2 (by decide); subst this
    show [E a b 0, E b a 0].Nodup
    simp only [List.nodup_cons, List.mem_singleton, List.not_mem_nil, List.nodup_nil, not_false_eq_true, and_true]
    intro q
    have := key q (by omega) (by omega)
    omega
  · have := h3 (by decide)
    have := h4 rfl
    show [E a b c, E a c b, E b a c, E b c a, E c a b, E c b a].Nodup
    simp only [List.nodup_cons, List.mem_cons, List.not_mem_nil, or_false, not_or, List.nodup_nil, not_false_eq_true, and_true]
    refine ⟨⟨?_, ?_, ?_, ?_, ?_⟩, ⟨?_, ?_, ?_, ?_⟩, ⟨?_, ?_, ?_⟩, ⟨?_, ?_⟩, ?_⟩ <;> (intro q; have := key q (by omega) (by omega); omega)
theorem orb_swap {d : Int} (hd : 1 ≤ d ∧ d ≤ 3) {a b c : Nat} {i k : Nat} (hk : k < i) (hi : (i : Int) < d) : ∀ x, x ∈ orbE d a b c → swE i k x ∈ orbE d a b c := by
  intro x hx
  have : d = 1 ∨ d = 2 ∨ d = 3 := by omega
  rcases this with rfl | rfl | rfl
  · omega
  · have : i = 1 ∧ k = 0 := by omega
    obtain ⟨rfl, rfl⟩ := this
    simp only [orbE] at hx ⊢
    simp at hx ⊢
    rcases hx with rfl | rfl
    · exact .inr rfl
    · exact .inl rfl
  · have : (i = 1 ∧ k = 0) ∨ (i = 2 ∧ k = 0) ∨ (i = 2 ∧ k = 1) := by omega
    simp only [orbE] at hx ⊢
    simp only [show ¬ (3 : Int) = 1 by decide, show ¬ (3 : Int) = 2 by decide, if_false] at hx ⊢
    simp only [List.mem_cons, List.not_mem_nil, or_false] at hx ⊢
    rcases this with ⟨rfl, rfl⟩ | ⟨rfl, rfl⟩ | ⟨rfl, rfl⟩ <;> rcases hx with rfl | rfl | rfl | rfl | rfl | rfl <;> simp only [sw10, sw20, sw21, E] <;> simp
theorem orb_sum {p d : Int} (hd : 1 ≤ d ∧ d ≤ 3) {ts : List Tm} (ha : AltC p d ts) {a b c : Nat} (h : Down d a b c) (f : Ex → Int) : Eqm p (((orbE d a b c).map fun e => coef ts e * f e).sum) (coef ts (E a b c) * altd d a b c f) := by
  obtain ⟨h1, h2, h3, h4⟩ := h
  have : d = 1 ∨ d = 2 ∨ d = 3 := by omega
  rcases this with rfl | rfl | rfl
  · have := h1 rfl; subst this
    have := h2 (by decide); subst this
    exact Eqm.of_eq (by simp [orbE, altd])
  · have := h2 (by decide); subst this
    obtain ⟨k, hk⟩ := ha 1 0 (by omega) (by decide) (E a b 0)
    rw [show swE 1 0 (E a b 0) = E b a 0 from rfl] at hk
    refine ⟨k * f (E b a 0), ?_⟩
    simp [orbE, altd, alt2, hk]
    grind
  · obtain ⟨k1, q1⟩ := ha 2 1 (by omega) (by decide) (E a b c)
    obtain ⟨k2, q2⟩ := ha 1 0 (by omega) (by decide) (E a b c)
    obtain ⟨k3, q3⟩ := ha 2 0 (by omega) (by decide) (E a b c)
    obtain ⟨k4, q4⟩ := ha 2 1 (by omega) (by decide) (E b a c)
    obtain ⟨k5, q5⟩ := ha 1 0 (by omega) (by decide) (E a c b)
    rw [show swE 2 1 (E a b c) = E a c b from rfl] at q1
    rw [show swE 1 0 (E a b c) = E b a c from rfl] at q2
    rw [show swE 2 0 (E a b c) = E c b a from rfl] at q3
    rw [show swE 2 1 (E b a c) = E b c a from rfl, q2] at q4
    rw [show swE 1 0 (E a c b) = E c a b from rfl, q1] at q5
    refine ⟨k1 * f (E a c b) + k2 * f (E b a c) + (k4 - k2) * f (E b c a) + (k5 - k1) * f (E c a b) + k3 * f (E c b a), ?_⟩
    simp [orbE, altd, alt3, q1, q2, q3, q4, q5]
    grind
theorem alt_exists {p d : Int} (hp : Pr p) (hd : 1 ≤ d ∧ d ≤ 3) : ∀ (n : Nat) (ts : List Tm), ts.length ≤ n → Can p ts → AllE (DegLe d 12) ts → AllE (DiffE d) ts → AltC p d ts →
    ∃ F, Dv d (12 - vdeg d) F ∧ ∀ f, Eqm p (lin ts f) (F f) := by
  have hpp := hp.pos
  intro n
  induction n with
  | zero =>
    intro ts hl _ _ _ _
    obtain rfl := List.eq_nil_of_length_eq_zero (by omega : ts.length = 0)
    exact ⟨fun _ => 0, Dv.zero _ _ fun _ => rfl, fun f => Eqm.refl p _⟩
  | succ n ih =>
    intro ts hl hc hdg hdf ha
    by_cases hne : ts = []
    · subst hne
      exact ⟨fun _ => 0, Dv.zero _ _ fun _ => rfl, fun f => Eqm.refl p _⟩
    · obtain ⟨t, ht, hm⟩ := max_of wL hne
      have hv := hc.2 t ht
      have hnd := asc_nodup hc.1
      have hct : coef ts t.e = t.v := coef_mem hnd ht
      have hmem : ∀ i k : Nat, k < i → (i : Int) < d → wL (swE i k t.e) ≤ wL t.e := fun i k h1 h2 => by
        obtain ⟨l, hl⟩ := ha i k h1 h2 t.e
        rw [hct] at hl
        have hz : coef ts (swE i k t.e) ≠ 0 := fun hz => by
          rw [hz] at hl
          have h3 : Eqm p t.v 0 := ⟨l, by omega⟩
          have := h3.eq ⟨by omega, hv.2⟩ ⟨by omega, by omega⟩
          omega
        obtain ⟨u, hu, hue⟩ := coef_ne_mem hz
        rw [← hue]; exact hm u hu
      have hdt := hdg t ht
      have hdd := hdf t ht
      obtain ⟨a, ea⟩ : ∃ a, a = t.e.a.toNat := ⟨_, rfl⟩
      obtain ⟨b, eb⟩ : ∃ b, b = t.e.b.toNat := ⟨_, rfl⟩
      obtain ⟨c, ec⟩ : ∃ c, c = t.e.c.toNat := ⟨_, rfl⟩
      have he : t.e = E a b c := by rw [ea, eb, ec, E_of]
      have hsum : a + b + c ≤ 12 := by have := hdt.2.2; unfold Ex.deg at this; omega
      have hne8 : ∀ {x y : UInt8}, x ≠ y → x.toNat ≠ y.toNat := fun h q => h (UInt8.toNat.inj q)
      have hdown : Down d a b c := by
        refine ⟨fun h => by rw [eb, hdt.1 (by omega)]; rfl, fun h => by rw [ec, hdt.2.1 h]; rfl, fun h => ?_, fun h => ?_⟩
        · have h1 := hmem 1 0 (by omega) (by omega)
          have h2 := hne8 (hdd 1 0 (by omega) (by omega))
          rw [sw10] at h1
          unfold wL at h1
          simp only [exAt] at h2
          simp at h2 h1
          omega
        · have h1 := hmem 2 1 (by omega) (by omega)
          have h2 := hne8 (hdd 2 1 (by omega) (by omega))
          rw [sw21] at h1
          unfold wL at h1
          simp only [exAt] at h2
          simp at h2 h1
          omega
      have hin : t.e ∈ orbE d a b c := by
        rw [he]
        have : d = 1 ∨ d = 2 ∨ d = 3 := by omega
        rcases this with rfl | rfl | rfl
        · have h1 := hdown.1 rfl; have h2 := hdown.2.1 (by decide)
          subst h1; subst h2; simp [orbE]
        · have h2 := hdown.2.1 (by decide)
          subst h2; simp [orbE]
        · simp [orbE]
      have hsub := remE_sub (orbE d a b c) ts
      obtain ⟨F, hF1, hF2⟩ := ih (remE (orbE d a b c) ts) (by have := remE_len hnd ht hin (by omega); omega) ⟨hc.1.sublist hsub, fun u hu => hc.2 u (hsub.subset hu)⟩
        (fun u hu => hdg u (hsub.subset hu)) (fun u hu => hdf u (hsub.subset hu)) fun i k h1 h2 e => by
          rw [remE_coef, remE_coef]
          have h3 := orb_swap hd (a := a) (b := b) (c := c) h1 h2
          by_cases hx : e ∈ orbE d a b c
          · rw [if_pos hx, if_pos (h3 e hx)]; exact Eqm.refl p _
          · rw [if_neg hx, if_neg (fun q => hx (by have := h3 _ q; rwa [swE_swE] at this))]
            exact ha i k h1 h2 e
      refine ⟨fun f => F f + coef ts (E a b c) * altd d a b c f, hF1.add ((altd_dv hd hdown hsum (Nat.le_refl 12)).smul (coef ts (E a b c)) fun f => rfl) fun f => rfl, fun f => ?_⟩
      rw [remE_lin f (orbE d a b c) ts (orb_nodup hd hdown hsum) hnd]
      exact (hF2 f).add (orb_sum hd ha hdown f)
/-- An alternating polynomial's quotient. -/
theorem alt_quo {p d : Int} {ts : List Tm} (hg : GoodP p d ts) (ha : AltP p d ts) : ∃ q, Can p q ∧ AllE (DegLe d (12 - vdeg d)) q ∧ ts = byV p d q := by
  have hp := hg.1
  have hpp := hp.pos
  have hc : Can p ts := ⟨hg.2.2.2, fun t ht => (hg.2.2.1 t ht).2⟩
  obtain ⟨F, h1, h2⟩ := alt_exists hp hg.2.1 ts.length ts (Nat.le_refl _) hc (fun t ht => (hg.2.2.1 t ht).1.degLe) ha.1 fun i k h1 h2 e => by
    rw [(sgn_iff (by omega) hc (p - 1) i k).1 (ha.2 i k h1 h2) e]
    obtain ⟨l, hl⟩ := Eqm.mod p ((p - 1) * coef ts e)
    exact ⟨l + coef ts e, by rw [hl]; grind⟩
  exact quo_exists hp hg.2.1 h1 hc h2
end Go.Sm
