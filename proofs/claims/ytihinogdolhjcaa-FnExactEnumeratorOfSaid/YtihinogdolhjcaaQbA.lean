/- The statements' own functions over terms and polynomials: are they equal, marked, held. -/
import Derived.Test.YtihinogdolhjcaaQaC
import Derived.Test.YtihinogdolhjcaaSoB
namespace Go.Sm
open Go.RowKit

def by8 (n : Int) : UInt8 := UInt8.ofNat (n % 256).toNat
@[simp] theorem wrapu8 (n : Int) : IntKind.u8.wrap n = ((by8 n).toNat : Int) := by
  have h1 := Int.emod_nonneg n (show (256 : Int) ≠ 0 by decide)
  have h2 := Int.emod_lt_of_pos n (show (0 : Int) < 256 by decide)
  have : IntKind.u8.wrap n = n % 256 := by
    unfold IntKind.wrap
    simp [IntKind.signed, IntKind.bits]
  rw [this]
  unfold by8
  rw [UInt8.toNat_ofNat']
  omega
@[simp] theorem by8_toNat (x : UInt8) : by8 (x.toNat : Int) = x := by
  have := u8_lt x
  unfold by8
  apply UInt8.toNat_inj.1
  rw [UInt8.toNat_ofNat']
  omega

theorem eqExps_ok (x y : Ex) : CallOK Go.Proofs.Try.prog 151 [.agg x.ds, .agg y.ds] (.one (bo (decide (x = y)))) := by
  have hF := fnOk 17 [.tmp 4]
  refine callOK hF 60 Go.Proofs.Try.func151 rfl rfl rfl (by decide) (by simp) rfl ?_
  intro w0 hw
  have S := @vc_sound w0 _ hF ⟨(.one (bo (decide (x = y)))), []⟩ Go.Proofs.Try.f151 rfl (by simp)
  simp
  refine J.rounds 5 (LpW.step (S 60 _ _ ?_))
  simp
  refine J.dr hF mixed 6 [[], [0], [0, 1], [], [3], [3, 4], [0, 1, 2, 3, 4, 5]] [[10, 11, 12, 13, 14, 15], [11, 12, 13, 14, 15], [12, 13, 14, 15], [10, 11, 12, 13, 14, 15], [10, 11, 12, 14, 15], [10, 11, 12, 15]] (by decide) ?_
  simp
  refine S 60 _ _ ?_
  simp
  refine ⟨fun ha e => ha (by rw [e]), fun ha => LpW.inv (LpW.step (S 60 _ _ ?_))⟩
  simp
  refine J.dr hF mixed 6 [[], [0], [0, 1], [], [3], [3, 4], [0, 1, 2, 3, 4, 5]] [[10, 11, 12, 13, 14, 15], [11, 12, 13, 14, 15], [12, 13, 14, 15], [10, 11, 12, 13, 14, 15], [10, 11, 12, 14, 15], [10, 11, 12, 15]] (by decide) ?_
  simp
  refine S 60 _ _ ?_
  simp
  refine ⟨fun hb e => hb (by rw [e]), fun hb => LpW.inv (LpW.step (S 60 _ _ ?_))⟩
  simp
  refine J.dr hF mixed 6 [[], [0], [0, 1], [], [3], [3, 4], [0, 1, 2, 3, 4, 5]] [[10, 11, 12, 13, 14, 15], [11, 12, 13, 14, 15], [12, 13, 14, 15], [10, 11, 12, 13, 14, 15], [10, 11, 12, 14, 15], [10, 11, 12, 15]] (by decide) ?_
  simp
  refine S 60 _ _ ?_
  simp
  refine ⟨fun hc e => hc (by rw [e]), fun hc => LpW.inv (LpW.step (S 60 _ _ ?_))⟩
  simp
  cases x; cases y; simp_all

theorem eqTerm_ok (x y : Tm) : CallOK Go.Proofs.Try.prog 123 [.agg [u8 x.e.a, u8 x.e.b, u8 x.e.c, i64 x.v], .agg [u8 y.e.a, u8 y.e.b, u8 y.e.c, i64 y.v]] (.one (bo (decide (x = y)))) := by
  have hF := fnOk 16 [.tmp 4]
  refine callOK hF 60 Go.Proofs.Try.func123 rfl rfl rfl (by decide) (by simp) rfl ?_
  intro w0 hw
  have S := @vc_sound w0 _ hF ⟨(.one (bo (decide (x = y)))), []⟩ Go.Proofs.Try.f123 rfl (by simp)
  have c1 := eqExps_ok x.e y.e
  simp
  by_cases he : x.e = y.e
  · rw [decide_eq_true he] at c1
    refine CallW.ok (by decide) (by simp) c1 (by simp) (S 60 _ _ ?_)
    simp
    refine ⟨fun hv e => hv (by rw [e]), fun hv => ?_⟩
    cases x; cases y; simp_all
  · rw [decide_eq_false he] at c1
    refine CallW.ok (by decide) (by simp) c1 (by simp) (S 60 _ _ ?_)
    simp
    exact fun e => he (by rw [e])

theorem eqTermS_ok (xs ys : List Tm) (hl : xs.length ≤ 2000000) : CallOK Go.Proofs.Try.prog 84 [.one (vTerms xs), .one (vTerms ys)] (.one (bo (decide (xs = ys)))) := by
  have hF := fnOk 27 [.tmp 4]
  refine callOK hF 60 Go.Proofs.Try.func84 rfl rfl rfl (by decide) (by simp) rfl ?_
  intro w0 hw
  have S := @vc_sound w0 _ hF ⟨(.one (bo (decide (xs = ys)))), []⟩ Go.Proofs.Try.f84 rfl (by simp)
  simp
  refine ⟨fun hne e => hne (by rw [e]), fun he => ?_⟩
  refine J.loop hw (fun i : Nat => ⟨[(0, .c (.d (vTerms xs))), (1, .c (.d (vTerms ys))), (5, .c (.d (i64 i)))], []⟩)
    (fun i => i ≤ xs.length ∧ xs.take i = ys.take i) (fun i => xs.length - i) 0 (by simp) (by simp) ?_
  rintro i ⟨hi, ht⟩
  refine S 60 _ _ ?_
  simp
  refine ⟨fun hlt => ?_, fun hge => ?_⟩
  · refine J.dr hF mixed 8 [[], [], [0, 1], [0, 1, 2], [], [], [4, 5], [4, 5, 6], [0, 1, 2, 3, 4, 5, 6, 7], [0, 1, 2, 3, 4, 5, 6, 7, 8]] [[17, 18, 19, 20, 21, 22, 23, 24], [17, 18, 19, 20, 21, 22, 23, 24], [19, 20, 21, 22, 23, 24], [20, 21, 22, 23, 24], [17, 18, 19, 20, 21, 22, 23, 24], [17, 18, 19, 20, 21, 22, 23, 24], [17, 18, 19, 20, 23, 24], [17, 18, 19, 20, 24]] (by decide) ?_
    simp
    refine ⟨hlt, fun a ha => ⟨by omega, fun b hb => ?_⟩⟩
    have c1 := eqTerm_ok a b
    by_cases hab : a = b
    · rw [decide_eq_true hab] at c1
      refine S 60 _ _ ?_
      simp
      refine CallW.ok (by decide) (by simp) c1 (by simp) (S 60 _ _ ?_)
      simp
      subst hab
      refine Nxt.mk (i + 1) ⟨hlt, ?_⟩ (by simp [wrapS (i := i) (n := xs.length) hlt (by omega)]) (by omega)
      rw [List.take_add_one, List.take_add_one, ht, ha, hb]
    · rw [decide_eq_false hab] at c1
      refine S 60 _ _ ?_
      simp
      refine CallW.ok (by decide) (by simp) c1 (by simp) (S 60 _ _ ?_)
      simp
      intro e
      subst e
      rw [ha] at hb
      exact hab (Option.some.inj hb)
  · have h1 : xs = xs.take i := by rw [List.take_of_length_le (by omega)]
    have h2 : ys = ys.take i := by rw [List.take_of_length_le (by omega)]
    rw [h1, h2, ht]

theorem eqPoly_ok (p d p' d' : Int) (xs ys : List Tm) (hl : xs.length ≤ 2000000) : CallOK Go.Proofs.Try.prog 29 [pv p d xs, pv p' d' ys] (.one (bo (decide (p = p' ∧ d = d' ∧ xs = ys)))) := by
  have hF := fnOk 21 [.tmp 4]
  refine callOK hF 60 Go.Proofs.Try.func29 rfl rfl rfl (by decide) (by simp) rfl ?_
  intro w0 hw
  have S := @vc_sound w0 _ hF ⟨(.one (bo (decide (p = p' ∧ d = d' ∧ xs = ys)))), []⟩ Go.Proofs.Try.f29 rfl (by simp)
  have c1 := eqTermS_ok xs ys hl
  by_cases hp : p = p'
  · by_cases hd : d = d'
    · subst hp; subst hd
      have e : decide (p = p ∧ d = d ∧ xs = ys) = decide (xs = ys) := by simp
      rw [e] at S ⊢
      simp
      refine CallW.ok (by decide) (by simp) c1 (by simp) (S 60 _ _ ?_)
      by_cases hx : xs = ys
      · rw [decide_eq_true hx]; simp
      · rw [decide_eq_false hx]; simp
    · have hb : (d != d') = true := by simpa using hd
      have e : decide (p = p' ∧ d = d' ∧ xs = ys) = false := by simp [hd]
      rw [e]
      have hb0 : (p != p') = false := by simpa using hp
      simp [hb0, hb]
  · have hb : (p != p') = true := by simpa using hp
    have e : decide (p = p' ∧ d = d' ∧ xs = ys) = false := by simp [hp]
    rw [e]
    simp [hb]

/-- Marked terms: numbers from k on. -/
def markTs : Nat → Int → List Tm
  | 0, _ => []
  | n + 1, k => ⟨⟨by8 k, by8 (k + 1), by8 (k + 2)⟩, k + 3⟩ :: markTs n (k + 4)
theorem markTs_length : ∀ (n : Nat) (k : Int), (markTs n k).length = n
  | 0, _ => rfl
  | n + 1, k => by simp [markTs, markTs_length n]
theorem markTs_succ : ∀ (n : Nat) (k : Int), markTs (n + 1) k = markTs n k ++ [⟨⟨by8 (k + 4 * n), by8 (k + 4 * n + 1), by8 (k + 4 * n + 2)⟩, k + 4 * n + 3⟩]
  | 0, k => by simp [markTs]
  | n + 1, k => by
    have e : k + 4 + 4 * (n : Int) = k + 4 * ((n + 1 : Nat) : Int) := by omega
    rw [markTs, markTs_succ n (k + 4), markTs, List.cons_append, e]
theorem markTs_get {n : Nat} {k : Int} {i : Nat} {t : Tm} (h : (markTs n k)[i]? = some t) : t = ⟨⟨by8 (k + 4 * i), by8 (k + 4 * i + 1), by8 (k + 4 * i + 2)⟩, k + 4 * i + 3⟩ := by
  induction n generalizing k i with
  | zero => simp [markTs] at h
  | succ n ih =>
    cases i with
    | zero => simp [markTs] at h; rw [← h]; simp
    | succ i =>
      have := ih (k := k + 4) (i := i) (by simpa [markTs] using h)
      rw [this]
      have e : k + 4 + 4 * (i : Int) = k + 4 * ((i + 1 : Nat) : Int) := by omega
      rw [e]

theorem markTermS_ok (ts : List Tm) (k : Int) (hl : ts.length ≤ 2000000) (hk : 0 ≤ k) (hk2 : k ≤ 1000000000) : CallX Go.Proofs.Try.prog 74 [.one (oTerms ts), .one (i64 k)] ⟨(.one (i64 (k + 4 * ts.length))), [(0, oTerms (markTs ts.length k))]⟩ := by
  have hF := fnOk 35 [.tmp 4]
  refine callX hF 60 Go.Proofs.Try.func74 rfl rfl rfl (by decide) (by simp) rfl (by simp) (by simp [ownAt]) ?_
  intro w0 hw hfix
  have S := @vc_sound w0 _ hF ⟨(.one (i64 (k + 4 * ts.length))), [(0, oTerms (markTs ts.length k))]⟩ Go.Proofs.Try.f74 rfl hfix
  simp
  refine J.loop hw (fun p : Nat × List Tm => ⟨[(0, .c (.ob 0)), (1, .c (.d (i64 (k + 4 * p.1)))), (5, .c (.d (i64 p.1)))], [(0, .arr 108 4 (terms p.2))]⟩)
    (fun p => p.1 ≤ ts.length ∧ p.2.length = ts.length ∧ p.2.take p.1 = markTs p.1 k) (fun p => ts.length - p.1) (0, ts) (by simp [markTs]) (by simp) ?_
  rintro ⟨i, zs⟩ ⟨hi, hlen, htk⟩
  simp only at hi hlen htk
  have w1 : IntKind.i64.wrap (k + 4 * (i : Int) + 1) = k + 4 * i + 1 := wrap64 (by omega) (by omega)
  have w2 : IntKind.i64.wrap (k + 4 * (i : Int) + 1 + 1) = k + 4 * i + 2 := by rw [wrap64 (by omega) (by omega)]; omega
  have w3 : IntKind.i64.wrap (k + 4 * (i : Int) + 2 + 1) = k + 4 * i + 3 := by rw [wrap64 (by omega) (by omega)]; omega
  have w4 : IntKind.i64.wrap (k + 4 * (i : Int) + 3 + 1) = k + 4 * (i + 1 : Nat) := by rw [wrap64 (by omega) (by omega)]; omega
  refine S 60 _ _ ?_
  simp
  refine ⟨fun hlt => ?_, fun hge => ?_⟩
  · obtain ⟨t, ht⟩ : ∃ t, zs[i]? = some t := ⟨_, List.getElem?_eq_getElem (by omega)⟩
    refine J.rounds 5 (LpW.step (S 60 _ _ ?_))
    simp [ht, w1]
    refine ⟨by omega, LpW.inv (LpW.step (S 60 _ _ ?_))⟩
    simp [hlt, w2]
    refine LpW.inv (LpW.step (S 60 _ _ ?_))
    simp [hlt, w3]
    refine LpW.inv (LpW.step (S 60 _ _ ?_))
    simp [hlt, w4]
    refine Nxt.mk (i + 1, zs.set i ⟨⟨by8 (k + 4 * i), by8 (k + 4 * i + 1), by8 (k + 4 * i + 2)⟩, k + 4 * i + 3⟩) ⟨by show i + 1 ≤ _; omega, by simpa using hlen, ?_⟩ (by simp [wrapS (i := i) (n := ts.length) (by omega) (by omega), List.map_set]) (by show ts.length - (i + 1) < ts.length - i; omega)
    show (zs.set i _).take (i + 1) = markTs (i + 1) k
    rw [List.take_add_one, List.take_set_of_le (Nat.le_refl i), htk, markTs_succ]
    simp [show i < zs.length by omega]
  · have e : i = ts.length := by omega
    have hz : zs = markTs ts.length k := by
      rw [e, ← hlen, List.take_length] at htk
      rw [htk, hlen]
    refine ⟨by omega, by rw [hz]⟩

theorem heldTermS_ok (n : Nat) (k : Int) (hl : n ≤ 2000000) (hk : 0 ≤ k) (hk2 : k ≤ 1000000000) : CallOK Go.Proofs.Try.prog 85 [.one (vTerms (markTs n k)), .one (i64 k)] (.one (i64 (k + 4 * n))) := by
  have hF := fnOk 39 [.tmp 4]
  refine callOK hF 60 Go.Proofs.Try.func85 rfl rfl rfl (by decide) (by simp) rfl ?_
  intro w0 hw
  have S := @vc_sound w0 _ hF ⟨(.one (i64 (k + 4 * n))), []⟩ Go.Proofs.Try.f85 rfl (by simp)
  have hlen := markTs_length n k
  simp
  refine J.loop hw (fun i : Nat => ⟨[(0, .c (.d (vTerms (markTs n k)))), (1, .c (.d (i64 (k + 4 * i)))), (5, .c (.d (i64 i)))], []⟩)
    (fun i => i ≤ n) (fun i => n - i) 0 (by simp) (by simp) ?_
  intro i hi
  have w1 : IntKind.i64.wrap (k + 4 * (i : Int) + 1) = k + 4 * i + 1 := wrap64 (by omega) (by omega)
  have w2 : IntKind.i64.wrap (k + 4 * (i : Int) + 1 + 1) = k + 4 * i + 2 := by rw [wrap64 (by omega) (by omega)]; omega
  have w3 : IntKind.i64.wrap (k + 4 * (i : Int) + 2 + 1) = k + 4 * i + 3 := by rw [wrap64 (by omega) (by omega)]; omega
  have w4 : IntKind.i64.wrap (k + 4 * (i : Int) + 3 + 1) = k + 4 * (i + 1 : Nat) := by rw [wrap64 (by omega) (by omega)]; omega
  refine S 60 _ _ ?_
  simp [hlen]
  refine ⟨fun hlt => ?_, fun hge => ?_⟩
  · refine J.rounds 5 (LpW.step (S 60 _ _ ?_))
    simp [w1, hlen]
    refine ⟨hlt, fun t ht => ?_⟩
    have hg := markTs_get ht
    simp [hg]
    refine LpW.inv (LpW.step (S 60 _ _ ?_))
    simp [w2, hlen]
    refine ⟨hlt, fun t2 ht2 => ?_⟩
    have hg2 := markTs_get ht2
    simp [hg2]
    refine LpW.inv (LpW.step (S 60 _ _ ?_))
    simp [w3, hlen]
    refine ⟨hlt, fun t3 ht3 => ?_⟩
    have hg3 := markTs_get ht3
    simp [hg3]
    refine LpW.inv (LpW.step (S 60 _ _ ?_))
    simp [w4, hlen]
    refine ⟨hlt, fun t4 ht4 => ?_⟩
    have hg4 := markTs_get ht4
    simp [hg4]
    exact Nxt.mk (i + 1) (by omega) (by simp [wrapS (i := i) (n := n) hlt (by omega)]) (by omega)
  · have : i = n := by omega
    subst this; rfl

theorem markPoly_ok (p d : Int) (ts : List Tm) (k : Int) (hl : ts.length ≤ 2000000) (hk : 0 ≤ k) (hk2 : k ≤ 1000000000) : CallX Go.Proofs.Try.prog 30 [po p d ts, .one (i64 k)] ⟨(.one (i64 (k + 4 * ts.length))), [(2, oTerms (markTs ts.length k))]⟩ := by
  have hF := fnOk 10 [.tmp 4]
  refine callX hF 60 Go.Proofs.Try.func30 rfl rfl rfl (by decide) (by simp) rfl (by simp) (by simp [ownAt]) ?_
  intro w0 hw hfix
  have S := @vc_sound w0 _ hF ⟨(.one (i64 (k + 4 * ts.length))), [(2, oTerms (markTs ts.length k))]⟩ Go.Proofs.Try.f30 rfl hfix
  have c1 := markTermS_ok ts k hl hk hk2
  simp
  refine CallW.mut c1 (by decide) (by simp) (by simp) (by simp) (by simp) (by simp) (by simp) ?_
  refine S 60 _ _ ?_
  simp

theorem heldPoly_ok (p d : Int) (n : Nat) (k : Int) (hl : n ≤ 2000000) (hk : 0 ≤ k) (hk2 : k ≤ 1000000000) : CallOK Go.Proofs.Try.prog 31 [pv p d (markTs n k), .one (i64 k)] (.one (i64 (k + 4 * n))) := by
  have hF := fnOk 12 [.tmp 4]
  refine callOK hF 60 Go.Proofs.Try.func31 rfl rfl rfl (by decide) (by simp) rfl ?_
  intro w0 hw
  have S := @vc_sound w0 _ hF ⟨(.one (i64 (k + 4 * n))), []⟩ Go.Proofs.Try.f31 rfl (by simp)
  have c1 := heldTermS_ok n k hl hk hk2
  simp
  refine CallW.ok (by decide) (by simp) c1 (by simp) (S 60 _ _ ?_)
  have hb : ¬ (k + 4 * (n : Int) < 0) := by omega
  simp [hb]

end Go.Sm
