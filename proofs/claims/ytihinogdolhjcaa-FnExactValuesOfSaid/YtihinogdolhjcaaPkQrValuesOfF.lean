/- Towards FnExactValuesOfSaid: the program's function returns what the reference's returns. Part 6 of 7. -/
import Derived.Test.YtihinogdolhjcaaPkQrValuesOfA
import Derived.Test.YtihinogdolhjcaaPkQrValuesOfB
import Derived.Test.YtihinogdolhjcaaPkQrValuesOfC
import Derived.Test.YtihinogdolhjcaaPkQrValuesOfD
import Derived.Test.YtihinogdolhjcaaPkQrValuesOfE
namespace Go.Sm
open Go.RowKit

/-- Exponents with those of two letters exchanged. -/
def swE (i k : Nat) (e : Ex) : Ex := if i = 1 ∧ k = 0 then ⟨e.b, e.a, e.c⟩ else if i = 2 ∧ k = 0 then ⟨e.c, e.b, e.a⟩ else if i = 2 ∧ k = 1 then ⟨e.a, e.c, e.b⟩ else e
theorem swE_swE (i k : Nat) (e : Ex) : swE i k (swE i k e) = e := by
  unfold swE
  by_cases h1 : i = 1 ∧ k = 0
  · simp [h1]
  · by_cases h2 : i = 2 ∧ k = 0
    · simp [h2]
    · by_cases h3 : i = 2 ∧ k = 1
      · simp [h3]
      · simp [h1, h2, h3]

theorem sw10 (e : Ex) : swE 1 0 e = ⟨e.b, e.a, e.c⟩ := rfl
theorem sw20 (e : Ex) : swE 2 0 e = ⟨e.c, e.b, e.a⟩ := rfl
theorem sw21 (e : Ex) : swE 2 1 e = ⟨e.a, e.c, e.b⟩ := rfl

/-- Terms with their monomials changed. -/
def exT (p : Int) (f : Ex → Ex) (ts : List Tm) : List Tm := ts.foldl (fun o t => putT p o (f t.e) t.v) []
def exS (f : Ex → Ex) (ts : List Tm) : List (Ex × Int) := ts.foldl (fun o t => sput o (f t.e) t.v) []
theorem exT_snoc (p : Int) (f : Ex → Ex) (ts : List Tm) (t : Tm) : exT p f (ts ++ [t]) = putT p (exT p f ts) (f t.e) t.v := by simp [exT]
theorem exS_snoc (f : Ex → Ex) (ts : List Tm) (t : Tm) : exS f (ts ++ [t]) = sput (exS f ts) (f t.e) t.v := by simp [exS]

theorem exT_ok {p : Int} (hp : 0 < p) {f : Ex → Ex} (hf : ∀ e, f (f e) = e) : ∀ ts : List Tm, (ts.map (·.e)).Nodup → (∀ t ∈ ts, 1 ≤ t.v ∧ t.v < p) →
    Can p (exT p f ts) ∧ (exT p f ts).length ≤ ts.length ∧ ∀ e, coef (exT p f ts) e = coef ts (f e) := by
  intro ts
  induction ts using snocInd with
  | nil => intro _ _; exact ⟨can_nil p, by simp [exT], fun e => by simp [exT, coef]⟩
  | snoc ts t ih =>
    intro hn hv
    have hn' : (ts.map (·.e)).Nodup := by rw [List.map_append, List.nodup_append] at hn; exact hn.1
    obtain ⟨h1, h2, h3⟩ := ih hn' fun u hu => hv u (by simp [hu])
    have ht := hv t (by simp)
    rw [exT_snoc]
    obtain ⟨k1, k2⟩ := putT_can hp h1 (f t.e) t.v
    have := putT_length p (exT p f ts) (f t.e) t.v
    refine ⟨k1, by simp; omega, fun e => ?_⟩
    rw [k2, h3, hf, coef_snoc hn, coef_last_none hn, h3]
    by_cases he : e = f t.e
    · rw [if_pos he, he, hf, if_pos rfl, Int.add_zero]
      exact Int.emod_eq_of_lt (by omega) ht.2
    · rw [if_neg he, if_neg (fun q => he (by rw [← q, hf]))]
theorem exS_ok {f : Ex → Ex} (hf : ∀ e, f (f e) = e) : ∀ ts : List Tm, (ts.map (·.e)).Nodup →
    ((exS f ts).map (·.1)).Nodup ∧ (exS f ts).length ≤ ts.length ∧ ∀ e, sget (exS f ts) e = coef ts (f e) := by
  intro ts
  induction ts using snocInd with
  | nil => intro _; exact ⟨by simp [exS], by simp [exS], fun e => by simp [exS, sget, coef]⟩
  | snoc ts t ih =>
    intro hn
    have hn' : (ts.map (·.e)).Nodup := by rw [List.map_append, List.nodup_append] at hn; exact hn.1
    obtain ⟨h1, h2, h3⟩ := ih hn'
    rw [exS_snoc]
    have := sput_length (exS f ts) (f t.e) t.v
    refine ⟨sput_nodup h1 _ _, by simp; omega, fun e => ?_⟩
    rw [sget_sput, h3, coef_snoc hn]
    by_cases he : e = f t.e
    · rw [if_pos he, he, hf, if_pos rfl]
    · rw [if_neg he, if_neg (fun q => he (by rw [← q, hf]))]
theorem ex_eq {p : Int} (hp : 0 < p) {f : Ex → Ex} (hf : ∀ e, f (f e) = e) {ts : List Tm} (ht : Can p ts) : ofSum p (exS f ts) = exT p f ts := by
  obtain ⟨a1, _, a3⟩ := exS_ok hf ts (asc_nodup ht.1)
  obtain ⟨b1, _, b3⟩ := exT_ok hp hf ts (asc_nodup ht.1) ht.2
  obtain ⟨k1, k2⟩ := ofSum_can hp a1
  refine can_ext k1 b1 fun e => ?_
  have := coef_bound hp ht (f e)
  rw [k2, a3, b3]
  exact Int.emod_eq_of_lt this.1 this.2

set_option maxHeartbeats 1000000 in
set_option maxRecDepth 4000 in
theorem exchanged_ok (p d : Int) (ts : List Tm) (i k : Nat) (hik : k < i ∧ i ≤ 2) (hp : 0 < p) (hp2 : p ≤ 13) (ht : Can p ts) (hl : ts.length ≤ 1000) : CallOK Go.Proofs.Try.prog 140 [pv p d ts, .one (i64 i), .one (i64 k)] (po p d (exT p (swE i k) ts)) := by
  have hF := fnOk 42 [.cell 6 39]
  refine callOK hF 60 Go.Proofs.Try.func140 rfl rfl rfl (by decide) (by simp) rfl ?_
  intro w0 hw
  have S := @vc_sound w0 _ hF ⟨(po p d (exT p (swE i k) ts)), []⟩ Go.Proofs.Try.f140 rfl (by simp)
  obtain ⟨a1, a2, a3⟩ := exS_ok (swE_swE i k) ts (asc_nodup ht.1)
  have hpl := poly_ok p d (exS (swE i k) ts) (by omega) a1 hp (by omega)
  rw [ex_eq hp (swE_swE i k) ht] at hpl
  simp
  refine J.loop hw (fun n : Nat => ⟨[(1, .c (.d (i64 i))), (2, .c (.d (i64 k))), (3, .c (.ref 64003 0)), (6, .c (.ref 64006 0)), (7, .c (.ob 64008)), (13, .c (.d (vTerms ts))), (14, .c (.d (i64 ts.length))), (15, .c (.d (i64 n)))],
      [(64003, .var [.d (i64 p), .d (i64 d), .d (vTerms ts)]), (64006, .var [.d (i64 0), .d (i64 0), .ob 64007]), (64007, .arr 108 4 []), (64008, .mp (sumM (exS (swE i k) (ts.take n))))]⟩)
    (fun n => n ≤ ts.length) (fun n => ts.length - n) 0 (by simp) (by simp [exS]) ?_
  intro n hn
  refine S 8 _ _ ?_
  simp
  refine ⟨fun hlt => ?_, fun hge => ?_⟩
  · refine S 6 _ _ ?_
    simp
    refine ⟨hlt, fun b hb => ?_⟩
    have hb0 := ht.2 b (List.mem_of_getElem? hb)
    have hnext : exS (swE i k) (ts.take (n + 1)) = sput (exS (swE i k) (ts.take n)) (swE i k b.e) b.v := by rw [List.take_add_one, hb]; exact exS_snoc _ _ _
    generalize exS (swE i k) (ts.take n) = l at hnext ⊢
    have hput := mpPut_sum l (swE i k b.e) b.v
    have hc : (i = 1 ∧ k = 0) ∨ (i = 2 ∧ k = 0) ∨ (i = 2 ∧ k = 1) := by omega
    refine S 60 _ _ ?_
    rcases hc with ⟨rfl, rfl⟩ | ⟨rfl, rfl⟩ | ⟨rfl, rfl⟩ <;> simp only [sw10, sw20, sw21, exK] at hput hnext <;> simp
    all_goals
      refine J.dr3 hF mixed 10 [[], [], [], [2], [2, 3], [], [5], [5, 6], [0, 2, 3, 4, 5, 6, 7], [0, 2, 3, 4, 5, 6, 7, 8], [0, 1, 2, 3, 4, 5, 6, 7, 8, 9], [0, 1, 2, 3, 4, 5, 6, 7, 8, 9, 10]] [[21, 22, 23, 24, 25, 26, 27, 28, 29], [21, 22, 23, 24, 25, 26, 27, 28, 29], [21, 22, 23, 24, 25, 26, 27, 28, 29], [21, 22, 24, 25, 26, 27, 28, 29], [21, 22, 25, 26, 27, 28, 29], [21, 22, 23, 24, 25, 26, 27, 28, 29], [21, 22, 23, 24, 25, 27, 28, 29], [21, 22, 23, 24, 25, 28, 29], [22, 29], [22]] [[], [], [], [], [], [], [], [], [], [640]] [[], [640], [], [], [], [], [], [], [], []] [] [] (by decide) ?_
      simp
      refine S 60 _ _ ?_
      simp [hput]
      exact Nxt.mk (n + 1) (by omega) (by simp [hnext, wrapS (i := n) (n := ts.length) hlt (by omega)]) (by omega)
  · have e1 : ts.take n = ts := List.take_of_length_le hge
    rw [e1]
    refine S 60 _ _ ?_
    simp
    refine CallW.ok (by decide) (by simp) hpl (by simp) (S 60 _ _ ?_)
    simp

set_option maxHeartbeats 1000000 in
set_option maxRecDepth 4000 in
theorem l08Exchange_ok (p d : Int) (ts : List Tm) (k : Nat) (hk : k ≤ 1) (hp : 0 < p) (hp2 : p ≤ 13) (ht : Can p ts) (hl : ts.length ≤ 1000) : CallOK Go.Proofs.Try.prog 134 [pv p d ts, .one (i64 k), .one (i64 ((k : Int) + 1))] (po p d (exT p (swE (k + 1) k) ts)) := by
  have hF := fnOk 52 [.cell 6 39]
  refine callOK hF 60 Go.Proofs.Try.func134 rfl rfl rfl (by decide) (by simp) rfl ?_
  intro w0 hw
  have S := @vc_sound w0 _ hF ⟨(po p d (exT p (swE (k + 1) k) ts)), []⟩ Go.Proofs.Try.f134 rfl (by simp)
  have c1 := l01Empty_ok p d
  simp
  refine CallW.ok (by decide) (by simp) c1 (by simp) (S 60 _ _ ?_)
  simp
  refine J.loop hw (fun n : Nat => ⟨[(1, .c (.d (i64 k))), (2, .c (.d (i64 ((k : Int) + 1)))), (3, .c (.ref 64003 0)), (6, .c (.ref 64006 0)), (7, .c (.ref 64008 0)), (8, .c (.d (i64 n)))],
      [(64003, .var [.d (i64 p), .d (i64 d), .d (vTerms ts)]), (64006, .var [.d (i64 0), .d (i64 0), .ob 64007]), (64007, .arr 108 4 []), (64008, .var [.d (i64 p), .d (i64 d), .ob 64009]), (64009, .arr 108 4 (terms (exT p (swE (k + 1) k) (ts.take n))))]⟩)
    (fun n => n ≤ ts.length) (fun n => ts.length - n) 0 (by simp) (by simp [exT]) ?_
  intro n hn
  refine S 12 _ _ ?_
  simp
  refine ⟨fun hlt => ?_, fun hge => ?_⟩
  · obtain ⟨b, hb⟩ : ∃ b, ts[n]? = some b := ⟨ts[n], List.getElem?_eq_getElem hlt⟩
    have hb0 := ht.2 b (List.mem_of_getElem? hb)
    obtain ⟨q1, q2, _⟩ := exT_ok hp (swE_swE (k + 1) k) (ts.take n) (by rw [List.map_take]; exact (asc_nodup ht.1).sublist (List.take_sublist _ _)) fun t h => ht.2 t (List.mem_of_mem_take h)
    have hnext : exT p (swE (k + 1) k) (ts.take (n + 1)) = putT p (exT p (swE (k + 1) k) (ts.take n)) (swE (k + 1) k b.e) b.v := by rw [List.take_add_one, hb]; exact exT_snoc _ _ _ _
    rw [List.length_take] at q2
    generalize exT p (swE (k + 1) k) (ts.take n) = r at q1 q2 hnext ⊢
    have hcb := coef_bound hp q1 (swE (k + 1) k b.e)
    have c2 := l01Put_ok p d r (swE (k + 1) k b.e) b.v (by omega) hp (by omega) (by omega) (by omega)
    refine S 60 _ _ ?_
    simp
    refine J.dr3 hF mixed 14 [[], [0], [], [0, 1, 2], [0, 1, 2, 3], [0, 1, 2, 3, 4], [], [6], [], [6, 7, 8], [6, 7, 8, 9], [], [], [0, 1, 2, 3, 4, 5, 11, 12], [0, 1, 2, 3, 4, 5, 6, 7, 8, 9, 10, 11, 12, 13]] [[23, 24, 25, 26, 27, 28, 29, 30, 31, 32, 33, 9, 10], [24, 25, 26, 27, 28, 29, 30, 31, 32, 33, 9, 10], [23, 24, 25, 26, 27, 28, 29, 30, 31, 32, 33, 9, 10], [26, 27, 28, 29, 30, 31, 32, 33, 9, 10], [27, 28, 29, 30, 31, 32, 33, 9, 10], [28, 29, 30, 31, 32, 33, 9, 10], [23, 24, 25, 26, 27, 28, 29, 30, 31, 32, 33, 9, 10], [23, 24, 25, 26, 27, 28, 30, 31, 32, 33, 9, 10], [23, 24, 25, 26, 27, 28, 29, 30, 31, 32, 33, 9, 10], [23, 24, 25, 26, 27, 28, 32, 33, 9, 10], [23, 24, 25, 26, 27, 28, 33, 9, 10], [23, 24, 25, 26, 27, 28, 29, 30, 31, 32, 33, 9, 10], [23, 24, 25, 26, 27, 28, 29, 30, 31, 32, 33, 9, 10], [29, 30, 31, 32, 33]] [[], [], [], [], [], [], [], [], [], [], [], [], [], [576]] [[], [], [], [], [], [], [576], [576], [576], [576], [576], [], [], []] [] [] (by decide) ?_
    rw [← List.take_append_drop 5 (List.take _ _)]
    generalize htl : List.drop 5 (List.take _ _) = tl
    simp
    refine ⟨hlt, fun x hx => ?_⟩
    obtain rfl : b = x := Option.some.inj (hb.symm.trans hx)
    subst htl
    rw [← List.take_append_drop 5 (List.drop 5 _)]
    generalize htl : List.drop 5 (List.drop 5 _) = tl
    simp
    refine ⟨hlt, fun x hx => ?_⟩
    obtain rfl : b = x := Option.some.inj (hb.symm.trans hx)
    subst htl
    simp
    refine S 60 _ _ ?_
    have hk' : k = 0 ∨ k = 1 := by omega
    rcases hk' with rfl | rfl <;> simp only [Nat.zero_add, Nat.reduceAdd, sw10, sw20, sw21] at c2 hnext <;> simp
    all_goals
      refine CallW.ok (by decide) (by simp) c2 (by simp) (S 60 _ _ ?_)
      simp
      exact Nxt.mk (n + 1) (by omega) (by simp [hnext, wrapS (i := n) (n := ts.length) hlt (by omega)]) (by omega)
  · have e1 : ts.take n = ts := List.take_of_length_le hge
    rw [e1]
    refine S 60 _ _ ?_
    simp

theorem alike_ok (p d p' d' : Int) (ts us : List Tm) : CallOK Go.Proofs.Try.prog 114 [pv p d ts, pv p' d' us] (.one (bo (decide (p = p' ∧ d = d')))) := by
  have hF := fnOk 17 [.tmp 4]
  refine callOK hF 60 Go.Proofs.Try.func114 rfl rfl rfl (by decide) (by simp) rfl ?_
  intro w0 hw
  have S := @vc_sound w0 _ hF ⟨(.one (bo (decide (p = p' ∧ d = d')))), []⟩ Go.Proofs.Try.f114 rfl (by simp)
  by_cases h : p = p'
  · by_cases h2 : d = d'
    · simp [h, h2]
    · simp [h, h2]
  · simp [h]

theorem sameTerms_ok (xs ys : List Tm) (hl : xs.length ≤ 2000000) : CallOK Go.Proofs.Try.prog 157 [.one (vTerms xs), .one (vTerms ys)] (.one (bo (decide (xs = ys)))) := by
  have hF := fnOk 26 [.tmp 4]
  refine callOK hF 60 Go.Proofs.Try.func157 rfl rfl rfl (by decide) (by simp) rfl ?_
  intro w0 hw
  have S := @vc_sound w0 _ hF ⟨(.one (bo (decide (xs = ys)))), []⟩ Go.Proofs.Try.f157 rfl (by simp)
  simp
  refine ⟨fun hne e => hne (by rw [e]), fun he => ?_⟩
  refine J.loop hw (fun i : Nat => ⟨[(0, .c (.d (vTerms xs))), (1, .c (.d (vTerms ys))), (12, .c (.d (i64 xs.length))), (13, .c (.d (i64 i)))], []⟩)
    (fun i => i ≤ xs.length ∧ xs.take i = ys.take i) (fun i => xs.length - i) 0 (by simp) (by simp) ?_
  rintro i ⟨hi, ht⟩
  refine S 8 _ _ ?_
  simp
  refine ⟨fun hlt => ?_, fun hge => ?_⟩
  · refine S 60 _ _ ?_
    simp
    refine J.dr hF mixed 8 [[], [], [0, 1], [0, 1, 2], [], [], [4, 5], [4, 5, 6], [0, 1, 2, 3, 4, 5, 6, 7]] [[16, 17, 18, 19, 20, 21, 22, 23], [16, 17, 18, 19, 20, 21, 22, 23], [18, 19, 20, 21, 22, 23], [19, 20, 21, 22, 23], [16, 17, 18, 19, 20, 21, 22, 23], [16, 17, 18, 19, 20, 21, 22, 23], [16, 17, 18, 19, 22, 23], [16, 17, 18, 19, 23]] (by decide) ?_
    simp
    refine ⟨hlt, fun a ha => ⟨by omega, fun b hb => ?_⟩⟩
    refine S 60 _ _ ?_
    simp
    refine ⟨fun hne e => ?_, fun h1 h2 h3 h4 => ?_⟩
    · subst e
      rw [ha] at hb
      obtain rfl := Option.some.inj hb
      simp at hne
    · have hab : a = b := by
        obtain ⟨⟨_, _, _⟩, _⟩ := a
        obtain ⟨⟨_, _, _⟩, _⟩ := b
        simp_all
      subst hab
      refine Nxt.mk (i + 1) ⟨hlt, ?_⟩ (by simp [wrapS (i := i) (n := xs.length) hlt (by omega)]) (by omega)
      rw [List.take_add_one, List.take_add_one, ht, ha, hb]
  · refine S 60 _ _ ?_
    simp
    have h1 : xs = xs.take i := by rw [List.take_of_length_le (by omega)]
    have h2 : ys = ys.take i := by rw [List.take_of_length_le (by omega)]
    rw [h1, h2, ht]

theorem samePoly_ok (p d p' d' : Int) (ts us : List Tm) (hl : ts.length ≤ 2000000) : CallOK Go.Proofs.Try.prog 139 [pv p d ts, pv p' d' us] (.one (bo (decide ((p = p' ∧ d = d') ∧ ts = us)))) := by
  have hF := fnOk 15 [.tmp 4]
  refine callOK hF 60 Go.Proofs.Try.func139 rfl rfl rfl (by decide) (by simp) rfl ?_
  intro w0 hw
  have S := @vc_sound w0 _ hF ⟨(.one (bo (decide ((p = p' ∧ d = d') ∧ ts = us)))), []⟩ Go.Proofs.Try.f139 rfl (by simp)
  have c1 := alike_ok p d p' d' ts us
  have c2 := sameTerms_ok ts us hl
  by_cases h : p = p' ∧ d = d'
  · rw [decide_eq_true h] at c1
    have e : decide ((p = p' ∧ d = d') ∧ ts = us) = decide (ts = us) := by simp [h]
    rw [e] at S ⊢
    simp
    refine CallW.ok (by decide) (by simp) c1 (by simp) (S 60 _ _ ?_)
    simp
    refine CallW.ok (by decide) (by simp) c2 (by simp) (S 60 _ _ ?_)
    simp
  · rw [decide_eq_false h] at c1
    have e : decide ((p = p' ∧ d = d') ∧ ts = us) = false := by simp [h]
    rw [e] at S ⊢
    simp
    refine CallW.ok (by decide) (by simp) c1 (by simp) (S 60 _ _ ?_)
    simp

theorem l01Scale_ok (p d k : Int) (ts : List Tm) (hp : 0 < p) (hp2 : p ≤ 13) (ht : Can p ts) (hl : ts.length ≤ 1000) (hk : -13 ≤ k) (hk2 : k ≤ 13) : CallOK Go.Proofs.Try.prog 135 [pv p d ts, .one (i64 k)] (po p d (plusT p [] ts k)) := by
  have hF := fnOk 13 [.cell 4 39]
  refine callOK hF 60 Go.Proofs.Try.func135 rfl rfl rfl (by decide) (by simp) rfl ?_
  intro w0 hw
  have S := @vc_sound w0 _ hF ⟨(po p d (plusT p [] ts k)), []⟩ Go.Proofs.Try.f135 rfl (by simp)
  have c1 := l01Empty_ok p d
  have c2 := l01Plus_ok p d p d k [] ts hp hp2 (can_nil p) ht (by simp) hl hk hk2
  simp
  refine J.dr hF mixed 7 [[], [0], [], [2], [0, 1, 2, 3], [], [], [0, 1, 2, 3, 4, 5, 6], [0, 1, 2, 3, 4, 5, 6, 7]] [[5, 6, 7, 8, 9, 10, 11], [6, 7, 8, 9, 10, 11], [5, 6, 7, 8, 9, 10, 11], [5, 6, 8, 9, 10, 11], [9, 10, 11], [5, 6, 7, 8, 9, 10, 11], [5, 6, 7, 8, 9, 10, 11]] (by decide) ?_
  simp
  refine DrC.ok hF (by rfl) (by simp) c1 (by simp) (by simp) ?_
  simp
  refine S 60 _ _ ?_
  simp
  refine CallW.ok (by decide) (by simp) c2 (by simp) (S 60 _ _ ?_)
  simp

theorem l01Same_ok (p d p' d' : Int) (xs ys : List Tm) (hl : xs.length ≤ 2000000) : CallOK Go.Proofs.Try.prog 133 [pv p d xs, pv p' d' ys] (.one (bo (decide (xs = ys)))) := by
  have hF := fnOk 31 [.tmp 4]
  refine callOK hF 60 Go.Proofs.Try.func133 rfl rfl rfl (by decide) (by simp) rfl ?_
  intro w0 hw
  have S := @vc_sound w0 _ hF ⟨(.one (bo (decide (xs = ys)))), []⟩ Go.Proofs.Try.f133 rfl (by simp)
  simp
  refine ⟨fun hne e => hne (by rw [e]), fun he => ?_⟩
  refine J.loop hw (fun i : Nat => ⟨[(2, .c (.ref 64002 0)), (3, .c (.ref 64003 0)), (5, .c (.d (i64 i)))], [(64002, .var [.d (i64 p), .d (i64 d), .d (vTerms xs)]), (64003, .var [.d (i64 p'), .d (i64 d'), .d (vTerms ys)])]⟩)
    (fun i => i ≤ xs.length ∧ xs.take i = ys.take i) (fun i => xs.length - i) 0 (by simp) (by simp) ?_
  rintro i ⟨hi, ht⟩
  refine S 12 _ _ ?_
  simp
  refine ⟨fun hlt => ?_, fun hge => ?_⟩
  · refine S 60 _ _ ?_
    simp
    refine J.dr hF mixed 10 [[], [0], [], [0, 1, 2], [0, 1, 2, 3], [], [5], [], [5, 6, 7], [5, 6, 7, 8], [0, 1, 2, 3, 4, 5, 6, 7, 8, 9]] [[20, 21, 22, 23, 24, 25, 26, 27, 28, 29], [21, 22, 23, 24, 25, 26, 27, 28, 29], [20, 21, 22, 23, 24, 25, 26, 27, 28, 29], [23, 24, 25, 26, 27, 28, 29], [24, 25, 26, 27, 28, 29], [20, 21, 22, 23, 24, 25, 26, 27, 28, 29], [20, 21, 22, 23, 24, 26, 27, 28, 29], [20, 21, 22, 23, 24, 25, 26, 27, 28, 29], [20, 21, 22, 23, 24, 28, 29], [20, 21, 22, 23, 24, 29]] (by decide) ?_
    simp
    refine ⟨hlt, fun a ha => ⟨by omega, fun b hb => ?_⟩⟩
    refine S 60 _ _ ?_
    simp
    refine ⟨fun hne e => ?_, fun h1 h2 h3 h4 => ?_⟩
    · subst e
      rw [ha] at hb
      obtain rfl := Option.some.inj hb
      simp at hne
    · have hab : a = b := by
        obtain ⟨⟨_, _, _⟩, _⟩ := a
        obtain ⟨⟨_, _, _⟩, _⟩ := b
        simp_all
      subst hab
      refine Nxt.mk (i + 1) ⟨hlt, ?_⟩ (by simp [wrapS (i := i) (n := xs.length) hlt (by omega)]) (by omega)
      rw [List.take_add_one, List.take_add_one, ht, ha, hb]
  · refine S 60 _ _ ?_
    simp
    have h1 : xs = xs.take i := by rw [List.take_of_length_le (by omega)]
    have h2 : ys = ys.take i := by rw [List.take_of_length_le (by omega)]
    rw [h1, h2, ht]

/-! ### each exchange makes a multiple -/
def Sgn (p n : Int) (ts : List Tm) (i k : Nat) : Prop := exT p (swE i k) ts = plusT p [] ts n
def SymP (p d n : Int) (ts : List Tm) : Prop := ∀ i k : Nat, k < i → (i : Int) < d → Sgn p n ts i k
noncomputable instance (p d n : Int) (ts : List Tm) : Decidable (SymP p d n ts) := Classical.propDecidable _
theorem scale_coef {p : Int} (hp : 0 < p) {ts : List Tm} (ht : Can p ts) (n : Int) : Can p (plusT p [] ts n) ∧ (plusT p [] ts n).length ≤ ts.length ∧ ∀ e, coef (plusT p [] ts n) e = n * coef ts e % p := by
  obtain ⟨h1, h2, h3⟩ := plusT_ok hp (can_nil p) n ts (asc_nodup ht.1)
  refine ⟨h1, by simpa using h2, fun e => ?_⟩
  rw [h3]; simp [coef]
theorem sgn_iff {p : Int} (hp : 0 < p) {ts : List Tm} (ht : Can p ts) (n : Int) (i k : Nat) : Sgn p n ts i k ↔ ∀ e, coef ts (swE i k e) = n * coef ts e % p := by
  obtain ⟨a1, _, a3⟩ := exT_ok hp (swE_swE i k) ts (asc_nodup ht.1) ht.2
  obtain ⟨b1, _, b3⟩ := scale_coef hp ht n
  constructor
  · intro h e
    rw [← a3, h, b3]
  · intro h
    exact can_ext a1 b1 fun e => by rw [a3, b3, h]
theorem sgn_20 {p : Int} (hp : 0 < p) {ts : List Tm} (ht : Can p ts) {n : Int} (hn : n = 1 ∨ n = p - 1) (h1 : Sgn p n ts 1 0) (h2 : Sgn p n ts 2 1) : Sgn p n ts 2 0 := by
  rw [sgn_iff hp ht] at *
  intro e
  have e1 : swE 2 0 e = swE 1 0 (swE 2 1 (swE 1 0 e)) := rfl
  rw [e1, h1, h2, h1]
  have hc := coef_bound hp ht e
  generalize coef ts e = c at *
  rcases hn with rfl | rfl
  · simp [Int.emod_emod_of_dvd]
  · have h3 : ∀ x : Int, (p - 1) * x % p = (-x) % p := fun x => by
      rw [Int.sub_mul, Int.one_mul, show p * x - x = -x + p * x by omega, Int.add_mul_emod_self_left]
    have h4 : ∀ c : Int, 0 ≤ c → c < p → (-c) % p = if c = 0 then 0 else p - c := fun c h0 h1 => by
      split
      · rename_i h; subst h; simp
      · rw [← Int.add_emod_right, Int.emod_eq_of_lt (by omega) (by omega)]; omega
    rw [h3, h3, h3, h4 c hc.1 hc.2]
    by_cases h0 : c = 0
    · simp [h0]
    · rw [if_neg h0, h4 (p - c) (by omega) (by omega), if_neg (by omega), show p - (p - c) = c by omega, h4 c hc.1 hc.2, if_neg h0]

set_option maxHeartbeats 1000000 in
set_option maxRecDepth 4000 in
theorem exchanges_ok (p d n : Int) (ts : List Tm) (hg : GoodP p d ts) (hn : n = 1 ∨ n = p - 1) : CallOK Go.Proofs.Try.prog 97 [pv p d ts, .one (i64 n)] (.one (bo (decide (SymP p d n ts)))) := by
  have hF := fnOk 34 [.tmp 4]
  refine callOK hF 60 Go.Proofs.Try.func97 rfl rfl rfl (by decide) (by simp) rfl ?_
  intro w0 hw
  have S := @vc_sound w0 _ hF ⟨(.one (bo (decide (SymP p d n ts)))), []⟩ Go.Proofs.Try.f97 rfl (by simp)
  have hp := hg.1.pos
  have hl := goodP_len hg
  have hcan := goodP_can hg
  obtain ⟨w1, w2, w3⟩ := scale_coef (p := p) (by omega) hcan n
  have c0 := zeroPoly_ok p d
  have c1 := add_ok p d p d n [] ts (by omega) (by omega) (can_nil p) hcan (by simp) (by omega) (by omega) (by omega)
  have hd := hg.2.1
  generalize hb : decide (SymP p d n ts) = b at S ⊢
  simp
  refine J.dr hF mixed 9 [[], [0], [], [2], [0, 1, 2, 3], [], [], [0, 1, 2, 3, 4, 5, 6], [], [0, 1, 2, 3, 4, 5, 6, 7, 8]] [[8, 9, 10, 11, 12, 13, 14, 15, 5], [9, 10, 11, 12, 13, 14, 15, 5], [8, 9, 10, 11, 12, 13, 14, 15, 5], [8, 9, 11, 12, 13, 14, 15, 5], [12, 13, 14, 15, 5], [8, 9, 10, 11, 12, 13, 14, 15, 5], [8, 9, 10, 11, 12, 13, 14, 15, 5], [15, 5], [8, 9, 10, 11, 12, 13, 14, 15, 5]] (by decide) ?_
  simp
  refine DrC.ok hF (by rfl) (by simp) c0 (by simp) (by simp) ?_
  simp
  refine DrC.ok hF (by rfl) (by simp) c1 (by simp) (by simp) ?_
  simp
  refine S 60 _ _ ?_
  simp
  obtain ⟨dn, rfl⟩ : ∃ m : Nat, d = m := ⟨d.toNat, by omega⟩
  have hSym : (∀ i k : Nat, k < i → i < dn → Sgn p n ts i k) → b = true := fun h => by
    rw [← hb]; simp
    exact fun i k h1 h2 => h i k h1 (by omega)
  have hNot : ∀ i k : Nat, k < i → i < dn → ¬ Sgn p n ts i k → b = false := fun i k h1 h2 h => by
    rw [← hb]; simp
    exact fun h' => h (h' i k h1 (by omega))
  clear hb
  have hunf : ∀ i k, Sgn p n ts i k ↔ exT p (swE i k) ts = plusT p [] ts n := fun _ _ => Iff.rfl
  generalize plusT p [] ts n = W at *
  refine J.loop hw (fun i : Nat => ⟨[(2, .c (.ref 64002 0)), (4, .c (.d (bo false))), (5, .c (.ref 64005 0)), (17, .c (.d (i64 dn))), (18, .c (.d (i64 i)))],
      [(64002, .var [.d (i64 p), .d (i64 dn), .d (vTerms ts)]), (64005, .var [.d (i64 p), .d (i64 dn), .ob 64006]), (64006, .arr 108 4 (terms W))]⟩)
    (fun i => i ≤ dn ∧ ∀ i' k : Nat, k < i' → i' < i → Sgn p n ts i' k) (fun i => dn - i) 0 (by simp) (by simp) ?_
  rintro i ⟨hi, hdone⟩
  refine S 8 _ _ ?_
  simp
  refine ⟨fun hlt => ?_, fun hge => ?_⟩
  · refine S 60 _ _ ?_
    simp
    refine J.loop hw (fun k : Nat => ⟨[(2, .c (.ref 64002 0)), (4, .c (.d (bo false))), (5, .c (.ref 64005 0)), (17, .c (.d (i64 dn))), (18, .c (.d (i64 i))), (6, .c (.d (i64 i))), (21, .c (.d (i64 i))), (22, .c (.d (i64 k)))],
        [(64002, .var [.d (i64 p), .d (i64 dn), .d (vTerms ts)]), (64005, .var [.d (i64 p), .d (i64 dn), .ob 64006]), (64006, .arr 108 4 (terms W))]⟩)
      (fun k => k ≤ i ∧ ∀ k' < k, Sgn p n ts i k') (fun k => i - k) 0 (by simp) (by simp) ?_
    rintro k ⟨hk, hkd⟩
    refine S 8 _ _ ?_
    simp
    refine ⟨fun hlt2 => ?_, fun hge2 => ?_⟩
    · have c2 := exchanged_ok p dn ts i k (by omega) (by omega) (by omega) hcan (by omega)
      obtain ⟨x1, x2, _⟩ := exT_ok (p := p) (by omega) (swE_swE i k) ts (asc_nodup hcan.1) hcan.2
      have c3 := samePoly_ok p dn p dn (exT p (swE i k) ts) W (by omega)
      refine S 60 _ _ ?_
      simp
      refine J.dr hF mixed 5 [[], [], [], [0, 1, 2], [], [0, 1, 2, 3, 4], [0, 1, 2, 3, 4, 5]] [[25, 26, 27, 28, 29], [25, 26, 27, 28, 29], [25, 26, 27, 28, 29], [28, 29], [25, 26, 27, 28, 29]] (by decide) ?_
      simp
      refine DrC.ok hF (by rfl) (by simp) c2 (by simp) (by simp) ?_
      simp
      by_cases hs : Sgn p n ts i k
      · have hs' := (hunf i k).1 hs
        rw [decide_eq_true ⟨⟨rfl, rfl⟩, hs'⟩] at c3
        refine S 60 _ _ ?_
        simp
        refine CallW.ok (by decide) (by simp) c3 (by simp) (S 60 _ _ ?_)
        simp
        refine Nxt.mk (k + 1) ⟨by omega, fun k' h => ?_⟩ (by simp; rw [wrap64] <;> omega) (by omega)
        by_cases e : k' = k
        · rw [e]; exact hs
        · exact hkd k' (by omega)
      · have hs' : ¬ ((p = p ∧ (dn : Int) = dn) ∧ exT p (swE i k) ts = W) := fun h => hs ((hunf i k).2 h.2)
        have hb2 := hNot i k hlt2 (by omega) hs
        rw [decide_eq_false hs'] at c3
        refine S 60 _ _ ?_
        simp
        refine CallW.ok (by decide) (by simp) c3 (by simp) (S 60 _ _ ?_)
        simp [hb2]
    · refine S 60 _ _ ?_
      simp
      refine Nxt.mk (i + 1) ⟨by omega, fun i' k' h1 h2 => ?_⟩ (by simp; rw [wrap64] <;> omega) (by omega)
      by_cases e : i' = i
      · rw [e] at h1 ⊢; exact hkd k' (by omega)
      · exact hdone i' k' h1 (by omega)
  · have hb2 := hSym fun i' k' h1 h2 => hdone i' k' h1 (by omega)
    refine S 60 _ _ ?_
    simp [hb2]

set_option maxHeartbeats 1000000 in
set_option maxRecDepth 4000 in
theorem l08Signed_ok (p d n : Int) (ts : List Tm) (hg : GoodP p d ts) (hn : n = 1 ∨ n = p - 1) : CallOK Go.Proofs.Try.prog 94 [pv p d ts, .one (i64 n)] (.one (bo (decide (SymP p d n ts)))) := by
  have hF := fnOk 23 [.tmp 4]
  refine callOK hF 60 Go.Proofs.Try.func94 rfl rfl rfl (by decide) (by simp) rfl ?_
  intro w0 hw
  have S := @vc_sound w0 _ hF ⟨(.one (bo (decide (SymP p d n ts)))), []⟩ Go.Proofs.Try.f94 rfl (by simp)
  have hp := hg.1.pos
  have hl := goodP_len hg
  have hcan := goodP_can hg
  obtain ⟨w1, w2, w3⟩ := scale_coef (p := p) (by omega) hcan n
  have c1 := l01Scale_ok p d n ts (by omega) (by omega) hcan (by omega) (by omega) (by omega)
  have hd := hg.2.1
  generalize hb : decide (SymP p d n ts) = b at S ⊢
  obtain ⟨dn, rfl⟩ : ∃ m : Nat, d = m := ⟨d.toNat, by omega⟩
  have hSym : (∀ k : Nat, k + 1 < dn → Sgn p n ts (k + 1) k) → b = true := fun h => by
    rw [← hb]; simp
    intro i k h1 h2
    have hc : (i = 1 ∧ k = 0) ∨ (i = 2 ∧ k = 0) ∨ (i = 2 ∧ k = 1) := by omega
    rcases hc with ⟨rfl, rfl⟩ | ⟨rfl, rfl⟩ | ⟨rfl, rfl⟩
    · exact h 0 (by omega)
    · exact sgn_20 (by omega) hcan hn (h 0 (by omega)) (h 1 (by omega))
    · exact h 1 (by omega)
  have hNot : ∀ k : Nat, k + 1 < dn → ¬ Sgn p n ts (k + 1) k → b = false := fun k h1 h => by
    rw [← hb]; simp
    exact fun h' => h (h' (k + 1) k (by omega) (by omega))
  clear hb
  have hunf : ∀ i k, Sgn p n ts i k ↔ exT p (swE i k) ts = plusT p [] ts n := fun _ _ => Iff.rfl
  generalize plusT p [] ts n = W at *
  simp
  refine J.loop hw (fun k : Nat => ⟨[(1, .c (.d (i64 n))), (2, .c (.ref 64002 0)), (4, .c (.d (bo false))), (5, .c (.d (i64 k)))], [(64002, .var [.d (i64 p), .d (i64 dn), .d (vTerms ts)])]⟩)
    (fun k => k + 1 ≤ dn ∧ ∀ k' < k, Sgn p n ts (k' + 1) k') (fun k => dn - k) 0 ⟨by omega, by simp⟩ (by simp) ?_
  rintro k ⟨hk, hdone⟩
  have hwk : IntKind.i64.wrap ((k : Int) + 1) = (k : Int) + 1 := wrap64 (by omega) (by omega)
  refine S 12 _ _ ?_
  simp [hwk]
  refine ⟨fun hlt => ?_, fun hge => ?_⟩
  · have c2 := l08Exchange_ok p dn ts k (by omega) (by omega) (by omega) hcan (by omega)
    obtain ⟨x1, x2, _⟩ := exT_ok (p := p) (by omega) (swE_swE (k + 1) k) ts (asc_nodup hcan.1) hcan.2
    have c3 := l01Same_ok p dn p dn (exT p (swE (k + 1) k) ts) W (by omega)
    refine S 60 _ _ ?_
    simp
    refine J.dr hF mixed 7 [[], [], [], [2], [0, 1, 2, 3], [], [], [0, 1, 2, 3, 4, 5, 6], [0, 1, 2, 3, 4, 5, 6, 7], [0, 1, 2, 3, 4, 5, 6, 7, 8]] [[13, 14, 15, 16, 17, 18, 19], [13, 14, 15, 16, 17, 18, 19], [13, 14, 15, 16, 17, 18, 19], [13, 14, 16, 17, 18, 19], [17, 18, 19], [13, 14, 15, 16, 17, 18, 19], [13, 14, 15, 16, 17, 18, 19]] (by decide) ?_
    simp [hwk]
    refine DrC.ok hF (by rfl) (by simp) c2 (by simp) (by simp) ?_
    simp
    refine S 60 _ _ ?_
    simp
    refine CallW.ok (by decide) (by simp) c1 (by simp) (S 60 _ _ ?_)
    simp
    by_cases hs : Sgn p n ts (k + 1) k
    · have hs' := (hunf (k + 1) k).1 hs
      rw [decide_eq_true hs'] at c3
      refine CallW.ok (by decide) (by simp) c3 (by simp) (S 60 _ _ ?_)
      simp
      refine Nxt.mk (k + 1) ⟨by omega, fun k' h => ?_⟩ (by simp [hwk]) (by omega)
      by_cases e : k' = k
      · rw [e]; exact hs
      · exact hdone k' (by omega)
    · have hs' : ¬ exT p (swE (k + 1) k) ts = W := fun h => hs ((hunf (k + 1) k).2 h)
      have hb2 := hNot k (by omega) hs
      rw [decide_eq_false hs'] at c3
      refine CallW.ok (by decide) (by simp) c3 (by simp) (S 60 _ _ ?_)
      simp [hb2]
  · have hb2 := hSym fun k' h1 => hdone k' (by omega)
    refine S 60 _ _ ?_
    simp [hb2]

/-! ### symmetric -/
noncomputable def symR (p d : Int) (ts : List Tm) : Bool × Int := if GoodP p d ts then (decide (SymP p d 1 ts), 0) else (false, 1)
theorem len_big {p d : Int} {ts : List Tm} (h : GoodP p d ts) : ts.length ≤ 1048576 := by have := goodP_len h; omega

theorem IsSymmetric_ok (p d : Int) (ts : List Tm) (hl : ts.length ≤ 1048576) : CallOK Go.Proofs.Try.prog 43 [pv p d ts] (.tup [(false, [bo (symR p d ts).1]), (false, [i64 (symR p d ts).2])]) := by
  have hF := fnOk 9 [.tmp 2, .tmp 3]
  refine callOK hF 60 Go.Proofs.Try.func43 rfl rfl rfl (by decide) (by simp) rfl ?_
  intro w0 hw
  have S := @vc_sound w0 _ hF ⟨(.tup [(false, [bo (symR p d ts).1]), (false, [i64 (symR p d ts).2])]), []⟩ Go.Proofs.Try.f43 rfl (by simp)
  have c1 := IsPoly_ok p d ts hl
  by_cases hg : GoodP p d ts
  · rw [decide_eq_true hg] at c1
    have c2 := exchanges_ok p d 1 ts hg (.inl rfl)
    have e : symR p d ts = (decide (SymP p d 1 ts), 0) := by unfold symR; rw [if_pos hg]
    rw [e] at S ⊢
    simp
    refine CallW.ok (by decide) (by simp) c1 (by simp) (S 60 _ _ ?_)
    simp
    refine CallW.ok (by decide) (by simp) c2 (by simp) (S 60 _ _ ?_)
    simp
  · rw [decide_eq_false hg] at c1
    have e : symR p d ts = (false, 1) := by unfold symR; rw [if_neg hg]
    rw [e] at S ⊢
    simp
    refine CallW.ok (by decide) (by simp) c1 (by simp) (S 60 _ _ ?_)
    simp

theorem specIsSymmetric_ok (p d : Int) (ts : List Tm) (hl : ts.length ≤ 1048576) : CallOK Go.Proofs.Try.prog 41 [pv p d ts] (.tup [(false, [bo (symR p d ts).1]), (false, [i64 (symR p d ts).2])]) := by
  have hF := fnOk 9 [.tmp 2, .tmp 3]
  refine callOK hF 60 Go.Proofs.Try.func41 rfl rfl rfl (by decide) (by simp) rfl ?_
  intro w0 hw
  have S := @vc_sound w0 _ hF ⟨(.tup [(false, [bo (symR p d ts).1]), (false, [i64 (symR p d ts).2])]), []⟩ Go.Proofs.Try.f41 rfl (by simp)
  have c1 := l01Is_ok p d ts hl
  by_cases hg : GoodP p d ts
  · rw [decide_eq_true hg] at c1
    have c2 := l08Signed_ok p d 1 ts hg (.inl rfl)
    have e : symR p d ts = (decide (SymP p d 1 ts), 0) := by unfold symR; rw [if_pos hg]
    rw [e] at S ⊢
    simp
    refine CallW.ok (by decide) (by simp) c1 (by simp) (S 60 _ _ ?_)
    simp
    refine CallW.ok (by decide) (by simp) c2 (by simp) (S 60 _ _ ?_)
    simp
  · rw [decide_eq_false hg] at c1
    have e : symR p d ts = (false, 1) := by unfold symR; rw [if_neg hg]
    rw [e] at S ⊢
    simp
    refine CallW.ok (by decide) (by simp) c1 (by simp) (S 60 _ _ ?_)
    simp

end Go.Sm

namespace Go.Sm
open Go.RowKit

/-- A polynomial as a triple. -/
structure Pl where
  p : Int
  d : Int
  ts : List Tm
abbrev vPolys (xs : List Pl) : D := .vw true 3 (xs.map fun x => [i64 x.p, i64 x.d, vTerms x.ts])
abbrev oPolys (xs : List Pl) : D := .own 39 3 (xs.map fun x => [i64 x.p, i64 x.d, oTerms x.ts])

end Go.Sm

namespace Go.Sm
open Go.RowKit

def AllP (xs : List Pl) : Prop := ∀ x ∈ xs, GoodP x.p x.d x.ts
noncomputable instance (xs : List Pl) : Decidable (AllP xs) := Classical.propDecidable _
/-- Alike with the first one, and few. -/
def LikeP (xs : List Pl) : Prop := xs.length ≤ 8 ∧ ∀ x ∈ xs, ∀ y, xs[0]? = some y → x.p = y.p ∧ x.d = y.d
noncomputable instance (xs : List Pl) : Decidable (LikeP xs) := Classical.propDecidable _

theorem arePolys_ok (xs : List Pl) (hl : xs.length ≤ 1048576) (hr : ∀ x ∈ xs, x.ts.length ≤ 1048576) : CallOK Go.Proofs.Try.prog 70 [.one (vPolys xs)] (.one (bo (decide (AllP xs)))) := by
  have hF := fnOk 15 [.tmp 2]
  refine callOK hF 60 Go.Proofs.Try.func70 rfl rfl rfl (by decide) (by simp) rfl ?_
  intro w0 hw
  have S := @vc_sound w0 _ hF ⟨(.one (bo (decide (AllP xs)))), []⟩ Go.Proofs.Try.f70 rfl (by simp)
  generalize hb : decide (AllP xs) = b at S ⊢
  have hbad : ∀ x ∈ xs, ¬ GoodP x.p x.d x.ts → b = false := fun x hx hn => by rw [← hb]; simp only [decide_eq_false_iff_not]; exact fun h => hn (h x hx)
  simp
  refine J.loop hw (fun i : Nat => ⟨[(5, .c (.d (vPolys xs))), (6, .c (.d (i64 xs.length))), (7, .c (.d (i64 i)))], []⟩)
    (fun i => i ≤ xs.length ∧ ∀ x ∈ xs.take i, GoodP x.p x.d x.ts) (fun i => xs.length - i) 0 (by simp) (by simp) ?_
  rintro i ⟨hi, hall⟩
  refine S 8 _ _ ?_
  simp
  refine ⟨fun hlt => ?_, fun hge => ?_⟩
  · obtain ⟨x, hx⟩ : ∃ x, xs[i]? = some x := ⟨xs[i], List.getElem?_eq_getElem hlt⟩
    have hm := List.mem_of_getElem? hx
    have c1 := IsPoly_ok x.p x.d x.ts (hr x hm)
    have hbx := hbad x hm
    refine S 6 _ _ ?_
    simp
    refine ⟨hlt, fun x' hx' => ?_⟩
    obtain rfl : x = x' := Option.some.inj (hx.symm.trans hx')
    by_cases hg : GoodP x.p x.d x.ts
    · rw [decide_eq_true hg] at c1
      refine S 60 _ _ ?_
      simp
      refine CallW.ok (by decide) (by simp) c1 (by simp) (S 60 _ _ ?_)
      simp
      refine Nxt.mk (i + 1) ⟨hlt, fun q hq => ?_⟩ (by simp [wrapS (i := i) (n := xs.length) hlt (by omega)]) (by omega)
      rw [List.take_add_one, hx] at hq
      simp only [Option.toList, List.mem_append, List.mem_singleton] at hq
      rcases hq with h | rfl
      · exact hall q h
      · exact hg
    · rw [decide_eq_false hg] at c1
      refine S 60 _ _ ?_
      simp
      refine CallW.ok (by decide) (by simp) c1 (by simp) (S 60 _ _ ?_)
      simp
      exact hbx hg
  · rw [List.take_of_length_le (by omega)] at hall
    refine S 60 _ _ ?_
    simp
    rw [← hb]
    exact decide_eq_true hall

set_option maxHeartbeats 1000000 in
theorem areLike_ok (xs : List Pl) (hl : xs.length ≤ 1048576) : CallOK Go.Proofs.Try.prog 71 [.one (vPolys xs)] (.one (bo (decide (LikeP xs)))) := by
  have hF := fnOk 21 [.tmp 2]
  refine callOK hF 60 Go.Proofs.Try.func71 rfl rfl rfl (by decide) (by simp) rfl ?_
  intro w0 hw
  have S := @vc_sound w0 _ hF ⟨(.one (bo (decide (LikeP xs)))), []⟩ Go.Proofs.Try.f71 rfl (by simp)
  generalize hb : decide (LikeP xs) = b at S ⊢
  simp
  refine J.loop hw (fun i : Nat => ⟨[(0, .c (.d (vPolys xs))), (5, .c (.d (vPolys xs))), (6, .c (.d (i64 xs.length))), (7, .c (.d (i64 i)))], []⟩)
    (fun i => i ≤ xs.length ∧ ∀ x ∈ xs.take i, ∀ y, xs[0]? = some y → x.p = y.p ∧ x.d = y.d) (fun i => xs.length - i) 0 (by simp) (by simp) ?_
  rintro i ⟨hi, hall⟩
  refine S 8 _ _ ?_
  simp
  refine ⟨fun hlt => ?_, fun hge => ?_⟩
  · obtain ⟨x, hx⟩ : ∃ x, xs[i]? = some x := ⟨xs[i], List.getElem?_eq_getElem hlt⟩
    obtain ⟨y, hy⟩ : ∃ y, xs[0]? = some y := ⟨xs[0]'(by omega), List.getElem?_eq_getElem (by omega)⟩
    have hm := List.mem_of_getElem? hx
    have c1 := alike_ok x.p x.d y.p y.d x.ts y.ts
    have hbx : ¬ (x.p = y.p ∧ x.d = y.d) → b = false := fun hn => by rw [← hb]; simp only [decide_eq_false_iff_not]; exact fun h => hn (h.2 x hm y hy)
    refine S 6 _ _ ?_
    simp
    refine ⟨hlt, fun x' hx' => ?_⟩
    obtain rfl : x = x' := Option.some.inj (hx.symm.trans hx')
    refine S 60 _ _ ?_
    simp
    refine J.dr hF mixed 4 [[], [], [1], [1, 2], [0, 1, 2, 3], [0, 1, 2, 3, 4]] [[11, 12, 13, 14], [11, 12, 13, 14], [11, 13, 14], [11, 14]] (by decide) ?_
    simp
    refine ⟨by omega, fun y' hy' => ?_⟩
    obtain rfl : y = y' := Option.some.inj (hy.symm.trans hy')
    refine S 60 _ _ ?_
    simp
    by_cases hg : x.p = y.p ∧ x.d = y.d
    · rw [decide_eq_true hg] at c1
      refine CallW.ok (by decide) (by simp) c1 (by simp) (S 60 _ _ ?_)
      simp
      refine Nxt.mk (i + 1) ⟨hlt, fun q hq z hz => ?_⟩ (by simp [wrapS (i := i) (n := xs.length) hlt (by omega)]) (by omega)
      rw [List.take_add_one, hx] at hq
      simp only [Option.toList, List.mem_append, List.mem_singleton] at hq
      rcases hq with h | rfl
      · exact hall q h z hz
      · obtain rfl : y = z := Option.some.inj (hy.symm.trans hz)
        exact hg
    · rw [decide_eq_false hg] at c1
      refine CallW.ok (by decide) (by simp) c1 (by simp) (S 60 _ _ ?_)
      simp
      exact hbx hg
  · rw [List.take_of_length_le (by omega)] at hall
    have e : decide (((xs.length : Int)) ≤ 8) = b := by
      rw [← hb]
      exact decide_eq_decide.2 ⟨fun h => ⟨by omega, hall⟩, fun h => by have := h.1; omega⟩
    refine S 60 _ _ ?_
    simp [e]

def PointP (p d : Int) (v : List Int) : Prop := (v.length : Int) = d ∧ ∀ x ∈ v, 0 ≤ x ∧ x < p
instance (p d : Int) (v : List Int) : Decidable (PointP p d v) := by unfold PointP; infer_instance

theorem isPoint_ok (p d : Int) (v : List Int) (hl : v.length ≤ 1048576) : CallOK Go.Proofs.Try.prog 72 [.one (i64 p), .one (i64 d), .one (vInts v)] (.one (bo (decide (PointP p d v)))) := by
  have hF := fnOk 16 [.tmp 6]
  refine callOK hF 60 Go.Proofs.Try.func72 rfl rfl rfl (by decide) (by simp) rfl ?_
  intro w0 hw
  have S := @vc_sound w0 _ hF ⟨(.one (bo (decide (PointP p d v)))), []⟩ Go.Proofs.Try.f72 rfl (by simp)
  have c1 := field_ok p v hl
  by_cases h : (v.length : Int) = d
  · have e : decide (PointP p d v) = decide (∀ x ∈ v, 0 ≤ x ∧ x < p) := decide_eq_decide.2 ⟨fun h => h.2, fun h2 => ⟨h, h2⟩⟩
    have hb : ((v.length : Int) == d) = true := by simpa using h
    rw [e] at S ⊢
    generalize decide (∀ x ∈ v, 0 ≤ x ∧ x < p) = b at c1 S ⊢
    simp [hb]
    refine CallW.ok (by decide) (by simp) c1 (by simp) (S 60 _ _ ?_)
    simp
  · have e : decide (PointP p d v) = false := decide_eq_false fun h2 => h h2.1
    have hb : ((v.length : Int) == d) = false := by simpa using h
    rw [e] at S ⊢
    simp [hb]

theorem l01Point_ok (p d : Int) (v : List Int) (hp : Pr p) (hl : v.length ≤ 1048576) : CallOK Go.Proofs.Try.prog 68 [.one (i64 p), .one (i64 d), .one (vInts v)] (.one (bo (decide (PointP p d v)))) := by
  have hF := fnOk 26 [.tmp 6]
  refine callOK hF 60 Go.Proofs.Try.func68 rfl rfl rfl (by decide) (by simp) rfl ?_
  intro w0 hw
  have S := @vc_sound w0 _ hF ⟨(.one (bo (decide (PointP p d v)))), []⟩ Go.Proofs.Try.f68 rfl (by simp)
  generalize hb : decide (PointP p d v) = b at S ⊢
  have hpp : 2 ≤ p ∧ p ≤ 13 := by unfold Pr at hp; omega
  have hw1 : IntKind.i64.wrap (p - 1) = p - 1 := wrap64 (by omega) (by omega)
  have hbad : ∀ x ∈ v, ¬ (0 ≤ x ∧ x ≤ p - 1) → b = false := fun x hx hn => by
    rw [← hb]; simp only [decide_eq_false_iff_not]; intro h; exact hn (by have := h.2 x hx; omega)
  simp
  refine J.loop hw (fun i : Nat => ⟨[(0, .c (.d (i64 p))), (1, .c (.d (i64 d))), (2, .c (.d (vInts v))), (7, .c (.d (i64 i)))], []⟩)
    (fun i => i ≤ v.length ∧ ∀ x ∈ v.take i, 0 ≤ x ∧ x ≤ p - 1) (fun i => v.length - i) 0 (by simp) (by simp) ?_
  rintro i ⟨hi, hall⟩
  refine S 12 _ _ ?_
  simp
  refine ⟨fun hlt => ?_, fun hge => ?_⟩
  · obtain ⟨x, hx⟩ : ∃ x, v[i]? = some x := ⟨v[i], List.getElem?_eq_getElem hlt⟩
    have hbx := hbad x (List.mem_of_getElem? hx)
    have c1 := l01In_ok x 0 (p - 1)
    refine S 60 _ _ ?_
    simp [hw1]
    refine ⟨hlt, fun x' hx' => ?_⟩
    obtain rfl : x = x' := Option.some.inj (hx.symm.trans hx')
    by_cases hf : 0 ≤ x ∧ x ≤ p - 1
    · rw [decide_eq_true hf] at c1
      refine CallW.ok (by decide) (by simp) c1 (by simp) (S 60 _ _ ?_)
      simp
      refine Nxt.mk (i + 1) ⟨hlt, fun q hq => ?_⟩ (by simp [wrapS (i := i) (n := v.length) hlt (by omega)]) (by omega)
      rw [List.take_add_one, hx] at hq
      simp only [Option.toList, List.mem_append, List.mem_singleton] at hq
      rcases hq with h | rfl
      · exact hall q h
      · exact hf
    · rw [decide_eq_false hf] at c1
      refine CallW.ok (by decide) (by simp) c1 (by simp) (S 60 _ _ ?_)
      simp
      exact hbx hf
  · rw [List.take_of_length_le (by omega)] at hall
    refine S 60 _ _ ?_
    simp
    rw [← hb]
    by_cases h : (v.length : Int) = d
    · have e : ((v.length : Int) == d) = true := by simpa using h
      rw [e]
      exact (decide_eq_true (p := PointP p d v) ⟨h, fun x hx => by have := hall x hx; omega⟩).symm
    · have e : ((v.length : Int) == d) = false := by simpa using h
      rw [e]
      exact (decide_eq_false (p := PointP p d v) fun hq => h hq.1).symm

/-- The error of a list of polynomials. -/
noncomputable def likeN (xs : List Pl) : Int := if AllP xs then (if LikeP xs then 0 else 2) else 1

set_option maxHeartbeats 1000000 in
theorem l09Like_ok (xs : List Pl) (hl : xs.length ≤ 1048576) (hr : ∀ x ∈ xs, x.ts.length ≤ 1048576) : CallOK Go.Proofs.Try.prog 67 [.one (vPolys xs)] (.one (i64 (likeN xs))) := by
  have hF := fnOk 48 [.tmp 2]
  refine callOK hF 60 Go.Proofs.Try.func67 rfl rfl rfl (by decide) (by simp) rfl ?_
  intro w0 hw
  have S := @vc_sound w0 _ hF ⟨(.one (i64 (likeN xs))), []⟩ Go.Proofs.Try.f67 rfl (by simp)
  generalize hb : likeN xs = b at S ⊢
  have hbad : ∀ x ∈ xs, ¬ GoodP x.p x.d x.ts → b = 1 := fun x hx hn => by rw [← hb]; exact if_neg fun h => hn (h x hx)
  simp
  refine J.loop hw (fun i : Nat => ⟨[(0, .c (.d (vPolys xs))), (3, .c (.d (i64 i)))], []⟩)
    (fun i => i ≤ xs.length ∧ ∀ x ∈ xs.take i, GoodP x.p x.d x.ts) (fun i => xs.length - i) 0 (by simp) (by simp) ?_
  rintro i ⟨hi, hall⟩
  refine S 12 _ _ ?_
  simp
  refine ⟨fun hlt => ?_, fun hge => ?_⟩
  · obtain ⟨x, hx⟩ : ∃ x, xs[i]? = some x := ⟨xs[i], List.getElem?_eq_getElem hlt⟩
    have hm := List.mem_of_getElem? hx
    have c1 := l01Is_ok x.p x.d x.ts (hr x hm)
    have hbx := hbad x hm
    refine S 60 _ _ ?_
    simp
    refine ⟨hlt, fun x' hx' => ?_⟩
    obtain rfl : x = x' := Option.some.inj (hx.symm.trans hx')
    by_cases hg : GoodP x.p x.d x.ts
    · rw [decide_eq_true hg] at c1
      refine CallW.ok (by decide) (by simp) c1 (by simp) (S 60 _ _ ?_)
      simp
      refine Nxt.mk (i + 1) ⟨hlt, fun q hq => ?_⟩ (by simp [wrapS (i := i) (n := xs.length) hlt (by omega)]) (by omega)
      rw [List.take_add_one, hx] at hq
      simp only [Option.toList, List.mem_append, List.mem_singleton] at hq
      rcases hq with h | rfl
      · exact hall q h
      · exact hg
    · rw [decide_eq_false hg] at c1
      refine CallW.ok (by decide) (by simp) c1 (by simp) (S 60 _ _ ?_)
      simp
      exact (hbx hg).symm
  · rw [List.take_of_length_le (by omega)] at hall
    have hb2 : b = if LikeP xs then 0 else 2 := by rw [← hb]; exact if_pos hall
    refine S 60 _ _ ?_
    simp
    refine ⟨fun h8 => ?_, fun h8 => ?_⟩
    · rw [hb2, if_neg fun h => by have := h.1; omega]
    · clear hge hall hi
      refine J.loop hw (fun i : Nat => ⟨[(0, .c (.d (vPolys xs))), (4, .c (.d (i64 i)))], []⟩)
        (fun i => i ≤ xs.length ∧ ∀ x ∈ xs.take i, ∀ y, xs[0]? = some y → x.p = y.p ∧ x.d = y.d) (fun i => xs.length - i) 0 (by simp) (by simp) ?_
      rintro i ⟨hi, hall⟩
      refine S 12 _ _ ?_
      simp
      refine ⟨fun hlt => ?_, fun hge => ?_⟩
      · obtain ⟨x, hx⟩ : ∃ x, xs[i]? = some x := ⟨xs[i], List.getElem?_eq_getElem hlt⟩
        obtain ⟨y, hy⟩ : ∃ y, xs[0]? = some y := ⟨xs[0]'(by omega), List.getElem?_eq_getElem (by omega)⟩
        have hm := List.mem_of_getElem? hx
        have hbx : ¬ (x.p = y.p ∧ x.d = y.d) → b = 2 := fun hn => by rw [hb2]; exact if_neg fun h => hn (h.2 x hm y hy)
        refine S 60 _ _ ?_
        simp
        refine J.dr hF mixed 20 [[], [], [0, 1], [0, 1, 2], [0, 1, 2, 3], [], [5], [5, 6], [5, 6, 7], [0, 1, 2, 3, 4, 5, 6, 7, 8], [0, 1, 2, 3, 4, 5, 6, 7, 8, 9], [0, 1, 2, 3, 4, 5, 6, 7, 8, 9, 10], [0, 1, 2, 3, 4, 5, 6, 7, 8, 9, 10], [0, 1, 2, 3, 4, 5, 6, 7, 8, 9, 10, 11, 12], [0, 1, 2, 3, 4, 5, 6, 7, 8, 9, 10, 11, 12, 13], [0, 1, 2, 3, 4, 5, 6, 7, 8, 9, 10, 11, 12, 13, 14], [0, 1, 2, 3, 4, 5, 6, 7, 8, 9, 10], [0, 1, 2, 3, 4, 5, 6, 7, 8, 9, 10, 16], [0, 1, 2, 3, 4, 5, 6, 7, 8, 9, 10, 16, 17], [0, 1, 2, 3, 4, 5, 6, 7, 8, 9, 10, 16, 17, 18], [0, 1, 2, 3, 4, 5, 6, 7, 8, 9, 10, 11, 12, 13, 14, 15, 16, 17, 18, 19], [0, 1, 2, 3, 4, 5, 6, 7, 8, 9, 10, 11, 12, 13, 14, 15, 16, 17, 18, 19, 20]] [[26, 27, 28, 29, 30, 31, 32, 33, 34, 35, 36, 37, 38, 39, 40, 41, 42, 43, 44, 45], [26, 27, 28, 29, 30, 31, 32, 33, 34, 35, 36, 37, 38, 39, 40, 41, 42, 43, 44, 45], [28, 29, 30, 31, 32, 33, 34, 35, 36, 37, 38, 39, 40, 41, 42, 43, 44, 45], [29, 30, 31, 32, 33, 34, 35, 36, 37, 38, 39, 40, 41, 42, 43, 44, 45], [30, 31, 32, 33, 34, 35, 36, 37, 38, 39, 40, 41, 42, 43, 44, 45], [26, 27, 28, 29, 30, 31, 32, 33, 34, 35, 36, 37, 38, 39, 40, 41, 42, 43, 44, 45], [26, 27, 28, 29, 30, 32, 33, 34, 35, 36, 37, 38, 39, 40, 41, 42, 43, 44, 45], [26, 27, 28, 29, 30, 33, 34, 35, 36, 37, 38, 39, 40, 41, 42, 43, 44, 45], [26, 27, 28, 29, 30, 34, 35, 36, 37, 38, 39, 40, 41, 42, 43, 44, 45], [35, 36, 37, 38, 39, 40, 41, 42, 43, 44, 45], [36, 37, 38, 39, 40, 41, 42, 43, 44, 45], [37, 38, 39, 40, 41, 42, 43, 44, 45], [37, 38, 39, 40, 41, 42, 43, 44, 45], [39, 40, 41, 42, 43, 44, 45], [40, 41, 42, 43, 44, 45], [41, 42, 43, 44, 45], [37, 38, 39, 40, 41, 42, 43, 44, 45], [37, 38, 39, 40, 41, 43, 44, 45], [37, 38, 39, 40, 41, 44, 45], [37, 38, 39, 40, 41, 45]] (by decide) ?_
        rw [← List.take_append_drop 5 (List.take _ _)]
        generalize htl : List.drop 5 (List.take _ _) = tl
        simp
        refine ⟨hlt, fun x' hx' => ?_⟩
        obtain rfl : x = x' := Option.some.inj (hx.symm.trans hx')
        subst htl
        rw [← List.take_append_drop 4 (List.drop 5 _)]
        generalize htl : List.drop 4 (List.drop 5 _) = tl
        simp
        refine ⟨by omega, fun y' hy' => ?_⟩
        obtain rfl : y = y' := Option.some.inj (hy.symm.trans hy')
        subst htl
        by_cases hp : x.p = y.p
        · have hpb : (x.p != y.p) = false := by simpa using hp
          rw [← List.take_append_drop 7 (List.drop 4 (List.drop 5 _))]
          generalize htl : List.drop 7 (List.drop 4 (List.drop 5 _)) = tl
          simp [hpb]
          refine ⟨hlt, fun x' hx' => ?_⟩
          obtain rfl : x = x' := Option.some.inj (hx.symm.trans hx')
          subst htl
          simp
          refine ⟨by omega, fun y' hy' => ?_⟩
          obtain rfl : y = y' := Option.some.inj (hy.symm.trans hy')
          refine S 60 _ _ ?_
          simp
          refine ⟨fun hne => ?_, fun heq => ?_⟩
          · exact (hbx fun h => hne h.2).symm
          · refine Nxt.mk (i + 1) ⟨hlt, fun q hq z hz => ?_⟩ (by simp [wrapS (i := i) (n := xs.length) hlt (by omega)]) (by omega)
            rw [List.take_add_one, hx] at hq
            simp only [Option.toList, List.mem_append, List.mem_singleton] at hq
            rcases hq with h | rfl
            · exact hall q h z hz
            · obtain rfl : y = z := Option.some.inj (hy.symm.trans hz)
              exact ⟨hp, heq⟩
        · have hpb : (x.p != y.p) = true := by simpa using hp
          have e := hbx fun h => hp h.1
          simp [hpb]
          refine S 60 _ _ ?_
          simp
          exact e.symm
      · rw [List.take_of_length_le (by omega)] at hall
        refine S 60 _ _ ?_
        simp
        rw [hb2, if_pos ⟨by omega, hall⟩]

end Go.Sm

namespace Go.Sm
open Go.RowKit

/-- An exponent, by its place. -/
def exAt (e : Ex) (i : Nat) : UInt8 := if i = 0 then e.a else if i = 1 then e.b else e.c
/-- No two exponents of the first letters are equal. -/
def DiffE (d : Int) (e : Ex) : Prop := ∀ i k : Nat, k < i → (i : Int) < d → exAt e i ≠ exAt e k
noncomputable instance (d : Int) (e : Ex) : Decidable (DiffE d e) := Classical.propDecidable _
def AltP (p d : Int) (ts : List Tm) : Prop := (∀ t ∈ ts, DiffE d t.e) ∧ SymP p d (p - 1) ts
noncomputable instance (p d : Int) (ts : List Tm) : Decidable (AltP p d ts) := Classical.propDecidable _
theorem alt_false {p d : Int} {ts : List Tm} {n : Nat} {t : Tm} (ht : ts[n]? = some t) (h : ¬ DiffE d t.e) : ¬ AltP p d ts := fun ha => h (ha.1 t (List.mem_of_getElem? ht))

set_option maxHeartbeats 1000000 in
set_option maxRecDepth 4000 in
theorem alternating_ok (p d : Int) (ts : List Tm) (hg : GoodP p d ts) : CallOK Go.Proofs.Try.prog 111 [pv p d ts] (.one (bo (decide (AltP p d ts)))) := by
  have hF := fnOk 40 [.tmp 2]
  refine callOK hF 60 Go.Proofs.Try.func111 rfl rfl rfl (by decide) (by simp) rfl ?_
  intro w0 hw
  have S := @vc_sound w0 _ hF ⟨(.one (bo (decide (AltP p d ts)))), []⟩ Go.Proofs.Try.f111 rfl (by simp)
  have hp := hg.1.pos
  have hl := goodP_len hg
  have hd := hg.2.1
  have c1 := exchanges_ok p d (p - 1) ts hg (.inr rfl)
  have hwp : IntKind.i64.wrap (p - 1) = p - 1 := wrap64 (by omega) (by omega)
  generalize hb : decide (AltP p d ts) = b at S ⊢
  obtain ⟨dn, rfl⟩ : ∃ m : Nat, d = m := ⟨d.toNat, by omega⟩
  simp
  refine J.loop hw (fun n : Nat => ⟨[(1, .c (.ref 64001 0)), (2, .c (.d (bo false))), (8, .c (.d (vTerms ts))), (9, .c (.d (i64 ts.length))), (10, .c (.d (i64 n)))], [(64001, .var [.d (i64 p), .d (i64 dn), .d (vTerms ts)])]⟩)
    (fun n => n ≤ ts.length ∧ ∀ m < n, ∀ t, ts[m]? = some t → DiffE dn t.e) (fun n => ts.length - n) 0 (by simp) (by simp) ?_
  rintro n ⟨hn, hall⟩
  refine S 8 _ _ ?_
  simp
  refine ⟨fun hlt => ?_, fun hge => ?_⟩
  · obtain ⟨t, ht⟩ : ∃ t, ts[n]? = some t := ⟨ts[n], List.getElem?_eq_getElem hlt⟩
    have hb1 : ∀ i k : Nat, k < i → i < dn → exAt t.e i = exAt t.e k → b = false := fun i k h1 h2 h3 => by
      rw [← hb]; simp
      exact alt_false ht fun h => h i k h1 (by omega) h3
    refine S 6 _ _ ?_
    simp
    refine ⟨hlt, fun x hx => ?_⟩
    obtain rfl : t = x := Option.some.inj (ht.symm.trans hx)
    clear hx
    refine S 60 _ _ ?_
    simp
    refine J.loop hw (fun i : Nat => ⟨[(1, .c (.ref 64001 0)), (2, .c (.d (bo false))), (8, .c (.d (vTerms ts))), (9, .c (.d (i64 ts.length))), (10, .c (.d (i64 n))), (4, .c (.ref 64004 0)), (15, .c (.d (i64 dn))), (16, .c (.d (i64 i)))], [(64001, .var [.d (i64 p), .d (i64 dn), .d (vTerms ts)]), (64004, .var [.d (u8 t.e.a), .d (u8 t.e.b), .d (u8 t.e.c), .d (i64 t.v)])]⟩)
      (fun i => i ≤ dn ∧ ∀ i' k : Nat, k < i' → i' < i → exAt t.e i' ≠ exAt t.e k) (fun i => dn - i) 0 (by simp) (by simp) ?_
    rintro i ⟨hi, hdi⟩
    refine S 8 _ _ ?_
    simp
    refine ⟨fun hlt1 => ?_, fun hge1 => ?_⟩
    · refine S 60 _ _ ?_
      simp
      refine J.loop hw (fun k : Nat => ⟨[(1, .c (.ref 64001 0)), (2, .c (.d (bo false))), (8, .c (.d (vTerms ts))), (9, .c (.d (i64 ts.length))), (10, .c (.d (i64 n))), (4, .c (.ref 64004 0)), (15, .c (.d (i64 dn))), (16, .c (.d (i64 i))), (5, .c (.d (i64 i))), (19, .c (.d (i64 i))), (20, .c (.d (i64 k)))], [(64001, .var [.d (i64 p), .d (i64 dn), .d (vTerms ts)]), (64004, .var [.d (u8 t.e.a), .d (u8 t.e.b), .d (u8 t.e.c), .d (i64 t.v)])]⟩)
        (fun k => k ≤ i ∧ ∀ k' < k, exAt t.e i ≠ exAt t.e k') (fun k => i - k) 0 (by simp) (by simp) ?_
      rintro k ⟨hk, hdk⟩
      refine S 8 _ _ ?_
      simp
      refine ⟨fun hlt2 => ?_, fun hge2 => ?_⟩
      · have hb2 := hb1 i k hlt2 hlt1
        refine S 60 _ _ ?_
        have hnx : exAt t.e i ≠ exAt t.e k → ∀ k' < k + 1, exAt t.e i ≠ exAt t.e k' := fun h k' hk' => by
          by_cases e : k' = k
          · rw [e]; exact h
          · exact hdk k' (by omega)
        have hc : (i = 1 ∧ k = 0) ∨ (i = 2 ∧ k = 0) ∨ (i = 2 ∧ k = 1) := by omega
        rcases hc with ⟨rfl, rfl⟩ | ⟨rfl, rfl⟩ | ⟨rfl, rfl⟩ <;> simp only [exAt] at hb2 <;> simp at hb2 <;> simp
        all_goals
          refine J.dr hF mixed 8 [[], [], [0, 1], [0, 1, 2], [], [], [4, 5], [4, 5, 6], [0, 1, 2, 3, 4, 5, 6, 7]] [[23, 24, 25, 26, 27, 28, 29, 30], [23, 24, 25, 26, 27, 28, 29, 30], [25, 26, 27, 28, 29, 30], [26, 27, 28, 29, 30], [23, 24, 25, 26, 27, 28, 29, 30], [23, 24, 25, 26, 27, 28, 29, 30], [23, 24, 25, 26, 29, 30], [23, 24, 25, 26, 30]] (by decide) ?_
          simp
          refine S 60 _ _ ?_
          simp
          refine ⟨hb2, fun h => Nxt.mk _ ⟨by omega, hnx h⟩ (by simp) (by omega)⟩
      · refine S 60 _ _ ?_
        simp
        refine Nxt.mk (i + 1) ⟨by omega, fun i' k' h1 h2 => ?_⟩ (by simp; rw [wrap64] <;> omega) (by omega)
        by_cases e : i' = i
        · rw [e] at h1 ⊢; exact hdk k' (by omega)
        · exact hdi i' k' h1 (by omega)
    · refine S 60 _ _ ?_
      simp
      refine Nxt.mk (n + 1) ⟨by omega, fun m hm x hx => ?_⟩ (by simp; rw [wrap64] <;> omega) (by omega)
      by_cases e : m = n
      · subst e
        obtain rfl : t = x := Option.some.inj (ht.symm.trans hx)
        exact fun i' k' h1 h2 => hdi i' k' h1 (by omega)
      · exact hall m (by omega) x hx
  · have hd1 : ∀ t ∈ ts, DiffE dn t.e := fun t ht => by
      obtain ⟨m, hm, rfl⟩ := List.getElem_of_mem ht
      exact hall m (by omega) _ (List.getElem?_eq_getElem hm)
    have hb2 : decide (SymP p dn (p - 1) ts) = b := by
      rw [← hb]
      exact decide_eq_decide.2 ⟨fun h => ⟨hd1, h⟩, fun h => h.2⟩
    rw [hb2] at c1
    refine S 60 _ _ ?_
    simp [hwp]
    refine CallW.ok (by decide) (by simp) c1 (by simp) (S 60 _ _ ?_)
    simp

theorem exAt_cases {e : Ex} {i : Nat} (hi : i ≤ 2) : (i = 0 ∧ exAt e i = e.a) ∨ (i = 1 ∧ exAt e i = e.b) ∨ (i = 2 ∧ exAt e i = e.c) := by
  have : i = 0 ∨ i = 1 ∨ i = 2 := by omega
  rcases this with rfl | rfl | rfl <;> simp [exAt]

set_option maxHeartbeats 1000000 in
set_option maxRecDepth 4000 in
theorem l08Alternates_ok (p d : Int) (ts : List Tm) (hg : GoodP p d ts) : CallOK Go.Proofs.Try.prog 110 [pv p d ts] (.one (bo (decide (AltP p d ts)))) := by
  have hF := fnOk 49 [.tmp 2]
  refine callOK hF 60 Go.Proofs.Try.func110 rfl rfl rfl (by decide) (by simp) rfl ?_
  intro w0 hw
  have S := @vc_sound w0 _ hF ⟨(.one (bo (decide (AltP p d ts)))), []⟩ Go.Proofs.Try.f110 rfl (by simp)
  have hp := hg.1.pos
  have hl := goodP_len hg
  have hd := hg.2.1
  have c1 := l08Signed_ok p d (p - 1) ts hg (.inr rfl)
  have hwp : IntKind.i64.wrap (p - 1) = p - 1 := wrap64 (by omega) (by omega)
  generalize hb : decide (AltP p d ts) = b at S ⊢
  obtain ⟨dn, rfl⟩ : ∃ m : Nat, d = m := ⟨d.toNat, by omega⟩
  simp
  refine J.loop hw (fun n : Nat => ⟨[(1, .c (.ref 64001 0)), (2, .c (.d (bo false))), (3, .c (.d (i64 n)))], [(64001, .var [.d (i64 p), .d (i64 dn), .d (vTerms ts)])]⟩)
    (fun n => n ≤ ts.length ∧ ∀ m < n, ∀ t, ts[m]? = some t → DiffE dn t.e) (fun n => ts.length - n) 0 (by simp) (by simp) ?_
  rintro n ⟨hn, hall⟩
  refine S 12 _ _ ?_
  simp
  refine ⟨fun hlt => ?_, fun hge => ?_⟩
  · obtain ⟨t, ht⟩ : ∃ t, ts[n]? = some t := ⟨ts[n], List.getElem?_eq_getElem hlt⟩
    have hb1 : ∀ i k : Nat, k < i → i < dn → exAt t.e k = exAt t.e i → b = false := fun i k h1 h2 h3 => by
      rw [← hb]; simp
      exact alt_false ht fun h => h i k h1 (by omega) h3.symm
    refine S 60 _ _ ?_
    simp
    refine J.loop hw (fun i : Nat => ⟨[(1, .c (.ref 64001 0)), (2, .c (.d (bo false))), (3, .c (.d (i64 n))), (4, .c (.d (i64 i)))], [(64001, .var [.d (i64 p), .d (i64 dn), .d (vTerms ts)])]⟩)
      (fun i => i ≤ dn ∧ ∀ i' < i, ∀ k : Nat, i' < k → k < dn → exAt t.e i' ≠ exAt t.e k) (fun i => dn - i) 0 (by simp) (by simp) ?_
    rintro i ⟨hi, hdi⟩
    have hwi : IntKind.i64.wrap ((i : Int) + 1) = ((i + 1 : Nat) : Int) := by rw [wrap64] <;> omega
    refine S 12 _ _ ?_
    simp
    refine ⟨fun hlt1 => ?_, fun hge1 => ?_⟩
    · refine S 60 _ _ ?_
      simp [hwi]
      refine J.loop hw (fun k : Nat => ⟨[(1, .c (.ref 64001 0)), (2, .c (.d (bo false))), (3, .c (.d (i64 n))), (4, .c (.d (i64 i))), (5, .c (.d (i64 k)))], [(64001, .var [.d (i64 p), .d (i64 dn), .d (vTerms ts)])]⟩)
        (fun k => i + 1 ≤ k ∧ k ≤ dn ∧ ∀ k', i < k' → k' < k → exAt t.e i ≠ exAt t.e k') (fun k => dn - k) (i + 1) ⟨by omega, by omega, fun _ _ _ => by omega⟩ (by simp) ?_
      rintro k ⟨hk0, hk, hdk⟩
      refine S 12 _ _ ?_
      simp
      refine ⟨fun hlt2 => ?_, fun hge2 => ?_⟩
      · have hb2 := hb1 k i (by omega) hlt2
        refine S 60 _ _ ?_
        have hnx : exAt t.e i ≠ exAt t.e k → ∀ k', i < k' → k' < k + 1 → exAt t.e i ≠ exAt t.e k' := fun h k' h1 hk' => by
          by_cases e : k' = k
          · rw [e]; exact h
          · exact hdk k' h1 (by omega)
        have hc : (i = 0 ∧ k = 1) ∨ (i = 0 ∧ k = 2) ∨ (i = 1 ∧ k = 2) := by omega
        clear hdi hdk
        rcases hc with ⟨rfl, rfl⟩ | ⟨rfl, rfl⟩ | ⟨rfl, rfl⟩ <;> simp only [exAt] at hb2 <;> simp at hb2 <;> simp
        all_goals
          refine J.dr hF mixed 16 [[], [0], [], [], [0, 1, 2], [0, 1, 2, 4], [0, 1, 2, 3, 4, 5], [0, 1, 2, 3, 4, 5, 6], [], [8], [], [], [8, 9, 10], [8, 9, 10, 12], [8, 9, 10, 11, 12, 13], [8, 9, 10, 11, 12, 13, 14], [0, 1, 2, 3, 4, 5, 6, 7, 8, 9, 10, 11, 12, 13, 14, 15]] [[27, 28, 29, 30, 31, 32, 33, 34, 35, 36, 37, 38, 39, 40, 41, 42], [28, 29, 30, 31, 32, 33, 34, 35, 36, 37, 38, 39, 40, 41, 42], [27, 28, 29, 30, 31, 32, 33, 34, 35, 36, 37, 38, 39, 40, 41, 42], [27, 28, 29, 30, 31, 32, 33, 34, 35, 36, 37, 38, 39, 40, 41, 42], [30, 31, 32, 33, 34, 35, 36, 37, 38, 39, 40, 41, 42], [30, 32, 33, 34, 35, 36, 37, 38, 39, 40, 41, 42], [33, 34, 35, 36, 37, 38, 39, 40, 41, 42], [34, 35, 36, 37, 38, 39, 40, 41, 42], [27, 28, 29, 30, 31, 32, 33, 34, 35, 36, 37, 38, 39, 40, 41, 42], [27, 28, 29, 30, 31, 32, 33, 34, 36, 37, 38, 39, 40, 41, 42], [27, 28, 29, 30, 31, 32, 33, 34, 35, 36, 37, 38, 39, 40, 41, 42], [27, 28, 29, 30, 31, 32, 33, 34, 35, 36, 37, 38, 39, 40, 41, 42], [27, 28, 29, 30, 31, 32, 33, 34, 38, 39, 40, 41, 42], [27, 28, 29, 30, 31, 32, 33, 34, 38, 40, 41, 42], [27, 28, 29, 30, 31, 32, 33, 34, 41, 42], [27, 28, 29, 30, 31, 32, 33, 34, 42]] (by decide) ?_
          rw [← List.take_append_drop 7 (List.take _ _)]
          generalize htl : List.drop 7 (List.take _ _) = tl
          simp
          refine ⟨hlt, fun x hx => ?_⟩
          obtain rfl : t = x := Option.some.inj (ht.symm.trans hx)
          subst htl
          simp
          refine ⟨hlt, fun x hx => ?_⟩
          obtain rfl : t = x := Option.some.inj (ht.symm.trans hx)
          refine S 60 _ _ ?_
          simp
          refine ⟨hb2, fun h => Nxt.mk _ ⟨by omega, by omega, hnx h⟩ (by simp) (by omega)⟩
      · refine S 60 _ _ ?_
        simp
        refine Nxt.mk (i + 1) ⟨by omega, fun i' h1 k' h2 h3 => ?_⟩ (by simp [hwi]) (by omega)
        by_cases e : i' = i
        · rw [e] at h2 ⊢; exact hdk k' h2 (by omega)
        · exact hdi i' (by omega) k' h2 h3
    · refine S 60 _ _ ?_
      simp
      refine Nxt.mk (n + 1) ⟨by omega, fun m hm x hx => ?_⟩ (by simp; rw [wrap64] <;> omega) (by omega)
      by_cases e : m = n
      · subst e
        obtain rfl : t = x := Option.some.inj (ht.symm.trans hx)
        exact fun i' k' h1 h2 h3 => hdi k' (by omega) i' h1 (by omega) h3.symm
      · exact hall m (by omega) x hx
  · have hd1 : ∀ t ∈ ts, DiffE dn t.e := fun t ht => by
      obtain ⟨m, hm, rfl⟩ := List.getElem_of_mem ht
      exact hall m (by omega) _ (List.getElem?_eq_getElem hm)
    have hb2 : decide (SymP p dn (p - 1) ts) = b := by
      rw [← hb]
      exact decide_eq_decide.2 ⟨fun h => ⟨hd1, h⟩, fun h => h.2⟩
    rw [hb2] at c1
    refine S 60 _ _ ?_
    simp [hwp]
    refine CallW.ok (by decide) (by simp) c1 (by simp) (S 60 _ _ ?_)
    simp

noncomputable def altR (p d : Int) (ts : List Tm) : Bool × Int := if GoodP p d ts then (decide (AltP p d ts), 0) else (false, 1)

theorem IsAlternating_ok (p d : Int) (ts : List Tm) (hl : ts.length ≤ 1048576) : CallOK Go.Proofs.Try.prog 60 [pv p d ts] (.tup [(false, [bo (altR p d ts).1]), (false, [i64 (altR p d ts).2])]) := by
  have hF := fnOk 9 [.tmp 2, .tmp 3]
  refine callOK hF 60 Go.Proofs.Try.func60 rfl rfl rfl (by decide) (by simp) rfl ?_
  intro w0 hw
  have S := @vc_sound w0 _ hF ⟨(.tup [(false, [bo (altR p d ts).1]), (false, [i64 (altR p d ts).2])]), []⟩ Go.Proofs.Try.f60 rfl (by simp)
  have c1 := IsPoly_ok p d ts hl
  by_cases hg : GoodP p d ts
  · rw [decide_eq_true hg] at c1
    have c2 := alternating_ok p d ts hg
    have e : altR p d ts = (decide (AltP p d ts), 0) := by unfold altR; rw [if_pos hg]
    rw [e] at S ⊢
    simp
    refine CallW.ok (by decide) (by simp) c1 (by simp) (S 60 _ _ ?_)
    simp
    refine CallW.ok (by decide) (by simp) c2 (by simp) (S 60 _ _ ?_)
    simp
  · rw [decide_eq_false hg] at c1
    have e : altR p d ts = (false, 1) := by unfold altR; rw [if_neg hg]
    rw [e] at S ⊢
    simp
    refine CallW.ok (by decide) (by simp) c1 (by simp) (S 60 _ _ ?_)
    simp

theorem specIsAlternating_ok (p d : Int) (ts : List Tm) (hl : ts.length ≤ 1048576) : CallOK Go.Proofs.Try.prog 59 [pv p d ts] (.tup [(false, [bo (altR p d ts).1]), (false, [i64 (altR p d ts).2])]) := by
  have hF := fnOk 9 [.tmp 2, .tmp 3]
  refine callOK hF 60 Go.Proofs.Try.func59 rfl rfl rfl (by decide) (by simp) rfl ?_
  intro w0 hw
  have S := @vc_sound w0 _ hF ⟨(.tup [(false, [bo (altR p d ts).1]), (false, [i64 (altR p d ts).2])]), []⟩ Go.Proofs.Try.f59 rfl (by simp)
  have c1 := l01Is_ok p d ts hl
  by_cases hg : GoodP p d ts
  · rw [decide_eq_true hg] at c1
    have c2 := l08Alternates_ok p d ts hg
    have e : altR p d ts = (decide (AltP p d ts), 0) := by unfold altR; rw [if_pos hg]
    rw [e] at S ⊢
    simp
    refine CallW.ok (by decide) (by simp) c1 (by simp) (S 60 _ _ ?_)
    simp
    refine CallW.ok (by decide) (by simp) c2 (by simp) (S 60 _ _ ?_)
    simp
  · rw [decide_eq_false hg] at c1
    have e : altR p d ts = (false, 1) := by unfold altR; rw [if_neg hg]
    rw [e] at S ⊢
    simp
    refine CallW.ok (by decide) (by simp) c1 (by simp) (S 60 _ _ ?_)
    simp

end Go.Sm

namespace Go.Sm
open Go.RowKit

def mulN (p v : Int) : Nat → Int → Int
  | 0, x => x
  | n + 1, x => mulN p v n (x * v % p)
/-- A term's value, of the letters from i on. -/
def tv (p : Int) (e : Ex) : List Int → Nat → Int → Int
  | [], _, x => x
  | v :: vs, i, x => tv p e vs (i + 1) (mulN p v (exAt e i).toNat x)
def valT (p : Int) (v : List Int) (ts : List Tm) : Int := (ts.map fun t => tv p t.e v 0 t.v).sum % p
theorem mulN_range {p v : Int} (hp : 0 < p) : ∀ {n : Nat} {x : Int}, 0 ≤ x ∧ x < p → 0 ≤ mulN p v n x ∧ mulN p v n x < p
  | 0, x, h => h
  | n + 1, x, _ => mulN_range hp (n := n) ⟨Int.emod_nonneg _ (by omega), Int.emod_lt_of_pos _ hp⟩
theorem tv_range {p : Int} {e : Ex} (hp : 0 < p) : ∀ {v : List Int} {i : Nat} {x : Int}, 0 ≤ x ∧ x < p → 0 ≤ tv p e v i x ∧ tv p e v i x < p
  | [], i, x, h => h
  | v :: vs, i, x, h => tv_range hp (v := vs) (mulN_range hp h)
theorem tv_drop {p : Int} {e : Ex} {v : List Int} {j : Nat} {x y : Int} (h : v[j]? = some y) : tv p e (v.drop j) j x = tv p e (v.drop (j + 1)) (j + 1) (mulN p y (exAt e j).toNat x) := by
  rw [drop_cons h]; rfl
def sumV (p : Int) (v : List Int) (ts : List Tm) : Int := (ts.map fun t => tv p t.e v 0 t.v).sum
theorem sumV_take {p : Int} {v : List Int} {ts : List Tm} {i : Nat} {t : Tm} (h : ts[i]? = some t) : sumV p v (ts.take (i + 1)) = sumV p v (ts.take i) + tv p t.e v 0 t.v := by
  unfold sumV; rw [List.take_add_one, h]; simp
theorem sumV_range {p : Int} {v : List Int} (hp : 0 < p) : ∀ {ts : List Tm}, (∀ t ∈ ts, 0 ≤ t.v ∧ t.v < p) → 0 ≤ sumV p v ts ∧ sumV p v ts ≤ ts.length * p
  | [], _ => by simp [sumV]
  | t :: ts, h => by
    have h1 := tv_range (e := t.e) (v := v) (i := 0) hp (h t (List.mem_cons_self ..))
    have h2 := sumV_range (v := v) hp fun x hx => h x (List.mem_cons_of_mem _ hx)
    have e : sumV p v (t :: ts) = tv p t.e v 0 t.v + sumV p v ts := by simp [sumV]
    rw [e]
    have : ((t :: ts).length : Int) * p = p + ts.length * p := by rw [List.length_cons]; push_cast; rw [Int.add_mul]; omega
    rw [this]
    omega

theorem by8_small {n : Int} (h1 : 0 ≤ n) (h2 : n < 256) : ((by8 n).toNat : Int) = n := by
  rw [← wrapu8]
  have : IntKind.u8.wrap n = n % 256 := by simp [-wrapu8, IntKind.wrap, IntKind.bits, IntKind.signed]
  omega

set_option maxHeartbeats 1000000 in
set_option maxRecDepth 4000 in
theorem valueAt_ok (p d : Int) (ts : List Tm) (v : List Int) (hg : GoodP p d ts) (hv : PointP p d v) : CallOK Go.Proofs.Try.prog 115 [pv p d ts, .one (vInts v)] (.one (i64 (valT p v ts))) := by
  have hF := fnOk 49 [.tmp 4]
  refine callOK hF 60 Go.Proofs.Try.func115 rfl rfl rfl (by decide) (by simp) rfl ?_
  intro w0 hw
  have S := @vc_sound w0 _ hF ⟨(.one (i64 (valT p v ts))), []⟩ Go.Proofs.Try.f115 rfl (by simp)
  have hpp : 2 ≤ p ∧ p ≤ 13 := by have := hg.1; unfold Pr at this; omega
  have hl := goodP_len hg
  have hd := hg.2.1
  have hvl := hv.1
  have htr : ∀ t ∈ ts, 0 ≤ t.v ∧ t.v < p := fun t ht => by have := (hg.2.2.1 t ht).2; omega
  have hp0 : p ≠ 0 := by omega
  simp
  refine J.loop hw (fun i : Nat => ⟨[(1, .c (.d (vInts v))), (2, .c (.ref 64002 0)), (5, .c (.d (i64 (sumV p v (ts.take i))))), (12, .c (.d (vTerms ts))), (13, .c (.d (i64 ts.length))), (14, .c (.d (i64 i)))], [(64002, .var [.d (i64 p), .d (i64 d), .d (vTerms ts)])]⟩)
    (fun i => i ≤ ts.length) (fun i => ts.length - i) 0 (by simp) (by simp [sumV]) ?_
  intro i hi
  have hsr := sumV_range (p := p) (v := v) (ts := ts.take i) (by omega) (fun t ht => htr t (List.take_subset _ _ ht))
  have hlen2 : ((ts.take i).length : Int) * p ≤ 455 * 13 := Int.mul_le_mul (by rw [List.length_take]; omega) (by omega) (by omega) (by omega)
  have hst : ∀ t, ts[i]? = some t → sumV p v (ts.take (i + 1)) = sumV p v (ts.take i) + tv p t.e v 0 t.v := fun t ht => sumV_take ht
  generalize hsum : sumV p v (ts.take i) = sm at hsr hst
  refine S 8 _ _ ?_
  simp
  refine ⟨fun hlt => ?_, fun hge => ?_⟩
  · obtain ⟨t, ht⟩ : ∃ t, ts[i]? = some t := ⟨ts[i], List.getElem?_eq_getElem hlt⟩
    have hr0 := htr t (List.mem_of_getElem? ht)
    have hst := hst t ht
    have htv := tv_range (e := t.e) (v := v) (i := 0) (p := p) (by omega) hr0
    generalize htvv : tv p t.e v 0 t.v = tvv at hst htv
    have hwS : IntKind.i64.wrap (sm + tvv) = sm + tvv := wrap64 (by omega) (by omega)
    refine S 6 _ _ ?_
    simp
    refine ⟨hlt, fun x hx => ?_⟩
    obtain rfl : t = x := Option.some.inj (ht.symm.trans hx)
    clear hx
    refine S 60 _ _ ?_
    simp
    refine J.loop hw (fun q : Nat × Int => ⟨[(1, .c (.d (vInts v))), (2, .c (.ref 64002 0)), (5, .c (.d (i64 sm))), (12, .c (.d (vTerms ts))), (13, .c (.d (i64 ts.length))), (14, .c (.d (i64 i))), (7, .c (.ref 64007 0)), (8, .c (.d (i64 q.2))), (20, .c (.d (vInts v))), (21, .c (.d (i64 v.length))), (22, .c (.d (i64 q.1)))],
        [(64002, .var [.d (i64 p), .d (i64 d), .d (vTerms ts)]), (64007, .var [.d (u8 t.e.a), .d (u8 t.e.b), .d (u8 t.e.c), .d (i64 t.v)])]⟩)
      (fun q => q.1 ≤ v.length ∧ (0 ≤ q.2 ∧ q.2 < p) ∧ tv p t.e (v.drop q.1) q.1 q.2 = tvv) (fun q => v.length - q.1) (0, t.v) ⟨by simp, hr0, by simpa using htvv⟩ (by simp) ?_
    rintro ⟨j, cur⟩ ⟨hj, hcr, hcur⟩
    simp only at hj hcr hcur
    refine S 8 _ _ ?_
    simp
    refine ⟨fun hlt2 => ?_, fun hge2 => ?_⟩
    · obtain ⟨y, hy⟩ : ∃ y, v[j]? = some y := ⟨v[j], List.getElem?_eq_getElem hlt2⟩
      have hyr := hv.2 y (List.mem_of_getElem? hy)
      rw [tv_drop hy] at hcur
      have hmr := mulN_range (p := p) (v := y) (n := (exAt t.e j).toNat) (by omega) hcr
      generalize hmul : mulN p y (exAt t.e j).toNat cur = mu at hcur hmr
      refine S 7 _ _ ?_
      simp
      refine ⟨hlt2, fun y' hy' => ?_⟩
      obtain rfl : y = y' := Option.some.inj (hy.symm.trans hy')
      clear hy'
      have hjw : IntKind.i64.wrap ((j : Int) + 1) = ((j + 1 : Nat) : Int) := wrapS (n := v.length) hlt2 (by omega)
      have hc : j = 0 ∨ j = 1 ∨ j = 2 := by omega
      rcases hc with rfl | rfl | rfl <;> simp only [exAt] at hmul <;> simp at hmul
      · have h255 : t.e.a.toNat < 256 := t.e.a.toNat_lt
        refine S 60 _ _ ?_
        simp
        refine J.loop hw (fun q : Nat × Int => ⟨[(1, .c (.d (vInts v))), (2, .c (.ref 64002 0)), (5, .c (.d (i64 sm))), (12, .c (.d (vTerms ts))), (13, .c (.d (i64 ts.length))), (14, .c (.d (i64 i))), (7, .c (.ref 64007 0)), (8, .c (.d (i64 q.2))), (20, .c (.d (vInts v))), (21, .c (.d (i64 v.length))), (22, .c (.d (i64 0))), (10, .c (.d (i64 y))), (30, .c (.d (u8 t.e.a))), (31, .c (.d (.v (.int .u8 q.1))))],
            [(64002, .var [.d (i64 p), .d (i64 d), .d (vTerms ts)]), (64007, .var [.d (u8 t.e.a), .d (u8 t.e.b), .d (u8 t.e.c), .d (i64 t.v)])]⟩)
          (fun q => q.1 ≤ t.e.a.toNat ∧ (0 ≤ q.2 ∧ q.2 < p) ∧ mulN p y (t.e.a.toNat - q.1) q.2 = mu) (fun q => t.e.a.toNat - q.1) (0, cur) ⟨by simp, hcr, by simpa using hmul⟩ (by simp) ?_
        rintro ⟨k, z⟩ ⟨hk, hzr, hz⟩
        simp only at hk hzr hz
        refine S 8 _ _ ?_
        simp
        refine ⟨fun hlt3 => ?_, fun hge3 => ?_⟩
        · obtain ⟨f, hf⟩ : ∃ f, t.e.a.toNat - k = f + 1 := ⟨t.e.a.toNat - k - 1, by omega⟩
          rw [hf] at hz
          have hz : mulN p y f (z * y % p) = mu := hz
          have m1 : 0 ≤ z * y := Int.mul_nonneg hzr.1 hyr.1
          have m2 : z * y ≤ 13 * 13 := Int.mul_le_mul (by omega) (by omega) (by omega) (by omega)
          have w1 : IntKind.i64.wrap (z * y) = z * y := wrap64 (by omega) (by omega)
          have hmod : (z * y).tmod p = z * y % p := Int.tmod_eq_emod_of_nonneg m1
          have hw8 := by8_small (n := (k : Int) + 1) (by omega) (by omega)
          refine S 60 _ _ ?_
          simp [w1, hmod, hp0]
          exact Nxt.mk (k + 1, z * y % p) ⟨by show k + 1 ≤ _; omega, ⟨Int.emod_nonneg _ (by omega), Int.emod_lt_of_pos _ (by omega)⟩, by show mulN p y (t.e.a.toNat - (k + 1)) _ = _; rw [show t.e.a.toNat - (k + 1) = f by omega]; exact hz⟩ (by simp [hw8]) (by show t.e.a.toNat - (k + 1) < t.e.a.toNat - k; omega)
        · have e : z = mu := by rw [show t.e.a.toNat - k = 0 by omega] at hz; exact hz
          refine S 60 _ _ ?_
          simp
          exact Nxt.mk (0 + 1, z) ⟨hlt2, hzr, by rw [e]; exact hcur⟩ (by simp at hjw; simp [hjw]) (by show v.length - (0 + 1) < v.length - 0; omega)
      · have h255 : t.e.b.toNat < 256 := t.e.b.toNat_lt
        refine S 60 _ _ ?_
        simp
        refine J.loop hw (fun q : Nat × Int => ⟨[(1, .c (.d (vInts v))), (2, .c (.ref 64002 0)), (5, .c (.d (i64 sm))), (12, .c (.d (vTerms ts))), (13, .c (.d (i64 ts.length))), (14, .c (.d (i64 i))), (7, .c (.ref 64007 0)), (8, .c (.d (i64 q.2))), (20, .c (.d (vInts v))), (21, .c (.d (i64 v.length))), (22, .c (.d (i64 1))), (10, .c (.d (i64 y))), (30, .c (.d (u8 t.e.b))), (31, .c (.d (.v (.int .u8 q.1))))],
            [(64002, .var [.d (i64 p), .d (i64 d), .d (vTerms ts)]), (64007, .var [.d (u8 t.e.a), .d (u8 t.e.b), .d (u8 t.e.c), .d (i64 t.v)])]⟩)
          (fun q => q.1 ≤ t.e.b.toNat ∧ (0 ≤ q.2 ∧ q.2 < p) ∧ mulN p y (t.e.b.toNat - q.1) q.2 = mu) (fun q => t.e.b.toNat - q.1) (0, cur) ⟨by simp, hcr, by simpa using hmul⟩ (by simp) ?_
        rintro ⟨k, z⟩ ⟨hk, hzr, hz⟩
        simp only at hk hzr hz
        refine S 8 _ _ ?_
        simp
        refine ⟨fun hlt3 => ?_, fun hge3 => ?_⟩
        · obtain ⟨f, hf⟩ : ∃ f, t.e.b.toNat - k = f + 1 := ⟨t.e.b.toNat - k - 1, by omega⟩
          rw [hf] at hz
          have hz : mulN p y f (z * y % p) = mu := hz
          have m1 : 0 ≤ z * y := Int.mul_nonneg hzr.1 hyr.1
          have m2 : z * y ≤ 13 * 13 := Int.mul_le_mul (by omega) (by omega) (by omega) (by omega)
          have w1 : IntKind.i64.wrap (z * y) = z * y := wrap64 (by omega) (by omega)
          have hmod : (z * y).tmod p = z * y % p := Int.tmod_eq_emod_of_nonneg m1
          have hw8 := by8_small (n := (k : Int) + 1) (by omega) (by omega)
          refine S 60 _ _ ?_
          simp [w1, hmod, hp0]
          exact Nxt.mk (k + 1, z * y % p) ⟨by show k + 1 ≤ _; omega, ⟨Int.emod_nonneg _ (by omega), Int.emod_lt_of_pos _ (by omega)⟩, by show mulN p y (t.e.b.toNat - (k + 1)) _ = _; rw [show t.e.b.toNat - (k + 1) = f by omega]; exact hz⟩ (by simp [hw8]) (by show t.e.b.toNat - (k + 1) < t.e.b.toNat - k; omega)
        · have e : z = mu := by rw [show t.e.b.toNat - k = 0 by omega] at hz; exact hz
          refine S 60 _ _ ?_
          simp
          exact Nxt.mk (1 + 1, z) ⟨hlt2, hzr, by rw [e]; exact hcur⟩ (by simp at hjw; simp [hjw]) (by show v.length - (1 + 1) < v.length - 1; omega)
      · have h255 : t.e.c.toNat < 256 := t.e.c.toNat_lt
        refine S 60 _ _ ?_
        simp
        refine J.loop hw (fun q : Nat × Int => ⟨[(1, .c (.d (vInts v))), (2, .c (.ref 64002 0)), (5, .c (.d (i64 sm))), (12, .c (.d (vTerms ts))), (13, .c (.d (i64 ts.length))), (14, .c (.d (i64 i))), (7, .c (.ref 64007 0)), (8, .c (.d (i64 q.2))), (20, .c (.d (vInts v))), (21, .c (.d (i64 v.length))), (22, .c (.d (i64 2))), (10, .c (.d (i64 y))), (30, .c (.d (u8 t.e.c))), (31, .c (.d (.v (.int .u8 q.1))))],
            [(64002, .var [.d (i64 p), .d (i64 d), .d (vTerms ts)]), (64007, .var [.d (u8 t.e.a), .d (u8 t.e.b), .d (u8 t.e.c), .d (i64 t.v)])]⟩)
          (fun q => q.1 ≤ t.e.c.toNat ∧ (0 ≤ q.2 ∧ q.2 < p) ∧ mulN p y (t.e.c.toNat - q.1) q.2 = mu) (fun q => t.e.c.toNat - q.1) (0, cur) ⟨by simp, hcr, by simpa using hmul⟩ (by simp) ?_
        rintro ⟨k, z⟩ ⟨hk, hzr, hz⟩
        simp only at hk hzr hz
        refine S 8 _ _ ?_
        simp
        refine ⟨fun hlt3 => ?_, fun hge3 => ?_⟩
        · obtain ⟨f, hf⟩ : ∃ f, t.e.c.toNat - k = f + 1 := ⟨t.e.c.toNat - k - 1, by omega⟩
          rw [hf] at hz
          have hz : mulN p y f (z * y % p) = mu := hz
          have m1 : 0 ≤ z * y := Int.mul_nonneg hzr.1 hyr.1
          have m2 : z * y ≤ 13 * 13 := Int.mul_le_mul (by omega) (by omega) (by omega) (by omega)
          have w1 : IntKind.i64.wrap (z * y) = z * y := wrap64 (by omega) (by omega)
          have hmod : (z * y).tmod p = z * y % p := Int.tmod_eq_emod_of_nonneg m1
          have hw8 := by8_small (n := (k : Int) + 1) (by omega) (by omega)
          refine S 60 _ _ ?_
          simp [w1, hmod, hp0]
          exact Nxt.mk (k + 1, z * y % p) ⟨by show k + 1 ≤ _; omega, ⟨Int.emod_nonneg _ (by omega), Int.emod_lt_of_pos _ (by omega)⟩, by show mulN p y (t.e.c.toNat - (k + 1)) _ = _; rw [show t.e.c.toNat - (k + 1) = f by omega]; exact hz⟩ (by simp [hw8]) (by show t.e.c.toNat - (k + 1) < t.e.c.toNat - k; omega)
        · have e : z = mu := by rw [show t.e.c.toNat - k = 0 by omega] at hz; exact hz
          refine S 60 _ _ ?_
          simp
          exact Nxt.mk (2 + 1, z) ⟨hlt2, hzr, by rw [e]; exact hcur⟩ (by simp at hjw; simp [hjw]) (by show v.length - (2 + 1) < v.length - 2; omega)
    · have e : cur = tvv := by rw [List.drop_of_length_le (by omega)] at hcur; exact hcur
      rw [← e] at hwS hst
      refine S 60 _ _ ?_
      simp [hwS]
      exact Nxt.mk (i + 1) hlt (by simp [wrapS (i := i) (n := ts.length) hlt (by omega), hst]) (by omega)
  · have e : ts.take i = ts := List.take_of_length_le hge
    rw [e] at hsum
    have hmod : sm.tmod p = valT p v ts := by
      rw [Int.tmod_eq_emod_of_nonneg hsr.1, ← hsum]; rfl
    refine S 60 _ _ ?_
    simp [hp0, hmod]

set_option maxHeartbeats 1000000 in
set_option maxRecDepth 4000 in
theorem l01Value_ok (p d : Int) (ts : List Tm) (v : List Int) (hg : GoodP p d ts) (hv : PointP p d v) : CallOK Go.Proofs.Try.prog 113 [pv p d ts, .one (vInts v)] (.one (i64 (valT p v ts))) := by
  have hF := fnOk 57 [.tmp 4]
  refine callOK hF 60 Go.Proofs.Try.func113 rfl rfl rfl (by decide) (by simp) rfl ?_
  intro w0 hw
  have S := @vc_sound w0 _ hF ⟨(.one (i64 (valT p v ts))), []⟩ Go.Proofs.Try.f113 rfl (by simp)
  have hpp : 2 ≤ p ∧ p ≤ 13 := by have := hg.1; unfold Pr at this; omega
  have hl := goodP_len hg
  have hd := hg.2.1
  have hvl := hv.1
  have htr : ∀ t ∈ ts, 0 ≤ t.v ∧ t.v < p := fun t ht => by have := (hg.2.2.1 t ht).2; omega
  have hp0 : p ≠ 0 := by omega
  simp
  refine J.loop hw (fun i : Nat => ⟨[(1, .c (.d (vInts v))), (2, .c (.ref 64002 0)), (5, .c (.d (i64 (sumV p v (ts.take i))))), (6, .c (.d (i64 i)))], [(64002, .var [.d (i64 p), .d (i64 d), .d (vTerms ts)])]⟩)
    (fun i => i ≤ ts.length) (fun i => ts.length - i) 0 (by simp) (by simp [sumV]) ?_
  intro i hi
  have hsr := sumV_range (p := p) (v := v) (ts := ts.take i) (by omega) (fun t ht => htr t (List.take_subset _ _ ht))
  have hlen2 : ((ts.take i).length : Int) * p ≤ 455 * 13 := Int.mul_le_mul (by rw [List.length_take]; omega) (by omega) (by omega) (by omega)
  have hst : ∀ t, ts[i]? = some t → sumV p v (ts.take (i + 1)) = sumV p v (ts.take i) + tv p t.e v 0 t.v := fun t ht => sumV_take ht
  generalize hsum : sumV p v (ts.take i) = sm at hsr hst
  refine S 12 _ _ ?_
  simp
  refine ⟨fun hlt => ?_, fun hge => ?_⟩
  · obtain ⟨t, ht⟩ : ∃ t, ts[i]? = some t := ⟨ts[i], List.getElem?_eq_getElem hlt⟩
    have hr0 := htr t (List.mem_of_getElem? ht)
    have hst := hst t ht
    have htv := tv_range (e := t.e) (v := v) (i := 0) (p := p) (by omega) hr0
    generalize htvv : tv p t.e v 0 t.v = tvv at hst htv
    have hwS : IntKind.i64.wrap (sm + tvv) = sm + tvv := wrap64 (by omega) (by omega)
    refine S 60 _ _ ?_
    simp
    refine ⟨hlt, fun x hx => ?_⟩
    obtain rfl : t = x := Option.some.inj (ht.symm.trans hx)
    clear hx
    refine J.loop hw (fun q : Nat × Int => ⟨[(1, .c (.d (vInts v))), (2, .c (.ref 64002 0)), (5, .c (.d (i64 sm))), (6, .c (.d (i64 i))), (7, .c (.d (i64 q.2))), (8, .c (.d (i64 q.1)))], [(64002, .var [.d (i64 p), .d (i64 d), .d (vTerms ts)])]⟩)
      (fun q => q.1 ≤ v.length ∧ (0 ≤ q.2 ∧ q.2 < p) ∧ tv p t.e (v.drop q.1) q.1 q.2 = tvv) (fun q => v.length - q.1) (0, t.v) ⟨by simp, hr0, by simpa using htvv⟩ (by simp) ?_
    rintro ⟨j, cur⟩ ⟨hj, hcr, hcur⟩
    simp only at hj hcr hcur
    refine S 12 _ _ ?_
    simp
    refine ⟨fun hlt2 => ?_, fun hge2 => ?_⟩
    · obtain ⟨y, hy⟩ : ∃ y, v[j]? = some y := ⟨v[j], List.getElem?_eq_getElem hlt2⟩
      have hyr := hv.2 y (List.mem_of_getElem? hy)
      rw [tv_drop hy] at hcur
      have hmr := mulN_range (p := p) (v := y) (n := (exAt t.e j).toNat) (by omega) hcr
      generalize hmul : mulN p y (exAt t.e j).toNat cur = mu at hcur hmr
      have hjw : IntKind.i64.wrap ((j : Int) + 1) = ((j + 1 : Nat) : Int) := wrapS (n := v.length) hlt2 (by omega)
      have hc : j = 0 ∨ j = 1 ∨ j = 2 := by omega
      rcases hc with rfl | rfl | rfl <;> simp only [exAt] at hmul <;> simp at hmul
      · have h255 : t.e.a.toNat < 256 := t.e.a.toNat_lt
        refine S 60 _ _ ?_
        simp
        refine ⟨hlt, fun x hx => ?_⟩
        obtain rfl : t = x := Option.some.inj (ht.symm.trans hx)
        clear hx
        refine J.loop hw (fun q : Nat × Int => ⟨[(1, .c (.d (vInts v))), (2, .c (.ref 64002 0)), (5, .c (.d (i64 sm))), (6, .c (.d (i64 i))), (7, .c (.d (i64 q.2))), (8, .c (.d (i64 0))), (9, .c (.d (.v (.int .u8 q.1))))], [(64002, .var [.d (i64 p), .d (i64 d), .d (vTerms ts)])]⟩)
          (fun q => q.1 ≤ t.e.a.toNat ∧ (0 ≤ q.2 ∧ q.2 < p) ∧ mulN p y q.1 q.2 = mu) (fun q => q.1) (t.e.a.toNat, cur) ⟨by simp, hcr, hmul⟩ (by simp) ?_
        rintro ⟨k, z⟩ ⟨hk, hzr, hz⟩
        simp only at hk hzr hz
        refine S 12 _ _ ?_
        simp
        refine ⟨fun hlt3 => ?_, fun hge3 => ?_⟩
        · obtain ⟨f, rfl⟩ : ∃ f, k = f + 1 := ⟨k - 1, by omega⟩
          have hz : mulN p y f (z * y % p) = mu := hz
          have m1 : 0 ≤ z * y := Int.mul_nonneg hzr.1 hyr.1
          have m2 : z * y ≤ 13 * 13 := Int.mul_le_mul (by omega) (by omega) (by omega) (by omega)
          have w1 : IntKind.i64.wrap (z * y) = z * y := wrap64 (by omega) (by omega)
          have hmod : (z * y).tmod p = z * y % p := Int.tmod_eq_emod_of_nonneg m1
          have hw8 := by8_small (n := (f : Int)) (by omega) (by omega)
          refine S 60 _ _ ?_
          simp
          refine J.dr hF mixed 8 [[], [], [], [1, 2], [1, 2, 3], [0, 1, 2, 3, 4], [], [6], [0, 1, 2, 3, 4, 5, 6, 7], [0, 1, 2, 3, 4, 5, 6, 7, 8]] [[41, 42, 43, 44, 45, 46, 47, 48], [41, 42, 43, 44, 45, 46, 47, 48], [41, 42, 43, 44, 45, 46, 47, 48], [41, 44, 45, 46, 47, 48], [41, 45, 46, 47, 48], [46, 47, 48], [41, 42, 43, 44, 45, 46, 47, 48], [41, 42, 43, 44, 45, 46, 48]] (by decide) ?_
          simp
          refine ⟨by omega, fun y' hy' => ?_⟩
          obtain rfl : y = y' := Option.some.inj (hy.symm.trans hy')
          simp [w1]
          refine S 60 _ _ ?_
          simp [hmod, hp0]
          exact Nxt.mk (f, z * y % p) ⟨by show f ≤ _; omega, ⟨Int.emod_nonneg _ (by omega), Int.emod_lt_of_pos _ (by omega)⟩, hz⟩ (by simp [hw8]) (by show f < f + 1; omega)
        · have e : z = mu := by rw [show k = 0 by omega] at hz; exact hz
          refine S 60 _ _ ?_
          simp
          exact Nxt.mk (0 + 1, z) ⟨hlt2, hzr, by rw [e]; exact hcur⟩ (by simp at hjw; simp [hjw]) (by show v.length - (0 + 1) < v.length - 0; omega)
      · have h255 : t.e.b.toNat < 256 := t.e.b.toNat_lt
        refine S 60 _ _ ?_
        simp
        refine ⟨hlt, fun x hx => ?_⟩
        obtain rfl : t = x := Option.some.inj (ht.symm.trans hx)
        clear hx
        refine J.loop hw (fun q : Nat × Int => ⟨[(1, .c (.d (vInts v))), (2, .c (.ref 64002 0)), (5, .c (.d (i64 sm))), (6, .c (.d (i64 i))), (7, .c (.d (i64 q.2))), (8, .c (.d (i64 1))), (9, .c (.d (.v (.int .u8 q.1))))], [(64002, .var [.d (i64 p), .d (i64 d), .d (vTerms ts)])]⟩)
          (fun q => q.1 ≤ t.e.b.toNat ∧ (0 ≤ q.2 ∧ q.2 < p) ∧ mulN p y q.1 q.2 = mu) (fun q => q.1) (t.e.b.toNat, cur) ⟨by simp, hcr, hmul⟩ (by simp) ?_
        rintro ⟨k, z⟩ ⟨hk, hzr, hz⟩
        simp only at hk hzr hz
        refine S 12 _ _ ?_
        simp
        refine ⟨fun hlt3 => ?_, fun hge3 => ?_⟩
        · obtain ⟨f, rfl⟩ : ∃ f, k = f + 1 := ⟨k - 1, by omega⟩
          have hz : mulN p y f (z * y % p) = mu := hz
          have m1 : 0 ≤ z * y := Int.mul_nonneg hzr.1 hyr.1
          have m2 : z * y ≤ 13 * 13 := Int.mul_le_mul (by omega) (by omega) (by omega) (by omega)
          have w1 : IntKind.i64.wrap (z * y) = z * y := wrap64 (by omega) (by omega)
          have hmod : (z * y).tmod p = z * y % p := Int.tmod_eq_emod_of_nonneg m1
          have hw8 := by8_small (n := (f : Int)) (by omega) (by omega)
          refine S 60 _ _ ?_
          simp
          refine J.dr hF mixed 8 [[], [], [], [1, 2], [1, 2, 3], [0, 1, 2, 3, 4], [], [6], [0, 1, 2, 3, 4, 5, 6, 7], [0, 1, 2, 3, 4, 5, 6, 7, 8]] [[41, 42, 43, 44, 45, 46, 47, 48], [41, 42, 43, 44, 45, 46, 47, 48], [41, 42, 43, 44, 45, 46, 47, 48], [41, 44, 45, 46, 47, 48], [41, 45, 46, 47, 48], [46, 47, 48], [41, 42, 43, 44, 45, 46, 47, 48], [41, 42, 43, 44, 45, 46, 48]] (by decide) ?_
          simp
          refine ⟨by omega, fun y' hy' => ?_⟩
          obtain rfl : y = y' := Option.some.inj (hy.symm.trans hy')
          simp [w1]
          refine S 60 _ _ ?_
          simp [hmod, hp0]
          exact Nxt.mk (f, z * y % p) ⟨by show f ≤ _; omega, ⟨Int.emod_nonneg _ (by omega), Int.emod_lt_of_pos _ (by omega)⟩, hz⟩ (by simp [hw8]) (by show f < f + 1; omega)
        · have e : z = mu := by rw [show k = 0 by omega] at hz; exact hz
          refine S 60 _ _ ?_
          simp
          exact Nxt.mk (1 + 1, z) ⟨hlt2, hzr, by rw [e]; exact hcur⟩ (by simp at hjw; simp [hjw]) (by show v.length - (1 + 1) < v.length - 1; omega)
      · have h255 : t.e.c.toNat < 256 := t.e.c.toNat_lt
        refine S 60 _ _ ?_
        simp
        refine ⟨hlt, fun x hx => ?_⟩
        obtain rfl : t = x := Option.some.inj (ht.symm.trans hx)
        clear hx
        refine J.loop hw (fun q : Nat × Int => ⟨[(1, .c (.d (vInts v))), (2, .c (.ref 64002 0)), (5, .c (.d (i64 sm))), (6, .c (.d (i64 i))), (7, .c (.d (i64 q.2))), (8, .c (.d (i64 2))), (9, .c (.d (.v (.int .u8 q.1))))], [(64002, .var [.d (i64 p), .d (i64 d), .d (vTerms ts)])]⟩)
          (fun q => q.1 ≤ t.e.c.toNat ∧ (0 ≤ q.2 ∧ q.2 < p) ∧ mulN p y q.1 q.2 = mu) (fun q => q.1) (t.e.c.toNat, cur) ⟨by simp, hcr, hmul⟩ (by simp) ?_
        rintro ⟨k, z⟩ ⟨hk, hzr, hz⟩
        simp only at hk hzr hz
        refine S 12 _ _ ?_
        simp
        refine ⟨fun hlt3 => ?_, fun hge3 => ?_⟩
        · obtain ⟨f, rfl⟩ : ∃ f, k = f + 1 := ⟨k - 1, by omega⟩
          have hz : mulN p y f (z * y % p) = mu := hz
          have m1 : 0 ≤ z * y := Int.mul_nonneg hzr.1 hyr.1
          have m2 : z * y ≤ 13 * 13 := Int.mul_le_mul (by omega) (by omega) (by omega) (by omega)
          have w1 : IntKind.i64.wrap (z * y) = z * y := wrap64 (by omega) (by omega)
          have hmod : (z * y).tmod p = z * y % p := Int.tmod_eq_emod_of_nonneg m1
          have hw8 := by8_small (n := (f : Int)) (by omega) (by omega)
          refine S 60 _ _ ?_
          simp
          refine J.dr hF mixed 8 [[], [], [], [1, 2], [1, 2, 3], [0, 1, 2, 3, 4], [], [6], [0, 1, 2, 3, 4, 5, 6, 7], [0, 1, 2, 3, 4, 5, 6, 7, 8]] [[41, 42, 43, 44, 45, 46, 47, 48], [41, 42, 43, 44, 45, 46, 47, 48], [41, 42, 43, 44, 45, 46, 47, 48], [41, 44, 45, 46, 47, 48], [41, 45, 46, 47, 48], [46, 47, 48], [41, 42, 43, 44, 45, 46, 47, 48], [41, 42, 43, 44, 45, 46, 48]] (by decide) ?_
          simp
          refine ⟨by omega, fun y' hy' => ?_⟩
          obtain rfl : y = y' := Option.some.inj (hy.symm.trans hy')
          simp [w1]
          refine S 60 _ _ ?_
          simp [hmod, hp0]
          exact Nxt.mk (f, z * y % p) ⟨by show f ≤ _; omega, ⟨Int.emod_nonneg _ (by omega), Int.emod_lt_of_pos _ (by omega)⟩, hz⟩ (by simp [hw8]) (by show f < f + 1; omega)
        · have e : z = mu := by rw [show k = 0 by omega] at hz; exact hz
          refine S 60 _ _ ?_
          simp
          exact Nxt.mk (2 + 1, z) ⟨hlt2, hzr, by rw [e]; exact hcur⟩ (by simp at hjw; simp [hjw]) (by show v.length - (2 + 1) < v.length - 2; omega)
    · have e : cur = tvv := by rw [List.drop_of_length_le (by omega)] at hcur; exact hcur
      rw [← e] at hwS hst
      refine S 60 _ _ ?_
      simp [hwS]
      exact Nxt.mk (i + 1) hlt (by simp [wrapS (i := i) (n := ts.length) hlt (by omega), hst]) (by omega)
  · have e : ts.take i = ts := List.take_of_length_le hge
    rw [e] at hsum
    have hmod : sm.tmod p = valT p v ts := by
      rw [Int.tmod_eq_emod_of_nonneg hsr.1, ← hsum]; rfl
    refine S 60 _ _ ?_
    simp [hp0, hmod]

/-- The values of a list. -/
def valsP (v : List Int) (xs : List Pl) : List Int := xs.map fun x => valT x.p v x.ts
theorem valsP_take {v : List Int} {xs : List Pl} {i : Nat} {x : Pl} (h : xs[i]? = some x) : valsP v (xs.take (i + 1)) = valsP v (xs.take i) ++ [valT x.p v x.ts] := by
  unfold valsP; rw [List.take_add_one, h]; simp
theorem valsP_length (v : List Int) (xs : List Pl) : (valsP v xs).length = xs.length := by simp [valsP]

theorem values_ok (xs : List Pl) (v : List Int) (hl : xs.length ≤ 1000) (hg : AllP xs) (hv : ∀ x ∈ xs, PointP x.p x.d v) : CallOK Go.Proofs.Try.prog 73 [.one (vPolys xs), .one (vInts v)] (.one (oInts (valsP v xs))) := by
  have hF := fnOk 23 [.tmp 4]
  refine callOK hF 60 Go.Proofs.Try.func73 rfl rfl rfl (by decide) (by simp) rfl ?_
  intro w0 hw
  have S := @vc_sound w0 _ hF ⟨(.one (oInts (valsP v xs))), []⟩ Go.Proofs.Try.f73 rfl (by simp)
  simp
  refine J.loop hw (fun i : Nat => ⟨[(1, .c (.d (vInts v))), (5, .c (.ob 64005)), (9, .c (.d (vPolys xs))), (10, .c (.d (i64 xs.length))), (11, .c (.d (i64 i)))], [(64005, .arr 2 1 (ints (valsP v (xs.take i))))]⟩)
    (fun i => i ≤ xs.length) (fun i => xs.length - i) 0 (by simp) (by simp [valsP]) ?_
  intro i hi
  have hvl := valsP_length v (xs.take i)
  have hst := fun x (h : xs[i]? = some x) => valsP_take (v := v) h
  generalize hac : valsP v (xs.take i) = acc at hvl hst
  rw [List.length_take] at hvl
  refine S 8 _ _ ?_
  simp
  refine ⟨fun hlt => ?_, fun hge => ?_⟩
  · obtain ⟨x, hx⟩ : ∃ x, xs[i]? = some x := ⟨xs[i], List.getElem?_eq_getElem hlt⟩
    have hm := List.mem_of_getElem? hx
    have c1 := valueAt_ok x.p x.d x.ts v (hg x hm) (hv x hm)
    have hst := hst x hx
    generalize valT x.p v x.ts = y at c1 hst
    refine S 6 _ _ ?_
    simp
    refine ⟨hlt, fun x' hx' => ?_⟩
    obtain rfl : x = x' := Option.some.inj (hx.symm.trans hx')
    refine S 60 _ _ ?_
    simp
    refine CallW.ok (by decide) (by simp) c1 (by simp) (S 60 _ _ ?_)
    simp
    refine ⟨⟨by omega, by omega⟩, ?_⟩
    exact Nxt.mk (i + 1) hlt (by simp [wrapS (i := i) (n := xs.length) hlt (by omega), hst]) (by omega)
  · have e : xs.take i = xs := List.take_of_length_le hge
    rw [e] at hac
    subst hac
    refine S 60 _ _ ?_
    simp

theorem l09Values_ok (xs : List Pl) (v : List Int) (hl : xs.length ≤ 1000) (hg : AllP xs) (hv : ∀ x ∈ xs, PointP x.p x.d v) : CallOK Go.Proofs.Try.prog 69 [.one (vPolys xs), .one (vInts v)] (.one (oInts (valsP v xs))) := by
  have hF := fnOk 24 [.tmp 4]
  refine callOK hF 60 Go.Proofs.Try.func69 rfl rfl rfl (by decide) (by simp) rfl ?_
  intro w0 hw
  have S := @vc_sound w0 _ hF ⟨(.one (oInts (valsP v xs))), []⟩ Go.Proofs.Try.f69 rfl (by simp)
  simp
  refine J.loop hw (fun i : Nat => ⟨[(0, .c (.d (vPolys xs))), (1, .c (.d (vInts v))), (5, .c (.ob 64005)), (6, .c (.d (i64 i)))], [(64005, .arr 2 1 (ints (valsP v (xs.take i))))]⟩)
    (fun i => i ≤ xs.length) (fun i => xs.length - i) 0 (by simp) (by simp [valsP]) ?_
  intro i hi
  have hvl := valsP_length v (xs.take i)
  have hst := fun x (h : xs[i]? = some x) => valsP_take (v := v) h
  generalize hac : valsP v (xs.take i) = acc at hvl hst
  rw [List.length_take] at hvl
  refine S 12 _ _ ?_
  simp
  refine ⟨fun hlt => ?_, fun hge => ?_⟩
  · obtain ⟨x, hx⟩ : ∃ x, xs[i]? = some x := ⟨xs[i], List.getElem?_eq_getElem hlt⟩
    have hm := List.mem_of_getElem? hx
    have c1 := l01Value_ok x.p x.d x.ts v (hg x hm) (hv x hm)
    have hst := hst x hx
    generalize valT x.p v x.ts = y at c1 hst
    refine S 60 _ _ ?_
    simp
    refine ⟨hlt, fun x' hx' => ?_⟩
    obtain rfl : x = x' := Option.some.inj (hx.symm.trans hx')
    refine CallW.ok (by decide) (by simp) c1 (by simp) (S 60 _ _ ?_)
    simp
    refine ⟨⟨by omega, by omega⟩, ?_⟩
    exact Nxt.mk (i + 1) hlt (by simp [wrapS (i := i) (n := xs.length) hlt (by omega), hst]) (by omega)
  · have e : xs.take i = xs := List.take_of_length_le hge
    rw [e] at hac
    subst hac
    refine S 60 _ _ ?_
    simp

/-- Values and error. -/
noncomputable def valsR (xs : List Pl) (v : List Int) : List Int × Int :=
  if AllP xs then (if LikeP xs ∧ (∀ y, xs[0]? = some y → PointP y.p y.d v) then (valsP v xs, 0) else ([], 2)) else ([], 1)
abbrev vres (r : List Int × Int) : RV := .tup [(false, [oInts r.1]), (false, [i64 r.2])]

theorem point_all {xs : List Pl} {v : List Int} (hl : LikeP xs) (h : ∀ y, xs[0]? = some y → PointP y.p y.d v) : ∀ x ∈ xs, PointP x.p x.d v := by
  intro x hx
  cases hxs : xs[0]? with
  | none => simp at hxs; subst hxs; cases hx
  | some y =>
    obtain ⟨h1, h2⟩ := hl.2 x hx y hxs
    rw [h1, h2]; exact h y hxs

set_option maxHeartbeats 1000000 in
theorem ValuesOf_ok (xs : List Pl) (v : List Int) (hl : xs.length ≤ 1048576) (hr : ∀ x ∈ xs, x.ts.length ≤ 1048576) (hv : v.length ≤ 1048576) : CallOK Go.Proofs.Try.prog 24 [.one (vPolys xs), .one (vInts v)] (vres (valsR xs v)) := by
  have hF := fnOk 35 [.tmp 4, .tmp 5]
  refine callOK hF 60 Go.Proofs.Try.func24 rfl rfl rfl (by decide) (by simp) rfl ?_
  intro w0 hw
  have S := @vc_sound w0 _ hF ⟨(vres (valsR xs v)), []⟩ Go.Proofs.Try.f24 rfl (by simp)
  have c1 := arePolys_ok xs hl hr
  have c2 := areLike_ok xs hl
  by_cases ha : AllP xs
  · rw [decide_eq_true ha] at c1
    by_cases hk : LikeP xs
    · rw [decide_eq_true hk] at c2
      cases hy : xs[0]? with
      | none =>
        have hn : xs.length = 0 := by simpa using hy
        have hn0 : xs = [] := List.length_eq_zero_iff.1 hn
        have e : valsR xs v = (valsP v xs, 0) := by unfold valsR; rw [if_pos ha, if_pos ⟨hk, fun y h => by rw [hy] at h; cases h⟩]
        have c4 := values_ok xs v (by omega) ha (fun x hx => by rw [hn0] at hx; cases hx)
        rw [e] at S ⊢
        simp
        refine CallW.ok (by decide) (by simp) c1 (by simp) (S 60 _ _ ?_)
        simp
        refine J.dr hF mixed 17 [[], [0], [0, 1], [0, 1, 2], [0, 1, 2, 3], [0, 1, 2, 3, 4], [0, 1, 2, 3, 4, 5], [0, 1, 2, 3, 4, 5, 6], [0, 1, 2, 3, 4, 5, 6, 7], [0, 1, 2, 3, 4, 5, 6, 7, 8], [0, 1, 2, 3, 4, 5, 6, 7, 8, 9], [0, 1, 2, 3, 4, 5, 6, 7, 8, 9, 10], [0, 1, 2, 3, 4, 5, 6, 7], [0, 1, 2, 3, 4, 5, 6, 7, 12], [0, 1, 2, 3, 4, 5, 6, 7, 12, 13], [0, 1, 2, 3, 4, 5, 6, 7, 12, 13, 14], [0, 1, 2, 3, 4, 5, 6, 7], [0, 1, 2, 3, 4, 5, 6, 7, 8, 9, 10, 11, 12, 13, 14, 15, 16], [0, 1, 2, 3, 4, 5, 6, 7, 8, 9, 10, 11, 12, 13, 14, 15, 16, 17], [0, 1, 2, 3, 4, 5, 6, 7, 8, 9, 10, 11, 12, 13, 14, 15, 16, 17, 18], [0, 1, 2, 3, 4, 5, 6, 7, 8, 9, 10, 11, 12, 13, 14, 15, 16, 17, 18, 19], [0, 1, 2, 3, 4, 5, 6, 7, 8, 9, 10, 11, 12, 13, 14, 15, 16, 17, 18, 19, 20]] [[11, 12, 13, 14, 15, 16, 17, 18, 19, 20, 21, 22, 23, 24, 25, 26, 27], [12, 13, 14, 15, 16, 17, 18, 19, 20, 21, 22, 23, 24, 25, 26, 27], [13, 14, 15, 16, 17, 18, 19, 20, 21, 22, 23, 24, 25, 26, 27], [14, 15, 16, 17, 18, 19, 20, 21, 22, 23, 24, 25, 26, 27], [15, 16, 17, 18, 19, 20, 21, 22, 23, 24, 25, 26, 27], [16, 17, 18, 19, 20, 21, 22, 23, 24, 25, 26, 27], [17, 18, 19, 20, 21, 22, 23, 24, 25, 26, 27], [18, 19, 20, 21, 22, 23, 24, 25, 26, 27], [19, 20, 21, 22, 23, 24, 25, 26, 27], [20, 21, 22, 23, 24, 25, 26, 27], [21, 22, 23, 24, 25, 26, 27], [22, 23, 24, 25, 26, 27], [19, 20, 21, 22, 23, 24, 25, 26, 27], [19, 20, 21, 22, 24, 25, 26, 27], [19, 20, 21, 22, 25, 26, 27], [19, 20, 21, 22, 26, 27], [19, 20, 21, 22, 23, 24, 25, 26, 27]] (by decide) ?_
        simp
        refine DrC.ok hF (by rfl) (by simp) c2 (by simp) (by simp) ?_
        simp [hn]
        refine S 60 _ _ ?_
        simp
        refine CallW.ok (by decide) (by simp) c4 (by simp) (S 60 _ _ ?_)
        simp
      | some y =>
        have hn : 0 < xs.length := (List.getElem?_eq_some_iff.1 hy).1
        have hn' : (0 : Int) < xs.length := by omega
        have c3 := isPoint_ok y.p y.d v hv
        by_cases hpt : PointP y.p y.d v
        · rw [decide_eq_true hpt] at c3
          have hall : ∀ z, xs[0]? = some z → PointP z.p z.d v := fun z hz => by
            obtain rfl : y = z := Option.some.inj (hy.symm.trans hz)
            exact hpt
          have e : valsR xs v = (valsP v xs, 0) := by unfold valsR; rw [if_pos ha, if_pos ⟨hk, hall⟩]
          have c4 := values_ok xs v (by have := hk.1; omega) ha (point_all hk hall)
          rw [e] at S ⊢
          simp
          refine CallW.ok (by decide) (by simp) c1 (by simp) (S 60 _ _ ?_)
          simp
          refine J.dr hF mixed 17 [[], [0], [0, 1], [0, 1, 2], [0, 1, 2, 3], [0, 1, 2, 3, 4], [0, 1, 2, 3, 4, 5], [0, 1, 2, 3, 4, 5, 6], [0, 1, 2, 3, 4, 5, 6, 7], [0, 1, 2, 3, 4, 5, 6, 7, 8], [0, 1, 2, 3, 4, 5, 6, 7, 8, 9], [0, 1, 2, 3, 4, 5, 6, 7, 8, 9, 10], [0, 1, 2, 3, 4, 5, 6, 7], [0, 1, 2, 3, 4, 5, 6, 7, 12], [0, 1, 2, 3, 4, 5, 6, 7, 12, 13], [0, 1, 2, 3, 4, 5, 6, 7, 12, 13, 14], [0, 1, 2, 3, 4, 5, 6, 7], [0, 1, 2, 3, 4, 5, 6, 7, 8, 9, 10, 11, 12, 13, 14, 15, 16], [0, 1, 2, 3, 4, 5, 6, 7, 8, 9, 10, 11, 12, 13, 14, 15, 16, 17], [0, 1, 2, 3, 4, 5, 6, 7, 8, 9, 10, 11, 12, 13, 14, 15, 16, 17, 18], [0, 1, 2, 3, 4, 5, 6, 7, 8, 9, 10, 11, 12, 13, 14, 15, 16, 17, 18, 19], [0, 1, 2, 3, 4, 5, 6, 7, 8, 9, 10, 11, 12, 13, 14, 15, 16, 17, 18, 19, 20]] [[11, 12, 13, 14, 15, 16, 17, 18, 19, 20, 21, 22, 23, 24, 25, 26, 27], [12, 13, 14, 15, 16, 17, 18, 19, 20, 21, 22, 23, 24, 25, 26, 27], [13, 14, 15, 16, 17, 18, 19, 20, 21, 22, 23, 24, 25, 26, 27], [14, 15, 16, 17, 18, 19, 20, 21, 22, 23, 24, 25, 26, 27], [15, 16, 17, 18, 19, 20, 21, 22, 23, 24, 25, 26, 27], [16, 17, 18, 19, 20, 21, 22, 23, 24, 25, 26, 27], [17, 18, 19, 20, 21, 22, 23, 24, 25, 26, 27], [18, 19, 20, 21, 22, 23, 24, 25, 26, 27], [19, 20, 21, 22, 23, 24, 25, 26, 27], [20, 21, 22, 23, 24, 25, 26, 27], [21, 22, 23, 24, 25, 26, 27], [22, 23, 24, 25, 26, 27], [19, 20, 21, 22, 23, 24, 25, 26, 27], [19, 20, 21, 22, 24, 25, 26, 27], [19, 20, 21, 22, 25, 26, 27], [19, 20, 21, 22, 26, 27], [19, 20, 21, 22, 23, 24, 25, 26, 27]] (by decide) ?_
          simp
          refine DrC.ok hF (by rfl) (by simp) c2 (by simp) (by simp) ?_
          simp [hn']
          refine ⟨fun _ => ⟨hn, fun a h1 => ⟨hn, fun a2 h2 => ?_⟩⟩, fun h => by simp [h] at hn⟩
          obtain rfl : y = a := Option.some.inj (hy.symm.trans h1)
          obtain rfl : y = a2 := Option.some.inj (hy.symm.trans h2)
          refine S 60 _ _ ?_
          simp
          refine CallW.ok (by decide) (by simp) c3 (by simp) (S 60 _ _ ?_)
          simp
          refine CallW.ok (by decide) (by simp) c4 (by simp) (S 60 _ _ ?_)
          simp
        · rw [decide_eq_false hpt] at c3
          have e : valsR xs v = ([], 2) := by unfold valsR; rw [if_pos ha, if_neg fun h => hpt (h.2 y hy)]
          rw [e] at S ⊢
          simp
          refine CallW.ok (by decide) (by simp) c1 (by simp) (S 60 _ _ ?_)
          simp
          refine J.dr hF mixed 17 [[], [0], [0, 1], [0, 1, 2], [0, 1, 2, 3], [0, 1, 2, 3, 4], [0, 1, 2, 3, 4, 5], [0, 1, 2, 3, 4, 5, 6], [0, 1, 2, 3, 4, 5, 6, 7], [0, 1, 2, 3, 4, 5, 6, 7, 8], [0, 1, 2, 3, 4, 5, 6, 7, 8, 9], [0, 1, 2, 3, 4, 5, 6, 7, 8, 9, 10], [0, 1, 2, 3, 4, 5, 6, 7], [0, 1, 2, 3, 4, 5, 6, 7, 12], [0, 1, 2, 3, 4, 5, 6, 7, 12, 13], [0, 1, 2, 3, 4, 5, 6, 7, 12, 13, 14], [0, 1, 2, 3, 4, 5, 6, 7], [0, 1, 2, 3, 4, 5, 6, 7, 8, 9, 10, 11, 12, 13, 14, 15, 16], [0, 1, 2, 3, 4, 5, 6, 7, 8, 9, 10, 11, 12, 13, 14, 15, 16, 17], [0, 1, 2, 3, 4, 5, 6, 7, 8, 9, 10, 11, 12, 13, 14, 15, 16, 17, 18], [0, 1, 2, 3, 4, 5, 6, 7, 8, 9, 10, 11, 12, 13, 14, 15, 16, 17, 18, 19], [0, 1, 2, 3, 4, 5, 6, 7, 8, 9, 10, 11, 12, 13, 14, 15, 16, 17, 18, 19, 20]] [[11, 12, 13, 14, 15, 16, 17, 18, 19, 20, 21, 22, 23, 24, 25, 26, 27], [12, 13, 14, 15, 16, 17, 18, 19, 20, 21, 22, 23, 24, 25, 26, 27], [13, 14, 15, 16, 17, 18, 19, 20, 21, 22, 23, 24, 25, 26, 27], [14, 15, 16, 17, 18, 19, 20, 21, 22, 23, 24, 25, 26, 27], [15, 16, 17, 18, 19, 20, 21, 22, 23, 24, 25, 26, 27], [16, 17, 18, 19, 20, 21, 22, 23, 24, 25, 26, 27], [17, 18, 19, 20, 21, 22, 23, 24, 25, 26, 27], [18, 19, 20, 21, 22, 23, 24, 25, 26, 27], [19, 20, 21, 22, 23, 24, 25, 26, 27], [20, 21, 22, 23, 24, 25, 26, 27], [21, 22, 23, 24, 25, 26, 27], [22, 23, 24, 25, 26, 27], [19, 20, 21, 22, 23, 24, 25, 26, 27], [19, 20, 21, 22, 24, 25, 26, 27], [19, 20, 21, 22, 25, 26, 27], [19, 20, 21, 22, 26, 27], [19, 20, 21, 22, 23, 24, 25, 26, 27]] (by decide) ?_
          simp
          refine DrC.ok hF (by rfl) (by simp) c2 (by simp) (by simp) ?_
          simp [hn']
          refine ⟨fun _ => ⟨hn, fun a h1 => ⟨hn, fun a2 h2 => ?_⟩⟩, fun h => by simp [h] at hn⟩
          obtain rfl : y = a := Option.some.inj (hy.symm.trans h1)
          obtain rfl : y = a2 := Option.some.inj (hy.symm.trans h2)
          refine S 60 _ _ ?_
          simp
          refine CallW.ok (by decide) (by simp) c3 (by simp) (S 60 _ _ ?_)
          simp
    · rw [decide_eq_false hk] at c2
      have e : valsR xs v = ([], 2) := by unfold valsR; rw [if_pos ha, if_neg fun h => hk h.1]
      rw [e] at S ⊢
      simp
      refine CallW.ok (by decide) (by simp) c1 (by simp) (S 60 _ _ ?_)
      simp
      refine J.dr hF mixed 17 [[], [0], [0, 1], [0, 1, 2], [0, 1, 2, 3], [0, 1, 2, 3, 4], [0, 1, 2, 3, 4, 5], [0, 1, 2, 3, 4, 5, 6], [0, 1, 2, 3, 4, 5, 6, 7], [0, 1, 2, 3, 4, 5, 6, 7, 8], [0, 1, 2, 3, 4, 5, 6, 7, 8, 9], [0, 1, 2, 3, 4, 5, 6, 7, 8, 9, 10], [0, 1, 2, 3, 4, 5, 6, 7], [0, 1, 2, 3, 4, 5, 6, 7, 12], [0, 1, 2, 3, 4, 5, 6, 7, 12, 13], [0, 1, 2, 3, 4, 5, 6, 7, 12, 13, 14], [0, 1, 2, 3, 4, 5, 6, 7], [0, 1, 2, 3, 4, 5, 6, 7, 8, 9, 10, 11, 12, 13, 14, 15, 16], [0, 1, 2, 3, 4, 5, 6, 7, 8, 9, 10, 11, 12, 13, 14, 15, 16, 17], [0, 1, 2, 3, 4, 5, 6, 7, 8, 9, 10, 11, 12, 13, 14, 15, 16, 17, 18], [0, 1, 2, 3, 4, 5, 6, 7, 8, 9, 10, 11, 12, 13, 14, 15, 16, 17, 18, 19], [0, 1, 2, 3, 4, 5, 6, 7, 8, 9, 10, 11, 12, 13, 14, 15, 16, 17, 18, 19, 20]] [[11, 12, 13, 14, 15, 16, 17, 18, 19, 20, 21, 22, 23, 24, 25, 26, 27], [12, 13, 14, 15, 16, 17, 18, 19, 20, 21, 22, 23, 24, 25, 26, 27], [13, 14, 15, 16, 17, 18, 19, 20, 21, 22, 23, 24, 25, 26, 27], [14, 15, 16, 17, 18, 19, 20, 21, 22, 23, 24, 25, 26, 27], [15, 16, 17, 18, 19, 20, 21, 22, 23, 24, 25, 26, 27], [16, 17, 18, 19, 20, 21, 22, 23, 24, 25, 26, 27], [17, 18, 19, 20, 21, 22, 23, 24, 25, 26, 27], [18, 19, 20, 21, 22, 23, 24, 25, 26, 27], [19, 20, 21, 22, 23, 24, 25, 26, 27], [20, 21, 22, 23, 24, 25, 26, 27], [21, 22, 23, 24, 25, 26, 27], [22, 23, 24, 25, 26, 27], [19, 20, 21, 22, 23, 24, 25, 26, 27], [19, 20, 21, 22, 24, 25, 26, 27], [19, 20, 21, 22, 25, 26, 27], [19, 20, 21, 22, 26, 27], [19, 20, 21, 22, 23, 24, 25, 26, 27]] (by decide) ?_
      simp
      refine DrC.ok hF (by rfl) (by simp) c2 (by simp) (by simp) ?_
      simp
      refine S 60 _ _ ?_
      simp
  · rw [decide_eq_false ha] at c1
    have e : valsR xs v = ([], 1) := by unfold valsR; rw [if_neg ha]
    rw [e] at S ⊢
    simp
    refine CallW.ok (by decide) (by simp) c1 (by simp) (S 60 _ _ ?_)
    simp

set_option maxHeartbeats 1000000 in
theorem specValuesOf_ok (xs : List Pl) (v : List Int) (hl : xs.length ≤ 1048576) (hr : ∀ x ∈ xs, x.ts.length ≤ 1048576) (hv : v.length ≤ 1048576) : CallOK Go.Proofs.Try.prog 22 [.one (vPolys xs), .one (vInts v)] (vres (valsR xs v)) := by
  have hF := fnOk 35 [.tmp 4, .tmp 5]
  refine callOK hF 60 Go.Proofs.Try.func22 rfl rfl rfl (by decide) (by simp) rfl ?_
  intro w0 hw
  have S := @vc_sound w0 _ hF ⟨(vres (valsR xs v)), []⟩ Go.Proofs.Try.f22 rfl (by simp)
  have c1 := l09Like_ok xs hl hr
  by_cases ha : AllP xs
  · by_cases hk : LikeP xs
    · have e0 : likeN xs = 0 := by unfold likeN; rw [if_pos ha, if_pos hk]
      rw [e0] at c1
      cases hy : xs[0]? with
      | none =>
        have hn : xs.length = 0 := by simpa using hy
        have hn0 : xs = [] := List.length_eq_zero_iff.1 hn
        have e : valsR xs v = (valsP v xs, 0) := by unfold valsR; rw [if_pos ha, if_pos ⟨hk, fun y h => by rw [hy] at h; cases h⟩]
        have c4 := l09Values_ok xs v (by omega) ha (fun x hx => by rw [hn0] at hx; cases hx)
        rw [e] at S ⊢
        simp
        refine CallW.ok (by decide) (by simp) c1 (by simp) (S 60 _ _ ?_)
        simp
        refine J.dr hF mixed 17 [[], [0], [0, 1], [0, 1, 2], [0, 1, 2, 3], [0, 1, 2, 3, 4], [0, 1, 2, 3, 4, 5], [0, 1, 2, 3, 4, 5, 6], [0, 1, 2, 3, 4, 5, 6, 7], [0, 1, 2, 3, 4, 5, 6, 7, 8], [0, 1, 2, 3, 4, 5, 6, 7, 8, 9], [0, 1, 2, 3, 4, 5, 6, 7, 8, 9, 10], [0, 1, 2, 3, 4, 5, 6, 7], [0, 1, 2, 3, 4, 5, 6, 7, 12], [0, 1, 2, 3, 4, 5, 6, 7, 12, 13], [0, 1, 2, 3, 4, 5, 6, 7, 12, 13, 14], [0, 1, 2, 3, 4, 5, 6, 7], [0, 1, 2, 3, 4, 5, 6, 7, 8, 9, 10, 11, 12, 13, 14, 15, 16], [0, 1, 2, 3, 4, 5, 6, 7, 8, 9, 10, 11, 12, 13, 14, 15, 16, 17], [0, 1, 2, 3, 4, 5, 6, 7, 8, 9, 10, 11, 12, 13, 14, 15, 16, 17, 18]] [[9, 10, 11, 12, 13, 14, 15, 16, 17, 18, 19, 20, 21, 22, 23, 24, 25], [10, 11, 12, 13, 14, 15, 16, 17, 18, 19, 20, 21, 22, 23, 24, 25], [11, 12, 13, 14, 15, 16, 17, 18, 19, 20, 21, 22, 23, 24, 25], [12, 13, 14, 15, 16, 17, 18, 19, 20, 21, 22, 23, 24, 25], [13, 14, 15, 16, 17, 18, 19, 20, 21, 22, 23, 24, 25], [14, 15, 16, 17, 18, 19, 20, 21, 22, 23, 24, 25], [15, 16, 17, 18, 19, 20, 21, 22, 23, 24, 25], [16, 17, 18, 19, 20, 21, 22, 23, 24, 25], [17, 18, 19, 20, 21, 22, 23, 24, 25], [18, 19, 20, 21, 22, 23, 24, 25], [19, 20, 21, 22, 23, 24, 25], [20, 21, 22, 23, 24, 25], [17, 18, 19, 20, 21, 22, 23, 24, 25], [17, 18, 19, 20, 22, 23, 24, 25], [17, 18, 19, 20, 23, 24, 25], [17, 18, 19, 20, 24, 25], [17, 18, 19, 20, 21, 22, 23, 24, 25]] (by decide) ?_
        simp [hn]
        refine S 60 _ _ ?_
        simp
        refine CallW.ok (by decide) (by simp) c4 (by simp) (S 60 _ _ ?_)
        simp
      | some y =>
        have hn : 0 < xs.length := (List.getElem?_eq_some_iff.1 hy).1
        have hn' : (0 : Int) < xs.length := by omega
        have hpp : Pr y.p := (ha y (List.mem_of_getElem? hy)).1
        have c3 := l01Point_ok y.p y.d v hpp hv
        by_cases hpt : PointP y.p y.d v
        · rw [decide_eq_true hpt] at c3
          have hall : ∀ z, xs[0]? = some z → PointP z.p z.d v := fun z hz => by
            obtain rfl : y = z := Option.some.inj (hy.symm.trans hz)
            exact hpt
          have e : valsR xs v = (valsP v xs, 0) := by unfold valsR; rw [if_pos ha, if_pos ⟨hk, hall⟩]
          have c4 := l09Values_ok xs v (by have := hk.1; omega) ha (point_all hk hall)
          rw [e] at S ⊢
          simp
          refine CallW.ok (by decide) (by simp) c1 (by simp) (S 60 _ _ ?_)
          simp
          refine J.dr hF mixed 17 [[], [0], [0, 1], [0, 1, 2], [0, 1, 2, 3], [0, 1, 2, 3, 4], [0, 1, 2, 3, 4, 5], [0, 1, 2, 3, 4, 5, 6], [0, 1, 2, 3, 4, 5, 6, 7], [0, 1, 2, 3, 4, 5, 6, 7, 8], [0, 1, 2, 3, 4, 5, 6, 7, 8, 9], [0, 1, 2, 3, 4, 5, 6, 7, 8, 9, 10], [0, 1, 2, 3, 4, 5, 6, 7], [0, 1, 2, 3, 4, 5, 6, 7, 12], [0, 1, 2, 3, 4, 5, 6, 7, 12, 13], [0, 1, 2, 3, 4, 5, 6, 7, 12, 13, 14], [0, 1, 2, 3, 4, 5, 6, 7], [0, 1, 2, 3, 4, 5, 6, 7, 8, 9, 10, 11, 12, 13, 14, 15, 16], [0, 1, 2, 3, 4, 5, 6, 7, 8, 9, 10, 11, 12, 13, 14, 15, 16, 17], [0, 1, 2, 3, 4, 5, 6, 7, 8, 9, 10, 11, 12, 13, 14, 15, 16, 17, 18]] [[9, 10, 11, 12, 13, 14, 15, 16, 17, 18, 19, 20, 21, 22, 23, 24, 25], [10, 11, 12, 13, 14, 15, 16, 17, 18, 19, 20, 21, 22, 23, 24, 25], [11, 12, 13, 14, 15, 16, 17, 18, 19, 20, 21, 22, 23, 24, 25], [12, 13, 14, 15, 16, 17, 18, 19, 20, 21, 22, 23, 24, 25], [13, 14, 15, 16, 17, 18, 19, 20, 21, 22, 23, 24, 25], [14, 15, 16, 17, 18, 19, 20, 21, 22, 23, 24, 25], [15, 16, 17, 18, 19, 20, 21, 22, 23, 24, 25], [16, 17, 18, 19, 20, 21, 22, 23, 24, 25], [17, 18, 19, 20, 21, 22, 23, 24, 25], [18, 19, 20, 21, 22, 23, 24, 25], [19, 20, 21, 22, 23, 24, 25], [20, 21, 22, 23, 24, 25], [17, 18, 19, 20, 21, 22, 23, 24, 25], [17, 18, 19, 20, 22, 23, 24, 25], [17, 18, 19, 20, 23, 24, 25], [17, 18, 19, 20, 24, 25], [17, 18, 19, 20, 21, 22, 23, 24, 25]] (by decide) ?_
          simp [hn']
          refine ⟨fun _ => ⟨hn, fun a h1 => ⟨hn, fun a2 h2 => ?_⟩⟩, fun h => by simp [h] at hn⟩
          obtain rfl : y = a := Option.some.inj (hy.symm.trans h1)
          obtain rfl : y = a2 := Option.some.inj (hy.symm.trans h2)
          refine S 60 _ _ ?_
          simp
          refine CallW.ok (by decide) (by simp) c3 (by simp) (S 60 _ _ ?_)
          simp
          refine CallW.ok (by decide) (by simp) c4 (by simp) (S 60 _ _ ?_)
          simp
        · rw [decide_eq_false hpt] at c3
          have e : valsR xs v = ([], 2) := by unfold valsR; rw [if_pos ha, if_neg fun h => hpt (h.2 y hy)]
          rw [e] at S ⊢
          simp
          refine CallW.ok (by decide) (by simp) c1 (by simp) (S 60 _ _ ?_)
          simp
          refine J.dr hF mixed 17 [[], [0], [0, 1], [0, 1, 2], [0, 1, 2, 3], [0, 1, 2, 3, 4], [0, 1, 2, 3, 4, 5], [0, 1, 2, 3, 4, 5, 6], [0, 1, 2, 3, 4, 5, 6, 7], [0, 1, 2, 3, 4, 5, 6, 7, 8], [0, 1, 2, 3, 4, 5, 6, 7, 8, 9], [0, 1, 2, 3, 4, 5, 6, 7, 8, 9, 10], [0, 1, 2, 3, 4, 5, 6, 7], [0, 1, 2, 3, 4, 5, 6, 7, 12], [0, 1, 2, 3, 4, 5, 6, 7, 12, 13], [0, 1, 2, 3, 4, 5, 6, 7, 12, 13, 14], [0, 1, 2, 3, 4, 5, 6, 7], [0, 1, 2, 3, 4, 5, 6, 7, 8, 9, 10, 11, 12, 13, 14, 15, 16], [0, 1, 2, 3, 4, 5, 6, 7, 8, 9, 10, 11, 12, 13, 14, 15, 16, 17], [0, 1, 2, 3, 4, 5, 6, 7, 8, 9, 10, 11, 12, 13, 14, 15, 16, 17, 18]] [[9, 10, 11, 12, 13, 14, 15, 16, 17, 18, 19, 20, 21, 22, 23, 24, 25], [10, 11, 12, 13, 14, 15, 16, 17, 18, 19, 20, 21, 22, 23, 24, 25], [11, 12, 13, 14, 15, 16, 17, 18, 19, 20, 21, 22, 23, 24, 25], [12, 13, 14, 15, 16, 17, 18, 19, 20, 21, 22, 23, 24, 25], [13, 14, 15, 16, 17, 18, 19, 20, 21, 22, 23, 24, 25], [14, 15, 16, 17, 18, 19, 20, 21, 22, 23, 24, 25], [15, 16, 17, 18, 19, 20, 21, 22, 23, 24, 25], [16, 17, 18, 19, 20, 21, 22, 23, 24, 25], [17, 18, 19, 20, 21, 22, 23, 24, 25], [18, 19, 20, 21, 22, 23, 24, 25], [19, 20, 21, 22, 23, 24, 25], [20, 21, 22, 23, 24, 25], [17, 18, 19, 20, 21, 22, 23, 24, 25], [17, 18, 19, 20, 22, 23, 24, 25], [17, 18, 19, 20, 23, 24, 25], [17, 18, 19, 20, 24, 25], [17, 18, 19, 20, 21, 22, 23, 24, 25]] (by decide) ?_
          simp [hn']
          refine ⟨fun _ => ⟨hn, fun a h1 => ⟨hn, fun a2 h2 => ?_⟩⟩, fun h => by simp [h] at hn⟩
          obtain rfl : y = a := Option.some.inj (hy.symm.trans h1)
          obtain rfl : y = a2 := Option.some.inj (hy.symm.trans h2)
          refine S 60 _ _ ?_
          simp
          refine CallW.ok (by decide) (by simp) c3 (by simp) (S 60 _ _ ?_)
          simp
    · have e0 : likeN xs = 2 := by unfold likeN; rw [if_pos ha, if_neg hk]
      rw [e0] at c1
      have e : valsR xs v = ([], 2) := by unfold valsR; rw [if_pos ha, if_neg fun h => hk h.1]
      rw [e] at S ⊢
      simp
      refine CallW.ok (by decide) (by simp) c1 (by simp) (S 60 _ _ ?_)
      simp
      refine J.dr hF mixed 17 [[], [0], [0, 1], [0, 1, 2], [0, 1, 2, 3], [0, 1, 2, 3, 4], [0, 1, 2, 3, 4, 5], [0, 1, 2, 3, 4, 5, 6], [0, 1, 2, 3, 4, 5, 6, 7], [0, 1, 2, 3, 4, 5, 6, 7, 8], [0, 1, 2, 3, 4, 5, 6, 7, 8, 9], [0, 1, 2, 3, 4, 5, 6, 7, 8, 9, 10], [0, 1, 2, 3, 4, 5, 6, 7], [0, 1, 2, 3, 4, 5, 6, 7, 12], [0, 1, 2, 3, 4, 5, 6, 7, 12, 13], [0, 1, 2, 3, 4, 5, 6, 7, 12, 13, 14], [0, 1, 2, 3, 4, 5, 6, 7], [0, 1, 2, 3, 4, 5, 6, 7, 8, 9, 10, 11, 12, 13, 14, 15, 16], [0, 1, 2, 3, 4, 5, 6, 7, 8, 9, 10, 11, 12, 13, 14, 15, 16, 17], [0, 1, 2, 3, 4, 5, 6, 7, 8, 9, 10, 11, 12, 13, 14, 15, 16, 17, 18]] [[9, 10, 11, 12, 13, 14, 15, 16, 17, 18, 19, 20, 21, 22, 23, 24, 25], [10, 11, 12, 13, 14, 15, 16, 17, 18, 19, 20, 21, 22, 23, 24, 25], [11, 12, 13, 14, 15, 16, 17, 18, 19, 20, 21, 22, 23, 24, 25], [12, 13, 14, 15, 16, 17, 18, 19, 20, 21, 22, 23, 24, 25], [13, 14, 15, 16, 17, 18, 19, 20, 21, 22, 23, 24, 25], [14, 15, 16, 17, 18, 19, 20, 21, 22, 23, 24, 25], [15, 16, 17, 18, 19, 20, 21, 22, 23, 24, 25], [16, 17, 18, 19, 20, 21, 22, 23, 24, 25], [17, 18, 19, 20, 21, 22, 23, 24, 25], [18, 19, 20, 21, 22, 23, 24, 25], [19, 20, 21, 22, 23, 24, 25], [20, 21, 22, 23, 24, 25], [17, 18, 19, 20, 21, 22, 23, 24, 25], [17, 18, 19, 20, 22, 23, 24, 25], [17, 18, 19, 20, 23, 24, 25], [17, 18, 19, 20, 24, 25], [17, 18, 19, 20, 21, 22, 23, 24, 25]] (by decide) ?_
      simp
      refine S 60 _ _ ?_
      simp
  · have e0 : likeN xs = 1 := by unfold likeN; rw [if_neg ha]
    rw [e0] at c1
    have e : valsR xs v = ([], 1) := by unfold valsR; rw [if_neg ha]
    rw [e] at S ⊢
    simp
    refine CallW.ok (by decide) (by simp) c1 (by simp) (S 60 _ _ ?_)
    simp
    refine J.dr hF mixed 17 [[], [0], [0, 1], [0, 1, 2], [0, 1, 2, 3], [0, 1, 2, 3, 4], [0, 1, 2, 3, 4, 5], [0, 1, 2, 3, 4, 5, 6], [0, 1, 2, 3, 4, 5, 6, 7], [0, 1, 2, 3, 4, 5, 6, 7, 8], [0, 1, 2, 3, 4, 5, 6, 7, 8, 9], [0, 1, 2, 3, 4, 5, 6, 7, 8, 9, 10], [0, 1, 2, 3, 4, 5, 6, 7], [0, 1, 2, 3, 4, 5, 6, 7, 12], [0, 1, 2, 3, 4, 5, 6, 7, 12, 13], [0, 1, 2, 3, 4, 5, 6, 7, 12, 13, 14], [0, 1, 2, 3, 4, 5, 6, 7], [0, 1, 2, 3, 4, 5, 6, 7, 8, 9, 10, 11, 12, 13, 14, 15, 16], [0, 1, 2, 3, 4, 5, 6, 7, 8, 9, 10, 11, 12, 13, 14, 15, 16, 17], [0, 1, 2, 3, 4, 5, 6, 7, 8, 9, 10, 11, 12, 13, 14, 15, 16, 17, 18]] [[9, 10, 11, 12, 13, 14, 15, 16, 17, 18, 19, 20, 21, 22, 23, 24, 25], [10, 11, 12, 13, 14, 15, 16, 17, 18, 19, 20, 21, 22, 23, 24, 25], [11, 12, 13, 14, 15, 16, 17, 18, 19, 20, 21, 22, 23, 24, 25], [12, 13, 14, 15, 16, 17, 18, 19, 20, 21, 22, 23, 24, 25], [13, 14, 15, 16, 17, 18, 19, 20, 21, 22, 23, 24, 25], [14, 15, 16, 17, 18, 19, 20, 21, 22, 23, 24, 25], [15, 16, 17, 18, 19, 20, 21, 22, 23, 24, 25], [16, 17, 18, 19, 20, 21, 22, 23, 24, 25], [17, 18, 19, 20, 21, 22, 23, 24, 25], [18, 19, 20, 21, 22, 23, 24, 25], [19, 20, 21, 22, 23, 24, 25], [20, 21, 22, 23, 24, 25], [17, 18, 19, 20, 21, 22, 23, 24, 25], [17, 18, 19, 20, 22, 23, 24, 25], [17, 18, 19, 20, 23, 24, 25], [17, 18, 19, 20, 24, 25], [17, 18, 19, 20, 21, 22, 23, 24, 25]] (by decide) ?_
    simp
    refine S 60 _ _ ?_
    simp

end Go.Sm

namespace Go.Sm
open Go.RowKit

theorem toExps_ok (e : Ex) : CallOK Go.Proofs.Try.prog 156 [.agg e.ds] (.agg e.ds) := by
  have hF := fnOk 15 [.cell 2 88]
  refine callOK hF 60 Go.Proofs.Try.func156 rfl rfl rfl (by decide) (by simp) rfl ?_
  intro w0 hw
  have S := @vc_sound w0 _ hF ⟨(.agg e.ds), []⟩ Go.Proofs.Try.f156 rfl (by simp)
  simp
  refine J.rounds 5 (LpW.step (S 60 _ _ ?_))
  simp
  refine LpW.inv (LpW.step (S 60 _ _ ?_))
  simp
  refine LpW.inv (LpW.step (S 60 _ _ ?_))
  simp
  refine LpW.inv (LpW.step (S 60 _ _ ?_))
  simp

theorem toTerm_ok (t : Tm) : CallOK Go.Proofs.Try.prog 136 [.agg [u8 t.e.a, u8 t.e.b, u8 t.e.c, i64 t.v]] (.agg [u8 t.e.a, u8 t.e.b, u8 t.e.c, i64 t.v]) := by
  have hF := fnOk 12 [.cell 2 108]
  refine callOK hF 60 Go.Proofs.Try.func136 rfl rfl rfl (by decide) (by simp) rfl ?_
  intro w0 hw
  have S := @vc_sound w0 _ hF ⟨(.agg [u8 t.e.a, u8 t.e.b, u8 t.e.c, i64 t.v]), []⟩ Go.Proofs.Try.f136 rfl (by simp)
  have c1 := toExps_ok t.e
  simp
  refine CallW.ok (by decide) (by simp) c1 (by simp) (S 60 _ _ ?_)
  simp

theorem toTermS_ok (ts : List Tm) (hl : ts.length ≤ 1048576) : CallOK Go.Proofs.Try.prog 95 [.one (vTerms ts)] (.one (oTerms ts)) := by
  have hF := fnOk 23 [.tmp 2]
  refine callOK hF 60 Go.Proofs.Try.func95 rfl rfl rfl (by decide) (by simp) rfl ?_
  intro w0 hw
  have S := @vc_sound w0 _ hF ⟨(.one (oTerms ts)), []⟩ Go.Proofs.Try.f95 rfl (by simp)
  simp
  refine ⟨by omega, ?_⟩
  refine J.loop hw (fun p : Nat × List Tm => ⟨[(0, .c (.d (vTerms ts))), (3, .c (.ob 64003)), (4, .c (.d (i64 p.1)))], [(64003, .arr 108 4 (terms p.2))]⟩)
    (fun p => p.1 ≤ ts.length ∧ p.2.length = ts.length ∧ p.2.take p.1 = ts.take p.1) (fun p => ts.length - p.1) (0, List.replicate ts.length ⟨⟨0, 0, 0⟩, 0⟩) (by simp) (by simp) ?_
  rintro ⟨i, zs⟩ ⟨hi, hlen, htk⟩
  simp only at hi hlen htk
  refine S 12 _ _ ?_
  simp
  refine ⟨fun hlt => ?_, fun hge => ?_⟩
  · obtain ⟨t, ht⟩ : ∃ t, ts[i]? = some t := ⟨ts[i], List.getElem?_eq_getElem hlt⟩
    obtain ⟨u, hu⟩ : ∃ u, zs[i]? = some u := ⟨zs[i], List.getElem?_eq_getElem (by omega)⟩
    have c1 := toTerm_ok t
    refine S 9 _ _ ?_
    simp
    refine ⟨hlt, fun x hx => ?_⟩
    obtain rfl : t = x := Option.some.inj (ht.symm.trans hx)
    refine CallW.ok (by decide) (by simp) c1 (by simp) (S 60 _ _ ?_)
    simp [hlen, hu]
    refine ⟨hlt, ?_⟩
    refine Nxt.mk (i + 1, zs.set i t) ⟨by show i + 1 ≤ _; omega, by simpa using hlen, ?_⟩ (by simp [wrapS (i := i) (n := ts.length) hlt (by omega), List.map_set]) (by show ts.length - (i + 1) < ts.length - i; omega)
    show (zs.set i t).take (i + 1) = ts.take (i + 1)
    rw [List.take_add_one, List.take_set_of_le (Nat.le_refl i), htk, List.take_add_one, ht]
    simp [show i < zs.length by omega]
  · have e : zs = ts := by
      have h1 : zs.take i = zs := List.take_of_length_le (by omega)
      have h2 : ts.take i = ts := List.take_of_length_le (by omega)
      rw [← h1, htk, h2]
    refine S 60 _ _ ?_
    simp [e]

theorem szTermS_ok (ts : List Tm) (n : Int) (hn : 0 ≤ n) (hn2 : n ≤ 4611686018427387904) (hl : ts.length ≤ maxLen) : CallOK Go.Proofs.Try.prog 92 [.one (vTerms ts), .one (i64 n)] (.one (i64 (if n - ts.length < 0 then -1 else n - ts.length))) := by
  have hF := fnOk 12 [.tmp 4]
  refine callOK hF 60 Go.Proofs.Try.func92 rfl rfl rfl (by decide) (by simp) rfl ?_
  intro w0 hw
  have S := @vc_sound w0 _ hF ⟨(.one (i64 (if n - ts.length < 0 then -1 else n - ts.length))), []⟩ Go.Proofs.Try.f92 rfl (by simp)
  have hm : maxLen = 9223372036854775807 := rfl
  have hw1 : IntKind.i64.wrap (n - ts.length) = n - ts.length := wrap64 (by omega) (by omega)
  by_cases h : n - ts.length < 0
  · rw [if_pos h] at S ⊢
    simp [hw1, h]
  · rw [if_neg h] at S ⊢
    simp [hw1, h]

theorem toPoly_ok (p d : Int) (ts : List Tm) (hl : ts.length ≤ 1048576) : CallOK Go.Proofs.Try.prog 42 [pv p d ts] (po p d ts) := by
  have hF := fnOk 15 [.cell 2 39]
  refine callOK hF 60 Go.Proofs.Try.func42 rfl rfl rfl (by decide) (by simp) rfl ?_
  intro w0 hw
  have S := @vc_sound w0 _ hF ⟨(po p d ts), []⟩ Go.Proofs.Try.f42 rfl (by simp)
  have c1 := toTermS_ok ts hl
  simp
  refine CallW.ok (by decide) (by simp) c1 (by simp) (S 60 _ _ ?_)
  simp

theorem szPoly_ok (p d : Int) (ts : List Tm) (n : Int) (hn : 0 ≤ n) (hn2 : n ≤ 4611686018427387904) (hl : ts.length ≤ maxLen) : CallOK Go.Proofs.Try.prog 40 [pv p d ts, .one (i64 n)] (.one (i64 (if n - ts.length < 0 then -1 else n - ts.length))) := by
  have hF := fnOk 12 [.tmp 4]
  refine callOK hF 60 Go.Proofs.Try.func40 rfl rfl rfl (by decide) (by simp) rfl ?_
  intro w0 hw
  have S := @vc_sound w0 _ hF ⟨(.one (i64 (if n - ts.length < 0 then -1 else n - ts.length))), []⟩ Go.Proofs.Try.f40 rfl (by simp)
  have c1 := szTermS_ok ts n hn hn2 hl
  by_cases h : n - ts.length < 0
  · rw [if_pos h] at S c1 ⊢
    simp
    refine CallW.ok (by decide) (by simp) c1 (by simp) (S 60 _ _ ?_)
    simp
  · rw [if_neg h] at S c1 ⊢
    simp
    refine CallW.ok (by decide) (by simp) c1 (by simp) (S 60 _ _ ?_)
    simp [h]

end Go.Sm

namespace Go.Sm
open Go.RowKit

def totalP (xs : List Pl) : Nat := (xs.map fun x => x.ts.length).sum
theorem totalP_take {xs : List Pl} {i : Nat} {x : Pl} (h : xs[i]? = some x) : totalP (xs.take (i + 1)) = totalP (xs.take i) + x.ts.length := by
  rw [List.take_add_one, h]; simp [totalP]
theorem totalP_le (xs : List Pl) (i : Nat) : totalP (xs.take i) ≤ totalP xs := by
  have h : totalP xs = totalP (xs.take i) + totalP (xs.drop i) := by
    conv => lhs; rw [← List.take_append_drop i xs]
    simp only [totalP, List.map_append, List.sum_append]
  omega
theorem len_totalP : ∀ {xs : List Pl} {x : Pl}, x ∈ xs → x.ts.length ≤ totalP xs
  | y :: xs, x, h => by
    simp only [totalP, List.map_cons, List.sum_cons]
    rcases List.mem_cons.1 h with rfl | h
    · omega
    · have := len_totalP h; unfold totalP at this; omega

def szP (n : Int) (xs : List Pl) : Int := if n - xs.length - totalP xs < 0 then -1 else n - xs.length - totalP xs

theorem szPolyS_ok (xs : List Pl) (n : Int) (hn : 0 ≤ n) (hn2 : n ≤ 1000000000) (hl : xs.length ≤ maxLen) (hr : ∀ x ∈ xs, x.ts.length ≤ maxLen) : CallOK Go.Proofs.Try.prog 21 [.one (vPolys xs), .one (i64 n)] (.one (i64 (szP n xs))) := by
  have hF := fnOk 27 [.tmp 4]
  refine callOK hF 60 Go.Proofs.Try.func21 rfl rfl rfl (by decide) (by simp) rfl ?_
  intro w0 hw
  have S := @vc_sound w0 _ hF ⟨(.one (i64 (szP n xs))), []⟩ Go.Proofs.Try.f21 rfl (by simp)
  have hm : maxLen = 9223372036854775807 := rfl
  have hw1 : IntKind.i64.wrap (n - xs.length) = n - xs.length := wrap64 (by omega) (by omega)
  have hneg : ∀ i, n - xs.length - totalP (xs.take i) < 0 → szP n xs = -1 := fun i h => by
    have := totalP_le xs i
    unfold szP; rw [if_pos (by omega)]
  by_cases h : n - xs.length < 0
  · have e := hneg 0 (by simp [totalP]; omega)
    rw [e] at S ⊢
    simp [hw1, h]
  · simp [hw1, h]
    refine J.loop hw (fun i : Nat => ⟨[(0, .c (.d (vPolys xs))), (1, .c (.d (i64 (n - xs.length - totalP (xs.take i))))), (5, .c (.d (i64 i)))], []⟩)
      (fun i => i ≤ xs.length ∧ 0 ≤ n - xs.length - totalP (xs.take i)) (fun i => xs.length - i) 0 ⟨by omega, by simp [totalP]; omega⟩ (by simp [totalP]) ?_
    rintro i ⟨hi, h0⟩
    refine S 12 _ _ ?_
    simp
    refine ⟨fun hlt => ?_, fun hge => ?_⟩
    · obtain ⟨x, hx⟩ : ∃ x, xs[i]? = some x := ⟨xs[i], List.getElem?_eq_getElem hlt⟩
      have c1 := szPoly_ok x.p x.d x.ts (n - xs.length - totalP (xs.take i)) h0 (by omega) (hr x (List.mem_of_getElem? hx))
      have ht := totalP_take hx
      have hng := hneg (i + 1)
      refine S 60 _ _ ?_
      simp
      refine ⟨hlt, fun x' hx' => ?_⟩
      obtain rfl : x = x' := Option.some.inj (hx.symm.trans hx')
      by_cases h1 : n - xs.length - totalP (xs.take i) - x.ts.length < 0
      · rw [if_pos h1] at c1
        have e := hng (by omega)
        refine CallW.ok (by decide) (by simp) c1 (by simp) (S 60 _ _ ?_)
        simp [e]
      · rw [if_neg h1] at c1
        have e : n - (xs.length : Int) - totalP (xs.take i) - x.ts.length = n - xs.length - totalP (xs.take (i + 1)) := by omega
        rw [e] at c1 h1
        refine CallW.ok (by decide) (by simp) c1 (by simp) (S 60 _ _ ?_)
        simp
        refine ⟨fun h' => absurd h' h1, fun _ => ?_⟩
        exact Nxt.mk (i + 1) ⟨hlt, by omega⟩ (by simp [wrapS (i := i) (n := xs.length) hlt (by omega)]) (by omega)
    · rw [List.take_of_length_le (by omega)] at h0 ⊢
      have e : szP n xs = n - xs.length - totalP xs := if_neg (by omega)
      rw [e] at S ⊢
      refine S 60 _ _ ?_
      simp

theorem eqPolyS_ok (xs : List Pl) (hl : xs.length ≤ 1048576) (hr : ∀ x ∈ xs, x.ts.length ≤ 1048576) : CallOK Go.Proofs.Try.prog 25 [.one (vPolys xs), .one (vPolys xs)] (.one (bo true)) := by
  have hF := fnOk 27 [.tmp 4]
  refine callOK hF 60 Go.Proofs.Try.func25 rfl rfl rfl (by decide) (by simp) rfl ?_
  intro w0 hw
  have S := @vc_sound w0 _ hF ⟨(.one (bo true)), []⟩ Go.Proofs.Try.f25 rfl (by simp)
  simp
  refine J.loop hw (fun i : Nat => ⟨[(0, .c (.d (vPolys xs))), (1, .c (.d (vPolys xs))), (5, .c (.d (i64 i)))], []⟩)
    (fun i => i ≤ xs.length) (fun i => xs.length - i) 0 (by simp) (by simp) ?_
  intro i hi
  refine S 12 _ _ ?_
  simp
  refine ⟨fun hlt => ?_, fun hge => S 60 _ _ (by simp)⟩
  obtain ⟨x, hx⟩ : ∃ x, xs[i]? = some x := ⟨xs[i], List.getElem?_eq_getElem hlt⟩
  have c1 := eqPoly_ok x.p x.d x.p x.d x.ts x.ts (by have := hr x (List.mem_of_getElem? hx); omega)
  rw [decide_eq_true ⟨rfl, rfl, rfl⟩] at c1
  refine S 60 _ _ ?_
  simp
  refine J.dr hF mixed 8 [[], [], [0, 1], [0, 1, 2], [], [], [4, 5], [4, 5, 6], [0, 1, 2, 3, 4, 5, 6, 7], [0, 1, 2, 3, 4, 5, 6, 7, 8]] [[17, 18, 19, 20, 21, 22, 23, 24], [17, 18, 19, 20, 21, 22, 23, 24], [19, 20, 21, 22, 23, 24], [20, 21, 22, 23, 24], [17, 18, 19, 20, 21, 22, 23, 24], [17, 18, 19, 20, 21, 22, 23, 24], [17, 18, 19, 20, 23, 24], [17, 18, 19, 20, 24]] (by decide) ?_
  rw [← List.take_append_drop 4 (List.take _ _)]
  generalize htl : List.drop 4 (List.take _ _) = tl
  simp
  refine ⟨hlt, fun x' hx' => ?_⟩
  obtain rfl : x = x' := Option.some.inj (hx.symm.trans hx')
  subst htl
  simp
  refine ⟨hlt, fun x' hx' => ?_⟩
  obtain rfl : x = x' := Option.some.inj (hx.symm.trans hx')
  refine S 60 _ _ ?_
  simp
  refine CallW.ok (by decide) (by simp) c1 (by simp) (S 60 _ _ ?_)
  simp
  exact Nxt.mk (i + 1) hlt (by simp [wrapS (i := i) (n := xs.length) hlt (by omega)]) (by omega)

abbrev elP (x : Pl) : List D := [i64 x.p, i64 x.d, oTerms x.ts]

set_option maxHeartbeats 1000000 in
theorem toPolyS_ok (xs : List Pl) (hl : xs.length ≤ 1048576) (hr : ∀ x ∈ xs, x.ts.length ≤ 1048576) : CallOK Go.Proofs.Try.prog 23 [.one (vPolys xs)] (.one (oPolys xs)) := by
  have hF := fnOk 23 [.tmp 2]
  refine callOK hF 60 Go.Proofs.Try.func23 rfl rfl rfl (by decide) (by simp) rfl ?_
  intro w0 hw
  have S := @vc_sound w0 _ hF ⟨(.one (oPolys xs)), []⟩ Go.Proofs.Try.f23 rfl (by simp)
  simp
  refine ⟨⟨by omega, by omega⟩, ?_⟩
  refine J.loop hw (fun p : Nat × List Pl => ⟨[(0, .c (.d (vPolys xs))), (3, .c (.ob 64003)), (4, .c (.d (i64 p.1)))], [(64003, .arr 39 3 (p.2.map fun x => [i64 x.p, i64 x.d, oTerms x.ts]))]⟩)
    (fun p => p.1 ≤ xs.length ∧ p.2.length = xs.length ∧ p.2.take p.1 = xs.take p.1) (fun p => xs.length - p.1) (0, List.replicate xs.length ⟨0, 0, []⟩) (by simp) (by simp [List.map_replicate]) ?_
  rintro ⟨i, zs⟩ ⟨hi, hlen, htk⟩
  simp only at hi hlen htk
  refine S 12 _ _ ?_
  simp
  refine ⟨fun hlt => ?_, fun hge => ?_⟩
  · obtain ⟨x, hx⟩ : ∃ x, xs[i]? = some x := ⟨xs[i], List.getElem?_eq_getElem hlt⟩
    have c1 := toPoly_ok x.p x.d x.ts (hr x (List.mem_of_getElem? hx))
    have hlz : i < zs.length := by omega
    obtain ⟨z, hz⟩ : ∃ z, zs[i]? = some z := ⟨zs[i], List.getElem?_eq_getElem hlz⟩
    refine J.out (F := ⟨Go.Proofs.Try.prog, tab, [], 23, [.tmp 2]⟩) (r := ⟨.one (oPolys xs), []⟩) (fn := Go.Proofs.Try.f23) hw
      (ky := 64003) (K := 64011) (i := i) (j := 2) (e := 39) (z := 3) (xs := zs.map fun x => [i64 x.p, i64 x.d, oTerms x.ts]) (E := [i64 z.p, i64 z.d, oTerms z.ts]) (e' := 108) (z' := 4) (ys := terms z.ts)
      (by simp) (by simp [hz]) (by simp) (by simp) (by simp) (by omega) (by simp) (by simp) (by simp) ?_
    intro c
    have S1 := @vc_sound (w0.named 64011 c) _ hF ⟨.one (oPolys xs), []⟩ Go.Proofs.Try.f23 rfl (by simp)
    refine S1 60 _ _ ?_
    simp
    refine ⟨hlt, fun x' hx' => ?_⟩
    obtain rfl : x = x' := Option.some.inj (hx.symm.trans hx')
    refine CallW.ok (by decide) (by simp) c1 (by simp) ?_
    simp
    refine J.name (F := ⟨Go.Proofs.Try.prog, tab, [], 23, [.tmp 2]⟩) (r := ⟨.one (oPolys xs), []⟩) (fn := Go.Proofs.Try.f23)
      (K := 1282) (by rw [named_ne _ _ (by decide)]; exact fix_none hw (by decide)) (by simp) (by simp) ?_
    intro c2
    refine J.reVg (d := 20) (K := 1282) (i := 2) (cs := [.d (i64 x.p), .d (i64 x.d), .ob 1282]) (c := c2) (by simp) (by simp) (by simp) ?_
    have S2 := @vc_sound ((w0.named 64011 c).named 1282 c2) _ hF ⟨.one (oPolys xs), []⟩ Go.Proofs.Try.f23 rfl (by simp)
    refine S2 3 _ _ ?_
    simp [hlz]
    refine J.in' (ky := 64003) (K := 1282) (i := i) (j := 2) (e := 39) (z := 3) (xs := (zs.map fun x => [i64 x.p, i64 x.d, oTerms x.ts]).set i [i64 x.p, i64 x.d, .v c2]) (E := [i64 x.p, i64 x.d, .v c2]) (e' := 108) (z' := 4) (ys := terms x.ts) (c := c2)
      (by simp) (by simp) (by simp) (by simp [hlz]) (by simp) (by decide) (by simp) ?_
    refine S2 60 _ _ ?_
    simp
    refine Nxt.mk (i + 1, zs.set i x) ⟨hlt, by simpa using hlen, ?_⟩ (by simp [wrapS (i := i) (n := xs.length) hlt (by omega), List.map_set]) (by show xs.length - (i + 1) < xs.length - i; omega)
    show (zs.set i x).take (i + 1) = xs.take (i + 1)
    rw [List.take_add_one, List.take_set_of_le (Nat.le_refl i), htk, List.take_add_one, hx]
    simp [hlz]
  · have e : zs = xs := by
      have h1 : zs.take i = zs := List.take_of_length_le (by omega)
      have h2 : xs.take i = xs := List.take_of_length_le (by omega)
      rw [← h1, htk, h2]
    subst e
    refine S 60 _ _ ?_
    simp

def markPS : List Pl → Int → List Pl
  | [], _ => []
  | x :: xs, k => ⟨k, k + 1, markTs x.ts.length (k + 2)⟩ :: markPS xs (k + 2 + 4 * x.ts.length)
def szM (xs : List Pl) : Int := 2 * xs.length + 4 * totalP xs
theorem szM_take {xs : List Pl} {i : Nat} {x : Pl} (h : xs[i]? = some x) : szM (xs.take (i + 1)) = szM (xs.take i) + 2 + 4 * x.ts.length := by
  have := totalP_take h
  have hi := (List.getElem?_eq_some_iff.1 h).1
  unfold szM
  rw [this, List.length_take, List.length_take]
  push_cast
  omega
theorem szM_le (xs : List Pl) (i : Nat) : 0 ≤ szM (xs.take i) ∧ szM (xs.take i) ≤ szM xs := by
  have := totalP_le xs i
  unfold szM
  rw [List.length_take]
  omega
theorem markPS_length : ∀ (xs : List Pl) (k : Int), (markPS xs k).length = xs.length
  | [], _ => rfl
  | x :: r, k => by simp [markPS, markPS_length r]
theorem markPS_append : ∀ (xs ys : List Pl) (k : Int), markPS (xs ++ ys) k = markPS xs k ++ markPS ys (k + szM xs)
  | [], ys, k => by simp [markPS, szM, totalP]
  | x :: xs, ys, k => by
    have e : k + 2 + 4 * (x.ts.length : Int) + szM xs = k + szM (x :: xs) := by simp only [szM, totalP, List.map_cons, List.sum_cons, List.length_cons]; push_cast; omega
    rw [List.cons_append, markPS, markPS, markPS_append xs ys, e, List.cons_append]

set_option maxHeartbeats 2000000 in
theorem markPolyS_ok (xs : List Pl) (k : Int) (hl : xs.length ≤ 1048576) (hr : ∀ x ∈ xs, x.ts.length ≤ 1048576) (hk : 0 ≤ k) (hk2 : k + szM xs ≤ 100000000) : CallX Go.Proofs.Try.prog 26 [.one (oPolys xs), .one (i64 k)] ⟨(.one (i64 (k + szM xs))), [(0, oPolys (markPS xs k))]⟩ := by
  have hF := fnOk 34 [.tmp 4]
  refine callX hF 60 Go.Proofs.Try.func26 rfl rfl rfl (by decide) (by simp) rfl (by simp) (by simp [ownAt]) ?_
  intro w0 hw hfix
  have S := @vc_sound w0 _ hF ⟨(.one (i64 (k + szM xs))), [(0, oPolys (markPS xs k))]⟩ Go.Proofs.Try.f26 rfl hfix
  simp
  refine J.loop hw (fun p : Nat × List Pl => ⟨[(0, .c (.ob 0)), (1, .c (.d (i64 (k + szM (xs.take p.1))))), (5, .c (.d (i64 p.1)))], [(0, .arr 39 3 (p.2.map fun x => [i64 x.p, i64 x.d, oTerms x.ts]))]⟩)
    (fun p => p.1 ≤ xs.length ∧ p.2 = markPS (xs.take p.1) k ++ xs.drop p.1) (fun p => xs.length - p.1) (0, xs) (by simp [markPS]) (by simp [szM, totalP]) ?_
  rintro ⟨i, zs⟩ ⟨hi, hz⟩
  simp only at hi hz
  have hzl : zs.length = xs.length := by rw [hz]; simp [markPS_length]; omega
  refine S 12 _ _ ?_
  simp
  refine ⟨fun hlt => ?_, fun hge => ?_⟩
  · obtain ⟨x, hx⟩ : ∃ x, xs[i]? = some x := ⟨xs[i]'(by omega), by simp⟩
    have hzx : zs[i]? = some x := by
      rw [hz, List.getElem?_append_right (by rw [markPS_length]; simp; omega), markPS_length, drop_cons hx]
      simp [show i - min i xs.length = 0 by omega]
    have hlz : i < zs.length := by omega
    have ht := szM_take hx
    have hle := szM_le xs (i + 1)
    have hle0 := szM_le xs i
    generalize hs : szM (xs.take i) = s at ht hle0
    have w1 : IntKind.i64.wrap (k + s + 1) = k + s + 1 := wrap64 (by omega) (by omega)
    have w2 : IntKind.i64.wrap (k + s + 1 + 1) = k + s + 2 := by rw [wrap64] <;> omega
    have c1 := markTermS_ok x.ts (k + s + 2) (by have := hr x (List.mem_of_getElem? hx); omega) (by omega) (by omega)
    refine J.out (F := ⟨Go.Proofs.Try.prog, tab, [], 34, [.tmp 4]⟩) (r := ⟨.one (i64 (k + szM xs)), [(0, oPolys (markPS xs k))]⟩) (fn := Go.Proofs.Try.f26) hw
      (ky := 0) (K := 64011) (i := i) (j := 2) (e := 39) (z := 3) (xs := zs.map fun x => [i64 x.p, i64 x.d, oTerms x.ts]) (E := [i64 x.p, i64 x.d, oTerms x.ts]) (e' := 108) (z' := 4) (ys := terms x.ts)
      (by simp) (by simp [hzx]) (by simp) (by simp) (by simp) (by omega) (by simp) (by simp) (by simp) ?_
    intro c
    have S' := @vc_sound (w0.named 64011 c) _ hF ⟨.one (i64 (k + szM xs)), [(0, oPolys (markPS xs k))]⟩ Go.Proofs.Try.f26 rfl (by
      intro p hp
      have := hfix p hp
      simp at hp
      subst hp
      simpa [Base.named] using this)
    refine S' 60 _ _ ?_
    simp [hlz, w1, w2]
    refine Later.mk (CallW.name (by simp) ?_)
    refine CallW.mut c1 (by decide) (by simp) (by simp) (by simp) (by simp) (by simp) (by simp) ?_
    simp
    refine J.in (ky := 0) (K := 64011) (i := i) (j := 2) (e := 39) (z := 3) (xs := (zs.map fun x => [i64 x.p, i64 x.d, oTerms x.ts]).set i [i64 (k + s), i64 (k + s + 1), .v c]) (E := [i64 (k + s), i64 (k + s + 1), .v c]) (e' := 108) (z' := 4) (ys := terms (markTs x.ts.length (k + s + 2)))
      (by simp) (by simp) (by simp [hlz]) (by simp) (by simp) (by simp) ?_
    refine S' 60 _ _ ?_
    simp
    refine Nxt.mk (i + 1, zs.set i ⟨k + s, k + s + 1, markTs x.ts.length (k + s + 2)⟩) ⟨by show i + 1 ≤ _; omega, ?_⟩ (by simp [wrapS (i := i) (n := xs.length) (by omega) (by omega), ht, List.map_set]; omega) (by show xs.length - (i + 1) < xs.length - i; omega)
    show zs.set i _ = markPS (xs.take (i + 1)) k ++ xs.drop (i + 1)
    have hlen : (markPS (xs.take i) k).length = i := by rw [markPS_length]; simp; omega
    rw [hz, List.set_append, if_neg (by omega), hlen, Nat.sub_self, drop_cons hx, List.set_cons_zero, List.take_add_one, hx]
    simp only [Option.toList]
    rw [markPS_append, hs]
    simp [markPS]
  · have : i = xs.length := by omega
    subst this
    simp at hz
    subst hz
    refine S 60 _ _ ?_
    simp

end Go.Sm

namespace Go.Sm
open Go.RowKit

theorem valsR_small (xs : List Pl) (v : List Int) : (valsR xs v).1.length ≤ 8 := by
  unfold valsR
  split
  · split
    · rename_i h
      rw [show ((valsP v xs, (0 : Int)).1) = valsP v xs from rfl, valsP_length]
      exact h.1.1
    · simp
  · simp

set_option maxHeartbeats 1000000 in
set_option maxRecDepth 4000 in
theorem FnExactValuesOf_ok (xs : List Pl) (hb : xs.length ≤ maxLen ∧ ∀ y ∈ xs, y.ts.length ≤ maxLen) (v : List Int) (hv0 : v.length ≤ maxLen) : CallOK Go.Proofs.Try.prog 4 [.one (vPolys xs), .one (vInts v)] (.one (bo true)) := by
  have hF := fnOk 117 [.tmp 4]
  refine callOK hF 60 Go.Proofs.Try.func4 rfl rfl rfl (by decide) (by simp) rfl ?_
  intro w0 hw
  have S := @vc_sound w0 _ hF ⟨(.one (bo true)), []⟩ Go.Proofs.Try.f4 rfl (by simp)
  have hm : maxLen = 9223372036854775807 := rfl
  have c0 := szPolyS_ok xs 1048576 (by omega) (by omega) hb.1 hb.2
  by_cases hv : v.length ≤ 1048576
  · have hv' : ¬ (1048576 : Int) < v.length := by omega
    by_cases hs : (1048576 : Int) - xs.length - totalP xs < 0
    · have e : szP 1048576 xs = -1 := if_pos hs
      rw [e] at c0
      simp [hv']
      refine CallW.ok (by decide) (by simp) c0 (by simp) (S 60 _ _ ?_)
      simp
    · have e : szP 1048576 xs = 1048576 - xs.length - totalP xs := if_neg hs
      rw [e] at c0
      have hl : xs.length ≤ 1048576 := by omega
      have hr : ∀ x ∈ xs, x.ts.length ≤ 1048576 := fun x hx => by have := len_totalP hx; omega
      have c1 := toPolyS_ok xs hl hr
      have c2 := toInt64S_ok v hv
      have c3 := specValuesOf_ok xs v hl hr hv
      have c4 := ValuesOf_ok xs v hl hr hv
      have hR := valsR_small xs v
      generalize valsR xs v = r at c3 c4 hR
      obtain ⟨ys, er⟩ := r
      simp only at c3 c4 hR
      have c5 := eqInt64S_ok ys ys (by omega)
      rw [decide_eq_true rfl] at c5
      have c6 := eqPolyS_ok xs hl hr
      have c7 := eqInt64S_ok v v (by omega)
      rw [decide_eq_true rfl] at c7
      have hM : 0 ≤ szM xs ∧ szM xs ≤ 10000000 := by unfold szM; omega
      have c8 := markPolyS_ok xs 1 hl hr (by omega) (by omega)
      generalize szM xs = M at c8 hM
      have c9 := markInt64S_ok v (1 + M) (by omega) (by omega) (by omega)
      have c10 := markInt64S_ok ys 1 (by omega) (by omega) (by omega)
      have hml := markL_length ys.length 1
      have c11 := heldInt64S_ok (markL ys.length 1) 1 (by rw [hml]) (by omega) (by omega) (by omega)
      rw [hml] at c11
      simp [hv']
      refine CallW.ok (by decide) (by simp) c0 (by simp) (S 60 _ _ ?_)
      simp
      refine fun _ => ?_
      refine CallW.ok (by decide) (by simp) c1 (by simp) (S 60 _ _ ?_)
      simp
      refine CallW.ok (by decide) (by simp) c2 (by simp) (S 60 _ _ ?_)
      simp
      refine CallW.ok (by decide) (by simp) c3 (by simp) (S 60 _ _ ?_)
      simp
      refine CallW.ok (by decide) (by simp) c1 (by simp) (S 60 _ _ ?_)
      simp
      refine CallW.ok (by decide) (by simp) c2 (by simp) (S 60 _ _ ?_)
      simp
      refine CallW.ok (by decide) (by simp) c4 (by simp) (S 60 _ _ ?_)
      simp
      refine CallW.ok (by decide) (by simp) c5 (by simp) (S 60 _ _ ?_)
      simp
      refine CallW.ok (by decide) (by simp) c1 (by simp) (S 60 _ _ ?_)
      simp
      refine CallW.ok (by decide) (by simp) c6 (by simp) (S 60 _ _ ?_)
      simp
      refine CallW.ok (by decide) (by simp) c2 (by simp) (S 60 _ _ ?_)
      simp
      refine CallW.ok (by decide) (by simp) c7 (by simp) (S 60 _ _ ?_)
      simp
      refine CallW.mut c8 (by decide) (by simp) (by simp) (by simp) (by simp) (by simp) (by simp) (S 60 _ _ ?_)
      simp
      refine CallW.mut c9 (by decide) (by simp) (by simp) (by simp) (by simp) (by simp) (by simp) (S 60 _ _ ?_)
      simp
      refine ⟨fun _ => ?_, show (0 : Int) ≤ 1 + M + v.length by omega⟩
      refine CallW.ok (by decide) (by simp) c5 (by simp) (S 60 _ _ ?_)
      simp
      refine CallW.mut c10 (by decide) (by simp) (by simp) (by simp) (by simp) (by simp) (by simp) (S 60 _ _ ?_)
      simp
      refine CallW.ok (by decide) (by simp) c11 (by simp) (S 60 _ _ ?_)
      simp
      refine ⟨show (0 : Int) ≤ 1 + ys.length by omega, fun _ => ?_⟩
      refine CallW.ok (by decide) (by simp) c1 (by simp) (S 60 _ _ ?_)
      simp
      refine CallW.ok (by decide) (by simp) c2 (by simp) (S 60 _ _ ?_)
      simp
      refine CallW.ok (by decide) (by simp) c4 (by simp) (S 60 _ _ ?_)
      simp
      refine CallW.ok (by decide) (by simp) c5 (by simp) (S 60 _ _ ?_)
      simp
      refine CallW.ok (by decide) (by simp) c11 (by simp) (S 60 _ _ ?_)
      simp
      exact show (0 : Int) ≤ 1 + ys.length by omega
  · simp [show (1048576 : Int) < v.length by omega]

end Go.Sm
