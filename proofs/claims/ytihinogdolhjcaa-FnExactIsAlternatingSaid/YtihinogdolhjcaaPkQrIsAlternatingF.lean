/- Towards FnExactIsAlternatingSaid: the program's function returns what the reference's returns. Part 6 of 7. -/
import Derived.Test.YtihinogdolhjcaaPkQrIsAlternatingA
import Derived.Test.YtihinogdolhjcaaPkQrIsAlternatingB
import Derived.Test.YtihinogdolhjcaaPkQrIsAlternatingC
import Derived.Test.YtihinogdolhjcaaPkQrIsAlternatingD
import Derived.Test.YtihinogdolhjcaaPkQrIsAlternatingE
namespace Go.Sm
open Go.RowKit

/-- Exponents with those of two letters exchanged. -/
def swE (i k : Nat) (e : Ex) : Ex := if i = 1 ∧ k = 0 then ⟨e.b, e.a, e.c⟩ else if i = 2 ∧ k = 0 then ⟨e.c, e.b, e.a⟩ else if i = 2 ∧ k = 1 then ⟨e.a, e.c, e.b⟩ else e
theorem swE_swE (i k : Nat) (e : Ex) : swE i k (swE i k e) = e := by
  unfold swE
  by_cases h1 : i = 1 ∧ k = 0
  · simp [h1]
  · by_cases h2 : i = 2 ∧ k = 0
    · simp [h2]
    · by_cases h3 : i = 2 ∧ k = 1
      · simp [h3]
      · simp [h1, h2, h3]

theorem sw10 (e : Ex) : swE 1 0 e = ⟨e.b, e.a, e.c⟩ := rfl
theorem sw20 (e : Ex) : swE 2 0 e = ⟨e.c, e.b, e.a⟩ := rfl
theorem sw21 (e : Ex) : swE 2 1 e = ⟨e.a, e.c, e.b⟩ := rfl

/-- Terms with their monomials changed. -/
def exT (p : Int) (f : Ex → Ex) (ts : List Tm) : List Tm := ts.foldl (fun o t => putT p o (f t.e) t.v) []
def exS (f : Ex → Ex) (ts : List Tm) : List (Ex × Int) := ts.foldl (fun o t => sput o (f t.e) t.v) []
theorem exT_snoc (p : Int) (f : Ex → Ex) (ts : List Tm) (t : Tm) : exT p f (ts ++ [t]) = putT p (exT p f ts) (f t.e) t.v := by simp [exT]
theorem exS_snoc (f : Ex → Ex) (ts : List Tm) (t : Tm) : exS f (ts ++ [t]) = sput (exS f ts) (f t.e) t.v := by simp [exS]

theorem exT_ok {p : Int} (hp : 0 < p) {f : Ex → Ex} (hf : ∀ e, f (f e) = e) : ∀ ts : List Tm, (ts.map (·.e)).Nodup → (∀ t ∈ ts, 1 ≤ t.v ∧ t.v < p) →
    Can p (exT p f ts) ∧ (exT p f ts).length ≤ ts.length ∧ ∀ e, coef (exT p f ts) e = coef ts (f e) := by
  intro ts
  induction ts using snocInd with
  | nil => intro _ _; exact ⟨can_nil p, by simp [exT], fun e => by simp [exT, coef]⟩
  | snoc ts t ih =>
    intro hn hv
    have hn' : (ts.map (·.e)).Nodup := by rw [List.map_append, List.nodup_append] at hn; exact hn.1
    obtain ⟨h1, h2, h3⟩ := ih hn' fun u hu => hv u (by simp [hu])
    have ht := hv t (by simp)
    rw [exT_snoc]
    obtain ⟨k1, k2⟩ := putT_can hp h1 (f t.e) t.v
    have := putT_length p (exT p f ts) (f t.e) t.v
    refine ⟨k1, by simp; omega, fun e => ?_⟩
    rw [k2, h3, hf, coef_snoc hn, coef_last_none hn, h3]
    by_cases he : e = f t.e
    · rw [if_pos he, he, hf, if_pos rfl, Int.add_zero]
      exact Int.emod_eq_of_lt (by omega) ht.2
    · rw [if_neg he, if_neg (fun q => he (by rw [← q, hf]))]
theorem exS_ok {f : Ex → Ex} (hf : ∀ e, f (f e) = e) : ∀ ts : List Tm, (ts.map (·.e)).Nodup →
    ((exS f ts).map (·.1)).Nodup ∧ (exS f ts).length ≤ ts.length ∧ ∀ e, sget (exS f ts) e = coef ts (f e) := by
  intro ts
  induction ts using snocInd with
  | nil => intro _; exact ⟨by simp [exS], by simp [exS], fun e => by simp [exS, sget, coef]⟩
  | snoc ts t ih =>
    intro hn
    have hn' : (ts.map (·.e)).Nodup := by rw [List.map_append, List.nodup_append] at hn; exact hn.1
    obtain ⟨h1, h2, h3⟩ := ih hn'
    rw [exS_snoc]
    have := sput_length (exS f ts) (f t.e) t.v
    refine ⟨sput_nodup h1 _ _, by simp; omega, fun e => ?_⟩
    rw [sget_sput, h3, coef_snoc hn]
    by_cases he : e = f t.e
    · rw [if_pos he, he, hf, if_pos rfl]
    · rw [if_neg he, if_neg (fun q => he (by rw [← q, hf]))]
theorem ex_eq {p : Int} (hp : 0 < p) {f : Ex → Ex} (hf : ∀ e, f (f e) = e) {ts : List Tm} (ht : Can p ts) : ofSum p (exS f ts) = exT p f ts := by
  obtain ⟨a1, _, a3⟩ := exS_ok hf ts (asc_nodup ht.1)
  obtain ⟨b1, _, b3⟩ := exT_ok hp hf ts (asc_nodup ht.1) ht.2
  obtain ⟨k1, k2⟩ := ofSum_can hp a1
  refine can_ext k1 b1 fun e => ?_
  have := coef_bound hp ht (f e)
  rw [k2, a3, b3]
  exact Int.emod_eq_of_lt this.1 this.2

set_option maxHeartbeats 1000000 in
set_option maxRecDepth 4000 in
theorem exchanged_ok (p d : Int) (ts : List Tm) (i k : Nat) (hik : k < i ∧ i ≤ 2) (hp : 0 < p) (hp2 : p ≤ 13) (ht : Can p ts) (hl : ts.length ≤ 1000) : CallOK Go.Proofs.Try.prog 140 [pv p d ts, .one (i64 i), .one (i64 k)] (po p d (exT p (swE i k) ts)) := by
  have hF := fnOk 42 [.cell 6 39]
  refine callOK hF 60 Go.Proofs.Try.func140 rfl rfl rfl (by decide) (by simp) rfl ?_
  intro w0 hw
  have S := @vc_sound w0 _ hF ⟨(po p d (exT p (swE i k) ts)), []⟩ Go.Proofs.Try.f140 rfl (by simp)
  obtain ⟨a1, a2, a3⟩ := exS_ok (swE_swE i k) ts (asc_nodup ht.1)
  have hpl := poly_ok p d (exS (swE i k) ts) (by omega) a1 hp (by omega)
  rw [ex_eq hp (swE_swE i k) ht] at hpl
  simp
  refine J.loop hw (fun n : Nat => ⟨[(1, .c (.d (i64 i))), (2, .c (.d (i64 k))), (3, .c (.ref 64003 0)), (6, .c (.ref 64006 0)), (7, .c (.ob 64008)), (13, .c (.d (vTerms ts))), (14, .c (.d (i64 ts.length))), (15, .c (.d (i64 n)))],
      [(64003, .var [.d (i64 p), .d (i64 d), .d (vTerms ts)]), (64006, .var [.d (i64 0), .d (i64 0), .ob 64007]), (64007, .arr 108 4 []), (64008, .mp (sumM (exS (swE i k) (ts.take n))))]⟩)
    (fun n => n ≤ ts.length) (fun n => ts.length - n) 0 (by simp) (by simp [exS]) ?_
  intro n hn
  refine S 8 _ _ ?_
  simp
  refine ⟨fun hlt => ?_, fun hge => ?_⟩
  · refine S 6 _ _ ?_
    simp
    refine ⟨hlt, fun b hb => ?_⟩
    have hb0 := ht.2 b (List.mem_of_getElem? hb)
    have hnext : exS (swE i k) (ts.take (n + 1)) = sput (exS (swE i k) (ts.take n)) (swE i k b.e) b.v := by rw [List.take_add_one, hb]; exact exS_snoc _ _ _
    generalize exS (swE i k) (ts.take n) = l at hnext ⊢
    have hput := mpPut_sum l (swE i k b.e) b.v
    have hc : (i = 1 ∧ k = 0) ∨ (i = 2 ∧ k = 0) ∨ (i = 2 ∧ k = 1) := by omega
    refine S 60 _ _ ?_
    rcases hc with ⟨rfl, rfl⟩ | ⟨rfl, rfl⟩ | ⟨rfl, rfl⟩ <;> simp only [sw10, sw20, sw21, exK] at hput hnext <;> simp
    all_goals
      refine J.dr3 hF mixed 10 [[], [], [], [2], [2, 3], [], [5], [5, 6], [0, 2, 3, 4, 5, 6, 7], [0, 2, 3, 4, 5, 6, 7, 8], [0, 1, 2, 3, 4, 5, 6, 7, 8, 9], [0, 1, 2, 3, 4, 5, 6, 7, 8, 9, 10]] [[21, 22, 23, 24, 25, 26, 27, 28, 29], [21, 22, 23, 24, 25, 26, 27, 28, 29], [21, 22, 23, 24, 25, 26, 27, 28, 29], [21, 22, 24, 25, 26, 27, 28, 29], [21, 22, 25, 26, 27, 28, 29], [21, 22, 23, 24, 25, 26, 27, 28, 29], [21, 22, 23, 24, 25, 27, 28, 29], [21, 22, 23, 24, 25, 28, 29], [22, 29], [22]] [[], [], [], [], [], [], [], [], [], [640]] [[], [640], [], [], [], [], [], [], [], []] [] [] (by decide) ?_
      simp
      refine S 60 _ _ ?_
      simp [hput]
      exact Nxt.mk (n + 1) (by omega) (by simp [hnext, wrapS (i := n) (n := ts.length) hlt (by omega)]) (by omega)
  · have e1 : ts.take n = ts := List.take_of_length_le hge
    rw [e1]
    refine S 60 _ _ ?_
    simp
    refine CallW.ok (by decide) (by simp) hpl (by simp) (S 60 _ _ ?_)
    simp

set_option maxHeartbeats 1000000 in
set_option maxRecDepth 4000 in
theorem l08Exchange_ok (p d : Int) (ts : List Tm) (k : Nat) (hk : k ≤ 1) (hp : 0 < p) (hp2 : p ≤ 13) (ht : Can p ts) (hl : ts.length ≤ 1000) : CallOK Go.Proofs.Try.prog 134 [pv p d ts, .one (i64 k), .one (i64 ((k : Int) + 1))] (po p d (exT p (swE (k + 1) k) ts)) := by
  have hF := fnOk 52 [.cell 6 39]
  refine callOK hF 60 Go.Proofs.Try.func134 rfl rfl rfl (by decide) (by simp) rfl ?_
  intro w0 hw
  have S := @vc_sound w0 _ hF ⟨(po p d (exT p (swE (k + 1) k) ts)), []⟩ Go.Proofs.Try.f134 rfl (by simp)
  have c1 := l01Empty_ok p d
  simp
  refine CallW.ok (by decide) (by simp) c1 (by simp) (S 60 _ _ ?_)
  simp
  refine J.loop hw (fun n : Nat => ⟨[(1, .c (.d (i64 k))), (2, .c (.d (i64 ((k : Int) + 1)))), (3, .c (.ref 64003 0)), (6, .c (.ref 64006 0)), (7, .c (.ref 64008 0)), (8, .c (.d (i64 n)))],
      [(64003, .var [.d (i64 p), .d (i64 d), .d (vTerms ts)]), (64006, .var [.d (i64 0), .d (i64 0), .ob 64007]), (64007, .arr 108 4 []), (64008, .var [.d (i64 p), .d (i64 d), .ob 64009]), (64009, .arr 108 4 (terms (exT p (swE (k + 1) k) (ts.take n))))]⟩)
    (fun n => n ≤ ts.length) (fun n => ts.length - n) 0 (by simp) (by simp [exT]) ?_
  intro n hn
  refine S 12 _ _ ?_
  simp
  refine ⟨fun hlt => ?_, fun hge => ?_⟩
  · obtain ⟨b, hb⟩ : ∃ b, ts[n]? = some b := ⟨ts[n], List.getElem?_eq_getElem hlt⟩
    have hb0 := ht.2 b (List.mem_of_getElem? hb)
    obtain ⟨q1, q2, _⟩ := exT_ok hp (swE_swE (k + 1) k) (ts.take n) (by rw [List.map_take]; exact (asc_nodup ht.1).sublist (List.take_sublist _ _)) fun t h => ht.2 t (List.mem_of_mem_take h)
    have hnext : exT p (swE (k + 1) k) (ts.take (n + 1)) = putT p (exT p (swE (k + 1) k) (ts.take n)) (swE (k + 1) k b.e) b.v := by rw [List.take_add_one, hb]; exact exT_snoc _ _ _ _
    rw [List.length_take] at q2
    generalize exT p (swE (k + 1) k) (ts.take n) = r at q1 q2 hnext ⊢
    have hcb := coef_bound hp q1 (swE (k + 1) k b.e)
    have c2 := l01Put_ok p d r (swE (k + 1) k b.e) b.v (by omega) hp (by omega) (by omega) (by omega)
    refine S 60 _ _ ?_
    simp
    refine J.dr3 hF mixed 14 [[], [0], [], [0, 1, 2], [0, 1, 2, 3], [0, 1, 2, 3, 4], [], [6], [], [6, 7, 8], [6, 7, 8, 9], [], [], [0, 1, 2, 3, 4, 5, 11, 12], [0, 1, 2, 3, 4, 5, 6, 7, 8, 9, 10, 11, 12, 13]] [[23, 24, 25, 26, 27, 28, 29, 30, 31, 32, 33, 9, 10], [24, 25, 26, 27, 28, 29, 30, 31, 32, 33, 9, 10], [23, 24, 25, 26, 27, 28, 29, 30, 31, 32, 33, 9, 10], [26, 27, 28, 29, 30, 31, 32, 33, 9, 10], [27, 28, 29, 30, 31, 32, 33, 9, 10], [28, 29, 30, 31, 32, 33, 9, 10], [23, 24, 25, 26, 27, 28, 29, 30, 31, 32, 33, 9, 10], [23, 24, 25, 26, 27, 28, 30, 31, 32, 33, 9, 10], [23, 24, 25, 26, 27, 28, 29, 30, 31, 32, 33, 9, 10], [23, 24, 25, 26, 27, 28, 32, 33, 9, 10], [23, 24, 25, 26, 27, 28, 33, 9, 10], [23, 24, 25, 26, 27, 28, 29, 30, 31, 32, 33, 9, 10], [23, 24, 25, 26, 27, 28, 29, 30, 31, 32, 33, 9, 10], [29, 30, 31, 32, 33]] [[], [], [], [], [], [], [], [], [], [], [], [], [], [576]] [[], [], [], [], [], [], [576], [576], [576], [576], [576], [], [], []] [] [] (by decide) ?_
    rw [← List.take_append_drop 5 (List.take _ _)]
    generalize htl : List.drop 5 (List.take _ _) = tl
    simp
    refine ⟨hlt, fun x hx => ?_⟩
    obtain rfl : b = x := Option.some.inj (hb.symm.trans hx)
    subst htl
    rw [← List.take_append_drop 5 (List.drop 5 _)]
    generalize htl : List.drop 5 (List.drop 5 _) = tl
    simp
    refine ⟨hlt, fun x hx => ?_⟩
    obtain rfl : b = x := Option.some.inj (hb.symm.trans hx)
    subst htl
    simp
    refine S 60 _ _ ?_
    have hk' : k = 0 ∨ k = 1 := by omega
    rcases hk' with rfl | rfl <;> simp only [Nat.zero_add, Nat.reduceAdd, sw10, sw20, sw21] at c2 hnext <;> simp
    all_goals
      refine CallW.ok (by decide) (by simp) c2 (by simp) (S 60 _ _ ?_)
      simp
      exact Nxt.mk (n + 1) (by omega) (by simp [hnext, wrapS (i := n) (n := ts.length) hlt (by omega)]) (by omega)
  · have e1 : ts.take n = ts := List.take_of_length_le hge
    rw [e1]
    refine S 60 _ _ ?_
    simp

theorem alike_ok (p d p' d' : Int) (ts us : List Tm) : CallOK Go.Proofs.Try.prog 114 [pv p d ts, pv p' d' us] (.one (bo (decide (p = p' ∧ d = d')))) := by
  have hF := fnOk 17 [.tmp 4]
  refine callOK hF 60 Go.Proofs.Try.func114 rfl rfl rfl (by decide) (by simp) rfl ?_
  intro w0 hw
  have S := @vc_sound w0 _ hF ⟨(.one (bo (decide (p = p' ∧ d = d')))), []⟩ Go.Proofs.Try.f114 rfl (by simp)
  by_cases h : p = p'
  · by_cases h2 : d = d'
    · simp [h, h2]
    · simp [h, h2]
  · simp [h]

theorem sameTerms_ok (xs ys : List Tm) (hl : xs.length ≤ 2000000) : CallOK Go.Proofs.Try.prog 157 [.one (vTerms xs), .one (vTerms ys)] (.one (bo (decide (xs = ys)))) := by
  have hF := fnOk 26 [.tmp 4]
  refine callOK hF 60 Go.Proofs.Try.func157 rfl rfl rfl (by decide) (by simp) rfl ?_
  intro w0 hw
  have S := @vc_sound w0 _ hF ⟨(.one (bo (decide (xs = ys)))), []⟩ Go.Proofs.Try.f157 rfl (by simp)
  simp
  refine ⟨fun hne e => hne (by rw [e]), fun he => ?_⟩
  refine J.loop hw (fun i : Nat => ⟨[(0, .c (.d (vTerms xs))), (1, .c (.d (vTerms ys))), (12, .c (.d (i64 xs.length))), (13, .c (.d (i64 i)))], []⟩)
    (fun i => i ≤ xs.length ∧ xs.take i = ys.take i) (fun i => xs.length - i) 0 (by simp) (by simp) ?_
  rintro i ⟨hi, ht⟩
  refine S 8 _ _ ?_
  simp
  refine ⟨fun hlt => ?_, fun hge => ?_⟩
  · refine S 60 _ _ ?_
    simp
    refine J.dr hF mixed 8 [[], [], [0, 1], [0, 1, 2], [], [], [4, 5], [4, 5, 6], [0, 1, 2, 3, 4, 5, 6, 7]] [[16, 17, 18, 19, 20, 21, 22, 23], [16, 17, 18, 19, 20, 21, 22, 23], [18, 19, 20, 21, 22, 23], [19, 20, 21, 22, 23], [16, 17, 18, 19, 20, 21, 22, 23], [16, 17, 18, 19, 20, 21, 22, 23], [16, 17, 18, 19, 22, 23], [16, 17, 18, 19, 23]] (by decide) ?_
    simp
    refine ⟨hlt, fun a ha => ⟨by omega, fun b hb => ?_⟩⟩
    refine S 60 _ _ ?_
    simp
    refine ⟨fun hne e => ?_, fun h1 h2 h3 h4 => ?_⟩
    · subst e
      rw [ha] at hb
      obtain rfl := Option.some.inj hb
      simp at hne
    · have hab : a = b := by
        obtain ⟨⟨_, _, _⟩, _⟩ := a
        obtain ⟨⟨_, _, _⟩, _⟩ := b
        simp_all
      subst hab
      refine Nxt.mk (i + 1) ⟨hlt, ?_⟩ (by simp [wrapS (i := i) (n := xs.length) hlt (by omega)]) (by omega)
      rw [List.take_add_one, List.take_add_one, ht, ha, hb]
  · refine S 60 _ _ ?_
    simp
    have h1 : xs = xs.take i := by rw [List.take_of_length_le (by omega)]
    have h2 : ys = ys.take i := by rw [List.take_of_length_le (by omega)]
    rw [h1, h2, ht]

theorem samePoly_ok (p d p' d' : Int) (ts us : List Tm) (hl : ts.length ≤ 2000000) : CallOK Go.Proofs.Try.prog 139 [pv p d ts, pv p' d' us] (.one (bo (decide ((p = p' ∧ d = d') ∧ ts = us)))) := by
  have hF := fnOk 15 [.tmp 4]
  refine callOK hF 60 Go.Proofs.Try.func139 rfl rfl rfl (by decide) (by simp) rfl ?_
  intro w0 hw
  have S := @vc_sound w0 _ hF ⟨(.one (bo (decide ((p = p' ∧ d = d') ∧ ts = us)))), []⟩ Go.Proofs.Try.f139 rfl (by simp)
  have c1 := alike_ok p d p' d' ts us
  have c2 := sameTerms_ok ts us hl
  by_cases h : p = p' ∧ d = d'
  · rw [decide_eq_true h] at c1
    have e : decide ((p = p' ∧ d = d') ∧ ts = us) = decide (ts = us) := by simp [h]
    rw [e] at S ⊢
    simp
    refine CallW.ok (by decide) (by simp) c1 (by simp) (S 60 _ _ ?_)
    simp
    refine CallW.ok (by decide) (by simp) c2 (by simp) (S 60 _ _ ?_)
    simp
  · rw [decide_eq_false h] at c1
    have e : decide ((p = p' ∧ d = d') ∧ ts = us) = false := by simp [h]
    rw [e] at S ⊢
    simp
    refine CallW.ok (by decide) (by simp) c1 (by simp) (S 60 _ _ ?_)
    simp

theorem l01Scale_ok (p d k : Int) (ts : List Tm) (hp : 0 < p) (hp2 : p ≤ 13) (ht : Can p ts) (hl : ts.length ≤ 1000) (hk : -13 ≤ k) (hk2 : k ≤ 13) : CallOK Go.Proofs.Try.prog 135 [pv p d ts, .one (i64 k)] (po p d (plusT p [] ts k)) := by
  have hF := fnOk 13 [.cell 4 39]
  refine callOK hF 60 Go.Proofs.Try.func135 rfl rfl rfl (by decide) (by simp) rfl ?_
  intro w0 hw
  have S := @vc_sound w0 _ hF ⟨(po p d (plusT p [] ts k)), []⟩ Go.Proofs.Try.f135 rfl (by simp)
  have c1 := l01Empty_ok p d
  have c2 := l01Plus_ok p d p d k [] ts hp hp2 (can_nil p) ht (by simp) hl hk hk2
  simp
  refine J.dr hF mixed 7 [[], [0], [], [2], [0, 1, 2, 3], [], [], [0, 1, 2, 3, 4, 5, 6], [0, 1, 2, 3, 4, 5, 6, 7]] [[5, 6, 7, 8, 9, 10, 11], [6, 7, 8, 9, 10, 11], [5, 6, 7, 8, 9, 10, 11], [5, 6, 8, 9, 10, 11], [9, 10, 11], [5, 6, 7, 8, 9, 10, 11], [5, 6, 7, 8, 9, 10, 11]] (by decide) ?_
  simp
  refine DrC.ok hF (by rfl) (by simp) c1 (by simp) (by simp) ?_
  simp
  refine S 60 _ _ ?_
  simp
  refine CallW.ok (by decide) (by simp) c2 (by simp) (S 60 _ _ ?_)
  simp

theorem l01Same_ok (p d p' d' : Int) (xs ys : List Tm) (hl : xs.length ≤ 2000000) : CallOK Go.Proofs.Try.prog 133 [pv p d xs, pv p' d' ys] (.one (bo (decide (xs = ys)))) := by
  have hF := fnOk 31 [.tmp 4]
  refine callOK hF 60 Go.Proofs.Try.func133 rfl rfl rfl (by decide) (by simp) rfl ?_
  intro w0 hw
  have S := @vc_sound w0 _ hF ⟨(.one (bo (decide (xs = ys)))), []⟩ Go.Proofs.Try.f133 rfl (by simp)
  simp
  refine ⟨fun hne e => hne (by rw [e]), fun he => ?_⟩
  refine J.loop hw (fun i : Nat => ⟨[(2, .c (.ref 64002 0)), (3, .c (.ref 64003 0)), (5, .c (.d (i64 i)))], [(64002, .var [.d (i64 p), .d (i64 d), .d (vTerms xs)]), (64003, .var [.d (i64 p'), .d (i64 d'), .d (vTerms ys)])]⟩)
    (fun i => i ≤ xs.length ∧ xs.take i = ys.take i) (fun i => xs.length - i) 0 (by simp) (by simp) ?_
  rintro i ⟨hi, ht⟩
  refine S 12 _ _ ?_
  simp
  refine ⟨fun hlt => ?_, fun hge => ?_⟩
  · refine S 60 _ _ ?_
    simp
    refine J.dr hF mixed 10 [[], [0], [], [0, 1, 2], [0, 1, 2, 3], [], [5], [], [5, 6, 7], [5, 6, 7, 8], [0, 1, 2, 3, 4, 5, 6, 7, 8, 9]] [[20, 21, 22, 23, 24, 25, 26, 27, 28, 29], [21, 22, 23, 24, 25, 26, 27, 28, 29], [20, 21, 22, 23, 24, 25, 26, 27, 28, 29], [23, 24, 25, 26, 27, 28, 29], [24, 25, 26, 27, 28, 29], [20, 21, 22, 23, 24, 25, 26, 27, 28, 29], [20, 21, 22, 23, 24, 26, 27, 28, 29], [20, 21, 22, 23, 24, 25, 26, 27, 28, 29], [20, 21, 22, 23, 24, 28, 29], [20, 21, 22, 23, 24, 29]] (by decide) ?_
    simp
    refine ⟨hlt, fun a ha => ⟨by omega, fun b hb => ?_⟩⟩
    refine S 60 _ _ ?_
    simp
    refine ⟨fun hne e => ?_, fun h1 h2 h3 h4 => ?_⟩
    · subst e
      rw [ha] at hb
      obtain rfl := Option.some.inj hb
      simp at hne
    · have hab : a = b := by
        obtain ⟨⟨_, _, _⟩, _⟩ := a
        obtain ⟨⟨_, _, _⟩, _⟩ := b
        simp_all
      subst hab
      refine Nxt.mk (i + 1) ⟨hlt, ?_⟩ (by simp [wrapS (i := i) (n := xs.length) hlt (by omega)]) (by omega)
      rw [List.take_add_one, List.take_add_one, ht, ha, hb]
  · refine S 60 _ _ ?_
    simp
    have h1 : xs = xs.take i := by rw [List.take_of_length_le (by omega)]
    have h2 : ys = ys.take i := by rw [List.take_of_length_le (by omega)]
    rw [h1, h2, ht]

/-! ### each exchange makes a multiple -/
def Sgn (p n : Int) (ts : List Tm) (i k : Nat) : Prop := exT p (swE i k) ts = plusT p [] ts n
def SymP (p d n : Int) (ts : List Tm) : Prop := ∀ i k : Nat, k < i → (i : Int) < d → Sgn p n ts i k
noncomputable instance (p d n : Int) (ts : List Tm) : Decidable (SymP p d n ts) := Classical.propDecidable _
theorem scale_coef {p : Int} (hp : 0 < p) {ts : List Tm} (ht : Can p ts) (n : Int) : Can p (plusT p [] ts n) ∧ (plusT p [] ts n).length ≤ ts.length ∧ ∀ e, coef (plusT p [] ts n) e = n * coef ts e % p := by
  obtain ⟨h1, h2, h3⟩ := plusT_ok hp (can_nil p) n ts (asc_nodup ht.1)
  refine ⟨h1, by simpa using h2, fun e => ?_⟩
  rw [h3]; simp [coef]
theorem sgn_iff {p : Int} (hp : 0 < p) {ts : List Tm} (ht : Can p ts) (n : Int) (i k : Nat) : Sgn p n ts i k ↔ ∀ e, coef ts (swE i k e) = n * coef ts e % p := by
  obtain ⟨a1, _, a3⟩ := exT_ok hp (swE_swE i k) ts (asc_nodup ht.1) ht.2
  obtain ⟨b1, _, b3⟩ := scale_coef hp ht n
  constructor
  · intro h e
    rw [← a3, h, b3]
  · intro h
    exact can_ext a1 b1 fun e => by rw [a3, b3, h]
theorem sgn_20 {p : Int} (hp : 0 < p) {ts : List Tm} (ht : Can p ts) {n : Int} (hn : n = 1 ∨ n = p - 1) (h1 : Sgn p n ts 1 0) (h2 : Sgn p n ts 2 1) : Sgn p n ts 2 0 := by
  rw [sgn_iff hp ht] at *
  intro e
  have e1 : swE 2 0 e = swE 1 0 (swE 2 1 (swE 1 0 e)) := rfl
  rw [e1, h1, h2, h1]
  have hc := coef_bound hp ht e
  generalize coef ts e = c at *
  rcases hn with rfl | rfl
  · simp [Int.emod_emod_of_dvd]
  · have h3 : ∀ x : Int, (p - 1) * x % p = (-x) % p := fun x => by
      rw [Int.sub_mul, Int.one_mul, show p * x - x = -x + p * x by omega, Int.add_mul_emod_self_left]
    have h4 : ∀ c : Int, 0 ≤ c → c < p → (-c) % p = if c = 0 then 0 else p - c := fun c h0 h1 => by
      split
      · rename_i h; subst h; simp
      · rw [← Int.add_emod_right, Int.emod_eq_of_lt (by omega) (by omega)]; omega
    rw [h3, h3, h3, h4 c hc.1 hc.2]
    by_cases h0 : c = 0
    · simp [h0]
    · rw [if_neg h0, h4 (p - c) (by omega) (by omega), if_neg (by omega), show p - (p - c) = c by omega, h4 c hc.1 hc.2, if_neg h0]

set_option maxHeartbeats 1000000 in
set_option maxRecDepth 4000 in
theorem exchanges_ok (p d n : Int) (ts : List Tm) (hg : GoodP p d ts) (hn : n = 1 ∨ n = p - 1) : CallOK Go.Proofs.Try.prog 97 [pv p d ts, .one (i64 n)] (.one (bo (decide (SymP p d n ts)))) := by
  have hF := fnOk 34 [.tmp 4]
  refine callOK hF 60 Go.Proofs.Try.func97 rfl rfl rfl (by decide) (by simp) rfl ?_
  intro w0 hw
  have S := @vc_sound w0 _ hF ⟨(.one (bo (decide (SymP p d n ts)))), []⟩ Go.Proofs.Try.f97 rfl (by simp)
  have hp := hg.1.pos
  have hl := goodP_len hg
  have hcan := goodP_can hg
  obtain ⟨w1, w2, w3⟩ := scale_coef (p := p) (by omega) hcan n
  have c0 := zeroPoly_ok p d
  have c1 := add_ok p d p d n [] ts (by omega) (by omega) (can_nil p) hcan (by simp) (by omega) (by omega) (by omega)
  have hd := hg.2.1
  generalize hb : decide (SymP p d n ts) = b at S ⊢
  simp
  refine J.dr hF mixed 9 [[], [0], [], [2], [0, 1, 2, 3], [], [], [0, 1, 2, 3, 4, 5, 6], [], [0, 1, 2, 3, 4, 5, 6, 7, 8]] [[8, 9, 10, 11, 12, 13, 14, 15, 5], [9, 10, 11, 12, 13, 14, 15, 5], [8, 9, 10, 11, 12, 13, 14, 15, 5], [8, 9, 11, 12, 13, 14, 15, 5], [12, 13, 14, 15, 5], [8, 9, 10, 11, 12, 13, 14, 15, 5], [8, 9, 10, 11, 12, 13, 14, 15, 5], [15, 5], [8, 9, 10, 11, 12, 13, 14, 15, 5]] (by decide) ?_
  simp
  refine DrC.ok hF (by rfl) (by simp) c0 (by simp) (by simp) ?_
  simp
  refine DrC.ok hF (by rfl) (by simp) c1 (by simp) (by simp) ?_
  simp
  refine S 60 _ _ ?_
  simp
  obtain ⟨dn, rfl⟩ : ∃ m : Nat, d = m := ⟨d.toNat, by omega⟩
  have hSym : (∀ i k : Nat, k < i → i < dn → Sgn p n ts i k) → b = true := fun h => by
    rw [← hb]; simp
    exact fun i k h1 h2 => h i k h1 (by omega)
  have hNot : ∀ i k : Nat, k < i → i < dn → ¬ Sgn p n ts i k → b = false := fun i k h1 h2 h => by
    rw [← hb]; simp
    exact fun h' => h (h' i k h1 (by omega))
  clear hb
  have hunf : ∀ i k, Sgn p n ts i k ↔ exT p (swE i k) ts = plusT p [] ts n := fun _ _ => Iff.rfl
  generalize plusT p [] ts n = W at *
  refine J.loop hw (fun i : Nat => ⟨[(2, .c (.ref 64002 0)), (4, .c (.d (bo false))), (5, .c (.ref 64005 0)), (17, .c (.d (i64 dn))), (18, .c (.d (i64 i)))],
      [(64002, .var [.d (i64 p), .d (i64 dn), .d (vTerms ts)]), (64005, .var [.d (i64 p), .d (i64 dn), .ob 64006]), (64006, .arr 108 4 (terms W))]⟩)
    (fun i => i ≤ dn ∧ ∀ i' k : Nat, k < i' → i' < i → Sgn p n ts i' k) (fun i => dn - i) 0 (by simp) (by simp) ?_
  rintro i ⟨hi, hdone⟩
  refine S 8 _ _ ?_
  simp
  refine ⟨fun hlt => ?_, fun hge => ?_⟩
  · refine S 60 _ _ ?_
    simp
    refine J.loop hw (fun k : Nat => ⟨[(2, .c (.ref 64002 0)), (4, .c (.d (bo false))), (5, .c (.ref 64005 0)), (17, .c (.d (i64 dn))), (18, .c (.d (i64 i))), (6, .c (.d (i64 i))), (21, .c (.d (i64 i))), (22, .c (.d (i64 k)))],
        [(64002, .var [.d (i64 p), .d (i64 dn), .d (vTerms ts)]), (64005, .var [.d (i64 p), .d (i64 dn), .ob 64006]), (64006, .arr 108 4 (terms W))]⟩)
      (fun k => k ≤ i ∧ ∀ k' < k, Sgn p n ts i k') (fun k => i - k) 0 (by simp) (by simp) ?_
    rintro k ⟨hk, hkd⟩
    refine S 8 _ _ ?_
    simp
    refine ⟨fun hlt2 => ?_, fun hge2 => ?_⟩
    · have c2 := exchanged_ok p dn ts i k (by omega) (by omega) (by omega) hcan (by omega)
      obtain ⟨x1, x2, _⟩ := exT_ok (p := p) (by omega) (swE_swE i k) ts (asc_nodup hcan.1) hcan.2
      have c3 := samePoly_ok p dn p dn (exT p (swE i k) ts) W (by omega)
      refine S 60 _ _ ?_
      simp
      refine J.dr hF mixed 5 [[], [], [], [0, 1, 2], [], [0, 1, 2, 3, 4], [0, 1, 2, 3, 4, 5]] [[25, 26, 27, 28, 29], [25, 26, 27, 28, 29], [25, 26, 27, 28, 29], [28, 29], [25, 26, 27, 28, 29]] (by decide) ?_
      simp
      refine DrC.ok hF (by rfl) (by simp) c2 (by simp) (by simp) ?_
      simp
      by_cases hs : Sgn p n ts i k
      · have hs' := (hunf i k).1 hs
        rw [decide_eq_true ⟨⟨rfl, rfl⟩, hs'⟩] at c3
        refine S 60 _ _ ?_
        simp
        refine CallW.ok (by decide) (by simp) c3 (by simp) (S 60 _ _ ?_)
        simp
        refine Nxt.mk (k + 1) ⟨by omega, fun k' h => ?_⟩ (by simp; rw [wrap64] <;> omega) (by omega)
        by_cases e : k' = k
        · rw [e]; exact hs
        · exact hkd k' (by omega)
      · have hs' : ¬ ((p = p ∧ (dn : Int) = dn) ∧ exT p (swE i k) ts = W) := fun h => hs ((hunf i k).2 h.2)
        have hb2 := hNot i k hlt2 (by omega) hs
        rw [decide_eq_false hs'] at c3
        refine S 60 _ _ ?_
        simp
        refine CallW.ok (by decide) (by simp) c3 (by simp) (S 60 _ _ ?_)
        simp [hb2]
    · refine S 60 _ _ ?_
      simp
      refine Nxt.mk (i + 1) ⟨by omega, fun i' k' h1 h2 => ?_⟩ (by simp; rw [wrap64] <;> omega) (by omega)
      by_cases e : i' = i
      · rw [e] at h1 ⊢; exact hkd k' (by omega)
      · exact hdone i' k' h1 (by omega)
  · have hb2 := hSym fun i' k' h1 h2 => hdone i' k' h1 (by omega)
    refine S 60 _ _ ?_
    simp [hb2]

set_option maxHeartbeats 1000000 in
set_option maxRecDepth 4000 in
theorem l08Signed_ok (p d n : Int) (ts : List Tm) (hg : GoodP p d ts) (hn : n = 1 ∨ n = p - 1) : CallOK Go.Proofs.Try.prog 94 [pv p d ts, .one (i64 n)] (.one (bo (decide (SymP p d n ts)))) := by
  have hF := fnOk 23 [.tmp 4]
  refine callOK hF 60 Go.Proofs.Try.func94 rfl rfl rfl (by decide) (by simp) rfl ?_
  intro w0 hw
  have S := @vc_sound w0 _ hF ⟨(.one (bo (decide (SymP p d n ts)))), []⟩ Go.Proofs.Try.f94 rfl (by simp)
  have hp := hg.1.pos
  have hl := goodP_len hg
  have hcan := goodP_can hg
  obtain ⟨w1, w2, w3⟩ := scale_coef (p := p) (by omega) hcan n
  have c1 := l01Scale_ok p d n ts (by omega) (by omega) hcan (by omega) (by omega) (by omega)
  have hd := hg.2.1
  generalize hb : decide (SymP p d n ts) = b at S ⊢
  obtain ⟨dn, rfl⟩ : ∃ m : Nat, d = m := ⟨d.toNat, by omega⟩
  have hSym : (∀ k : Nat, k + 1 < dn → Sgn p n ts (k + 1) k) → b = true := fun h => by
    rw [← hb]; simp
    intro i k h1 h2
    have hc : (i = 1 ∧ k = 0) ∨ (i = 2 ∧ k = 0) ∨ (i = 2 ∧ k = 1) := by omega
    rcases hc with ⟨rfl, rfl⟩ | ⟨rfl, rfl⟩ | ⟨rfl, rfl⟩
    · exact h 0 (by omega)
    · exact sgn_20 (by omega) hcan hn (h 0 (by omega)) (h 1 (by omega))
    · exact h 1 (by omega)
  have hNot : ∀ k : Nat, k + 1 < dn → ¬ Sgn p n ts (k + 1) k → b = false := fun k h1 h => by
    rw [← hb]; simp
    exact fun h' => h (h' (k + 1) k (by omega) (by omega))
  clear hb
  have hunf : ∀ i k, Sgn p n ts i k ↔ exT p (swE i k) ts = plusT p [] ts n := fun _ _ => Iff.rfl
  generalize plusT p [] ts n = W at *
  simp
  refine J.loop hw (fun k : Nat => ⟨[(1, .c (.d (i64 n))), (2, .c (.ref 64002 0)), (4, .c (.d (bo false))), (5, .c (.d (i64 k)))], [(64002, .var [.d (i64 p), .d (i64 dn), .d (vTerms ts)])]⟩)
    (fun k => k + 1 ≤ dn ∧ ∀ k' < k, Sgn p n ts (k' + 1) k') (fun k => dn - k) 0 ⟨by omega, by simp⟩ (by simp) ?_
  rintro k ⟨hk, hdone⟩
  have hwk : IntKind.i64.wrap ((k : Int) + 1) = (k : Int) + 1 := wrap64 (by omega) (by omega)
  refine S 12 _ _ ?_
  simp [hwk]
  refine ⟨fun hlt => ?_, fun hge => ?_⟩
  · have c2 := l08Exchange_ok p dn ts k (by omega) (by omega) (by omega) hcan (by omega)
    obtain ⟨x1, x2, _⟩ := exT_ok (p := p) (by omega) (swE_swE (k + 1) k) ts (asc_nodup hcan.1) hcan.2
    have c3 := l01Same_ok p dn p dn (exT p (swE (k + 1) k) ts) W (by omega)
    refine S 60 _ _ ?_
    simp
    refine J.dr hF mixed 7 [[], [], [], [2], [0, 1, 2, 3], [], [], [0, 1, 2, 3, 4, 5, 6], [0, 1, 2, 3, 4, 5, 6, 7], [0, 1, 2, 3, 4, 5, 6, 7, 8]] [[13, 14, 15, 16, 17, 18, 19], [13, 14, 15, 16, 17, 18, 19], [13, 14, 15, 16, 17, 18, 19], [13, 14, 16, 17, 18, 19], [17, 18, 19], [13, 14, 15, 16, 17, 18, 19], [13, 14, 15, 16, 17, 18, 19]] (by decide) ?_
    simp [hwk]
    refine DrC.ok hF (by rfl) (by simp) c2 (by simp) (by simp) ?_
    simp
    refine S 60 _ _ ?_
    simp
    refine CallW.ok (by decide) (by simp) c1 (by simp) (S 60 _ _ ?_)
    simp
    by_cases hs : Sgn p n ts (k + 1) k
    · have hs' := (hunf (k + 1) k).1 hs
      rw [decide_eq_true hs'] at c3
      refine CallW.ok (by decide) (by simp) c3 (by simp) (S 60 _ _ ?_)
      simp
      refine Nxt.mk (k + 1) ⟨by omega, fun k' h => ?_⟩ (by simp [hwk]) (by omega)
      by_cases e : k' = k
      · rw [e]; exact hs
      · exact hdone k' (by omega)
    · have hs' : ¬ exT p (swE (k + 1) k) ts = W := fun h => hs ((hunf (k + 1) k).2 h)
      have hb2 := hNot k (by omega) hs
      rw [decide_eq_false hs'] at c3
      refine CallW.ok (by decide) (by simp) c3 (by simp) (S 60 _ _ ?_)
      simp [hb2]
  · have hb2 := hSym fun k' h1 => hdone k' (by omega)
    refine S 60 _ _ ?_
    simp [hb2]

/-! ### symmetric -/
noncomputable def symR (p d : Int) (ts : List Tm) : Bool × Int := if GoodP p d ts then (decide (SymP p d 1 ts), 0) else (false, 1)
theorem len_big {p d : Int} {ts : List Tm} (h : GoodP p d ts) : ts.length ≤ 1048576 := by have := goodP_len h; omega

theorem IsSymmetric_ok (p d : Int) (ts : List Tm) (hl : ts.length ≤ 1048576) : CallOK Go.Proofs.Try.prog 43 [pv p d ts] (.tup [(false, [bo (symR p d ts).1]), (false, [i64 (symR p d ts).2])]) := by
  have hF := fnOk 9 [.tmp 2, .tmp 3]
  refine callOK hF 60 Go.Proofs.Try.func43 rfl rfl rfl (by decide) (by simp) rfl ?_
  intro w0 hw
  have S := @vc_sound w0 _ hF ⟨(.tup [(false, [bo (symR p d ts).1]), (false, [i64 (symR p d ts).2])]), []⟩ Go.Proofs.Try.f43 rfl (by simp)
  have c1 := IsPoly_ok p d ts hl
  by_cases hg : GoodP p d ts
  · rw [decide_eq_true hg] at c1
    have c2 := exchanges_ok p d 1 ts hg (.inl rfl)
    have e : symR p d ts = (decide (SymP p d 1 ts), 0) := by unfold symR; rw [if_pos hg]
    rw [e] at S ⊢
    simp
    refine CallW.ok (by decide) (by simp) c1 (by simp) (S 60 _ _ ?_)
    simp
    refine CallW.ok (by decide) (by simp) c2 (by simp) (S 60 _ _ ?_)
    simp
  · rw [decide_eq_false hg] at c1
    have e : symR p d ts = (false, 1) := by unfold symR; rw [if_neg hg]
    rw [e] at S ⊢
    simp
    refine CallW.ok (by decide) (by simp) c1 (by simp) (S 60 _ _ ?_)
    simp

theorem specIsSymmetric_ok (p d : Int) (ts : List Tm) (hl : ts.length ≤ 1048576) : CallOK Go.Proofs.Try.prog 41 [pv p d ts] (.tup [(false, [bo (symR p d ts).1]), (false, [i64 (symR p d ts).2])]) := by
  have hF := fnOk 9 [.tmp 2, .tmp 3]
  refine callOK hF 60 Go.Proofs.Try.func41 rfl rfl rfl (by decide) (by simp) rfl ?_
  intro w0 hw
  have S := @vc_sound w0 _ hF ⟨(.tup [(false, [bo (symR p d ts).1]), (false, [i64 (symR p d ts).2])]), []⟩ Go.Proofs.Try.f41 rfl (by simp)
  have c1 := l01Is_ok p d ts hl
  by_cases hg : GoodP p d ts
  · rw [decide_eq_true hg] at c1
    have c2 := l08Signed_ok p d 1 ts hg (.inl rfl)
    have e : symR p d ts = (decide (SymP p d 1 ts), 0) := by unfold symR; rw [if_pos hg]
    rw [e] at S ⊢
    simp
    refine CallW.ok (by decide) (by simp) c1 (by simp) (S 60 _ _ ?_)
    simp
    refine CallW.ok (by decide) (by simp) c2 (by simp) (S 60 _ _ ?_)
    simp
  · rw [decide_eq_false hg] at c1
    have e : symR p d ts = (false, 1) := by unfold symR; rw [if_neg hg]
    rw [e] at S ⊢
    simp
    refine CallW.ok (by decide) (by simp) c1 (by simp) (S 60 _ _ ?_)
    simp

end Go.Sm

namespace Go.Sm
open Go.RowKit

/-- An exponent, by its place. -/
def exAt (e : Ex) (i : Nat) : UInt8 := if i = 0 then e.a else if i = 1 then e.b else e.c
/-- No two exponents of the first letters are equal. -/
def DiffE (d : Int) (e : Ex) : Prop := ∀ i k : Nat, k < i → (i : Int) < d → exAt e i ≠ exAt e k
noncomputable instance (d : Int) (e : Ex) : Decidable (DiffE d e) := Classical.propDecidable _
def AltP (p d : Int) (ts : List Tm) : Prop := (∀ t ∈ ts, DiffE d t.e) ∧ SymP p d (p - 1) ts
noncomputable instance (p d : Int) (ts : List Tm) : Decidable (AltP p d ts) := Classical.propDecidable _
theorem alt_false {p d : Int} {ts : List Tm} {n : Nat} {t : Tm} (ht : ts[n]? = some t) (h : ¬ DiffE d t.e) : ¬ AltP p d ts := fun ha => h (ha.1 t (List.mem_of_getElem? ht))

set_option maxHeartbeats 1000000 in
set_option maxRecDepth 4000 in
theorem alternating_ok (p d : Int) (ts : List Tm) (hg : GoodP p d ts) : CallOK Go.Proofs.Try.prog 111 [pv p d ts] (.one (bo (decide (AltP p d ts)))) := by
  have hF := fnOk 40 [.tmp 2]
  refine callOK hF 60 Go.Proofs.Try.func111 rfl rfl rfl (by decide) (by simp) rfl ?_
  intro w0 hw
  have S := @vc_sound w0 _ hF ⟨(.one (bo (decide (AltP p d ts)))), []⟩ Go.Proofs.Try.f111 rfl (by simp)
  have hp := hg.1.pos
  have hl := goodP_len hg
  have hd := hg.2.1
  have c1 := exchanges_ok p d (p - 1) ts hg (.inr rfl)
  have hwp : IntKind.i64.wrap (p - 1) = p - 1 := wrap64 (by omega) (by omega)
  generalize hb : decide (AltP p d ts) = b at S ⊢
  obtain ⟨dn, rfl⟩ : ∃ m : Nat, d = m := ⟨d.toNat, by omega⟩
  simp
  refine J.loop hw (fun n : Nat => ⟨[(1, .c (.ref 64001 0)), (2, .c (.d (bo false))), (8, .c (.d (vTerms ts))), (9, .c (.d (i64 ts.length))), (10, .c (.d (i64 n)))], [(64001, .var [.d (i64 p), .d (i64 dn), .d (vTerms ts)])]⟩)
    (fun n => n ≤ ts.length ∧ ∀ m < n, ∀ t, ts[m]? = some t → DiffE dn t.e) (fun n => ts.length - n) 0 (by simp) (by simp) ?_
  rintro n ⟨hn, hall⟩
  refine S 8 _ _ ?_
  simp
  refine ⟨fun hlt => ?_, fun hge => ?_⟩
  · obtain ⟨t, ht⟩ : ∃ t, ts[n]? = some t := ⟨ts[n], List.getElem?_eq_getElem hlt⟩
    have hb1 : ∀ i k : Nat, k < i → i < dn → exAt t.e i = exAt t.e k → b = false := fun i k h1 h2 h3 => by
      rw [← hb]; simp
      exact alt_false ht fun h => h i k h1 (by omega) h3
    refine S 6 _ _ ?_
    simp
    refine ⟨hlt, fun x hx => ?_⟩
    obtain rfl : t = x := Option.some.inj (ht.symm.trans hx)
    clear hx
    refine S 60 _ _ ?_
    simp
    refine J.loop hw (fun i : Nat => ⟨[(1, .c (.ref 64001 0)), (2, .c (.d (bo false))), (8, .c (.d (vTerms ts))), (9, .c (.d (i64 ts.length))), (10, .c (.d (i64 n))), (4, .c (.ref 64004 0)), (15, .c (.d (i64 dn))), (16, .c (.d (i64 i)))], [(64001, .var [.d (i64 p), .d (i64 dn), .d (vTerms ts)]), (64004, .var [.d (u8 t.e.a), .d (u8 t.e.b), .d (u8 t.e.c), .d (i64 t.v)])]⟩)
      (fun i => i ≤ dn ∧ ∀ i' k : Nat, k < i' → i' < i → exAt t.e i' ≠ exAt t.e k) (fun i => dn - i) 0 (by simp) (by simp) ?_
    rintro i ⟨hi, hdi⟩
    refine S 8 _ _ ?_
    simp
    refine ⟨fun hlt1 => ?_, fun hge1 => ?_⟩
    · refine S 60 _ _ ?_
      simp
      refine J.loop hw (fun k : Nat => ⟨[(1, .c (.ref 64001 0)), (2, .c (.d (bo false))), (8, .c (.d (vTerms ts))), (9, .c (.d (i64 ts.length))), (10, .c (.d (i64 n))), (4, .c (.ref 64004 0)), (15, .c (.d (i64 dn))), (16, .c (.d (i64 i))), (5, .c (.d (i64 i))), (19, .c (.d (i64 i))), (20, .c (.d (i64 k)))], [(64001, .var [.d (i64 p), .d (i64 dn), .d (vTerms ts)]), (64004, .var [.d (u8 t.e.a), .d (u8 t.e.b), .d (u8 t.e.c), .d (i64 t.v)])]⟩)
        (fun k => k ≤ i ∧ ∀ k' < k, exAt t.e i ≠ exAt t.e k') (fun k => i - k) 0 (by simp) (by simp) ?_
      rintro k ⟨hk, hdk⟩
      refine S 8 _ _ ?_
      simp
      refine ⟨fun hlt2 => ?_, fun hge2 => ?_⟩
      · have hb2 := hb1 i k hlt2 hlt1
        refine S 60 _ _ ?_
        have hnx : exAt t.e i ≠ exAt t.e k → ∀ k' < k + 1, exAt t.e i ≠ exAt t.e k' := fun h k' hk' => by
          by_cases e : k' = k
          · rw [e]; exact h
          · exact hdk k' (by omega)
        have hc : (i = 1 ∧ k = 0) ∨ (i = 2 ∧ k = 0) ∨ (i = 2 ∧ k = 1) := by omega
        rcases hc with ⟨rfl, rfl⟩ | ⟨rfl, rfl⟩ | ⟨rfl, rfl⟩ <;> simp only [exAt] at hb2 <;> simp at hb2 <;> simp
        all_goals
          refine J.dr hF mixed 8 [[], [], [0, 1], [0, 1, 2], [], [], [4, 5], [4, 5, 6], [0, 1, 2, 3, 4, 5, 6, 7]] [[23, 24, 25, 26, 27, 28, 29, 30], [23, 24, 25, 26, 27, 28, 29, 30], [25, 26, 27, 28, 29, 30], [26, 27, 28, 29, 30], [23, 24, 25, 26, 27, 28, 29, 30], [23, 24, 25, 26, 27, 28, 29, 30], [23, 24, 25, 26, 29, 30], [23, 24, 25, 26, 30]] (by decide) ?_
          simp
          refine S 60 _ _ ?_
          simp
          refine ⟨hb2, fun h => Nxt.mk _ ⟨by omega, hnx h⟩ (by simp) (by omega)⟩
      · refine S 60 _ _ ?_
        simp
        refine Nxt.mk (i + 1) ⟨by omega, fun i' k' h1 h2 => ?_⟩ (by simp; rw [wrap64] <;> omega) (by omega)
        by_cases e : i' = i
        · rw [e] at h1 ⊢; exact hdk k' (by omega)
        · exact hdi i' k' h1 (by omega)
    · refine S 60 _ _ ?_
      simp
      refine Nxt.mk (n + 1) ⟨by omega, fun m hm x hx => ?_⟩ (by simp; rw [wrap64] <;> omega) (by omega)
      by_cases e : m = n
      · subst e
        obtain rfl : t = x := Option.some.inj (ht.symm.trans hx)
        exact fun i' k' h1 h2 => hdi i' k' h1 (by omega)
      · exact hall m (by omega) x hx
  · have hd1 : ∀ t ∈ ts, DiffE dn t.e := fun t ht => by
      obtain ⟨m, hm, rfl⟩ := List.getElem_of_mem ht
      exact hall m (by omega) _ (List.getElem?_eq_getElem hm)
    have hb2 : decide (SymP p dn (p - 1) ts) = b := by
      rw [← hb]
      exact decide_eq_decide.2 ⟨fun h => ⟨hd1, h⟩, fun h => h.2⟩
    rw [hb2] at c1
    refine S 60 _ _ ?_
    simp [hwp]
    refine CallW.ok (by decide) (by simp) c1 (by simp) (S 60 _ _ ?_)
    simp

theorem exAt_cases {e : Ex} {i : Nat} (hi : i ≤ 2) : (i = 0 ∧ exAt e i = e.a) ∨ (i = 1 ∧ exAt e i = e.b) ∨ (i = 2 ∧ exAt e i = e.c) := by
  have : i = 0 ∨ i = 1 ∨ i = 2 := by omega
  rcases this with rfl | rfl | rfl <;> simp [exAt]

set_option maxHeartbeats 1000000 in
set_option maxRecDepth 4000 in
theorem l08Alternates_ok (p d : Int) (ts : List Tm) (hg : GoodP p d ts) : CallOK Go.Proofs.Try.prog 110 [pv p d ts] (.one (bo (decide (AltP p d ts)))) := by
  have hF := fnOk 49 [.tmp 2]
  refine callOK hF 60 Go.Proofs.Try.func110 rfl rfl rfl (by decide) (by simp) rfl ?_
  intro w0 hw
  have S := @vc_sound w0 _ hF ⟨(.one (bo (decide (AltP p d ts)))), []⟩ Go.Proofs.Try.f110 rfl (by simp)
  have hp := hg.1.pos
  have hl := goodP_len hg
  have hd := hg.2.1
  have c1 := l08Signed_ok p d (p - 1) ts hg (.inr rfl)
  have hwp : IntKind.i64.wrap (p - 1) = p - 1 := wrap64 (by omega) (by omega)
  generalize hb : decide (AltP p d ts) = b at S ⊢
  obtain ⟨dn, rfl⟩ : ∃ m : Nat, d = m := ⟨d.toNat, by omega⟩
  simp
  refine J.loop hw (fun n : Nat => ⟨[(1, .c (.ref 64001 0)), (2, .c (.d (bo false))), (3, .c (.d (i64 n)))], [(64001, .var [.d (i64 p), .d (i64 dn), .d (vTerms ts)])]⟩)
    (fun n => n ≤ ts.length ∧ ∀ m < n, ∀ t, ts[m]? = some t → DiffE dn t.e) (fun n => ts.length - n) 0 (by simp) (by simp) ?_
  rintro n ⟨hn, hall⟩
  refine S 12 _ _ ?_
  simp
  refine ⟨fun hlt => ?_, fun hge => ?_⟩
  · obtain ⟨t, ht⟩ : ∃ t, ts[n]? = some t := ⟨ts[n], List.getElem?_eq_getElem hlt⟩
    have hb1 : ∀ i k : Nat, k < i → i < dn → exAt t.e k = exAt t.e i → b = false := fun i k h1 h2 h3 => by
      rw [← hb]; simp
      exact alt_false ht fun h => h i k h1 (by omega) h3.symm
    refine S 60 _ _ ?_
    simp
    refine J.loop hw (fun i : Nat => ⟨[(1, .c (.ref 64001 0)), (2, .c (.d (bo false))), (3, .c (.d (i64 n))), (4, .c (.d (i64 i)))], [(64001, .var [.d (i64 p), .d (i64 dn), .d (vTerms ts)])]⟩)
      (fun i => i ≤ dn ∧ ∀ i' < i, ∀ k : Nat, i' < k → k < dn → exAt t.e i' ≠ exAt t.e k) (fun i => dn - i) 0 (by simp) (by simp) ?_
    rintro i ⟨hi, hdi⟩
    have hwi : IntKind.i64.wrap ((i : Int) + 1) = ((i + 1 : Nat) : Int) := by rw [wrap64] <;> omega
    refine S 12 _ _ ?_
    simp
    refine ⟨fun hlt1 => ?_, fun hge1 => ?_⟩
    · refine S 60 _ _ ?_
      simp [hwi]
      refine J.loop hw (fun k : Nat => ⟨[(1, .c (.ref 64001 0)), (2, .c (.d (bo false))), (3, .c (.d (i64 n))), (4, .c (.d (i64 i))), (5, .c (.d (i64 k)))], [(64001, .var [.d (i64 p), .d (i64 dn), .d (vTerms ts)])]⟩)
        (fun k => i + 1 ≤ k ∧ k ≤ dn ∧ ∀ k', i < k' → k' < k → exAt t.e i ≠ exAt t.e k') (fun k => dn - k) (i + 1) ⟨by omega, by omega, fun _ _ _ => by omega⟩ (by simp) ?_
      rintro k ⟨hk0, hk, hdk⟩
      refine S 12 _ _ ?_
      simp
      refine ⟨fun hlt2 => ?_, fun hge2 => ?_⟩
      · have hb2 := hb1 k i (by omega) hlt2
        refine S 60 _ _ ?_
        have hnx : exAt t.e i ≠ exAt t.e k → ∀ k', i < k' → k' < k + 1 → exAt t.e i ≠ exAt t.e k' := fun h k' h1 hk' => by
          by_cases e : k' = k
          · rw [e]; exact h
          · exact hdk k' h1 (by omega)
        have hc : (i = 0 ∧ k = 1) ∨ (i = 0 ∧ k = 2) ∨ (i = 1 ∧ k = 2) := by omega
        clear hdi hdk
        rcases hc with ⟨rfl, rfl⟩ | ⟨rfl, rfl⟩ | ⟨rfl, rfl⟩ <;> simp only [exAt] at hb2 <;> simp at hb2 <;> simp
        all_goals
          refine J.dr hF mixed 16 [[], [0], [], [], [0, 1, 2], [0, 1, 2, 4], [0, 1, 2, 3, 4, 5], [0, 1, 2, 3, 4, 5, 6], [], [8], [], [], [8, 9, 10], [8, 9, 10, 12], [8, 9, 10, 11, 12, 13], [8, 9, 10, 11, 12, 13, 14], [0, 1, 2, 3, 4, 5, 6, 7, 8, 9, 10, 11, 12, 13, 14, 15]] [[27, 28, 29, 30, 31, 32, 33, 34, 35, 36, 37, 38, 39, 40, 41, 42], [28, 29, 30, 31, 32, 33, 34, 35, 36, 37, 38, 39, 40, 41, 42], [27, 28, 29, 30, 31, 32, 33, 34, 35, 36, 37, 38, 39, 40, 41, 42], [27, 28, 29, 30, 31, 32, 33, 34, 35, 36, 37, 38, 39, 40, 41, 42], [30, 31, 32, 33, 34, 35, 36, 37, 38, 39, 40, 41, 42], [30, 32, 33, 34, 35, 36, 37, 38, 39, 40, 41, 42], [33, 34, 35, 36, 37, 38, 39, 40, 41, 42], [34, 35, 36, 37, 38, 39, 40, 41, 42], [27, 28, 29, 30, 31, 32, 33, 34, 35, 36, 37, 38, 39, 40, 41, 42], [27, 28, 29, 30, 31, 32, 33, 34, 36, 37, 38, 39, 40, 41, 42], [27, 28, 29, 30, 31, 32, 33, 34, 35, 36, 37, 38, 39, 40, 41, 42], [27, 28, 29, 30, 31, 32, 33, 34, 35, 36, 37, 38, 39, 40, 41, 42], [27, 28, 29, 30, 31, 32, 33, 34, 38, 39, 40, 41, 42], [27, 28, 29, 30, 31, 32, 33, 34, 38, 40, 41, 42], [27, 28, 29, 30, 31, 32, 33, 34, 41, 42], [27, 28, 29, 30, 31, 32, 33, 34, 42]] (by decide) ?_
          rw [← List.take_append_drop 7 (List.take _ _)]
          generalize htl : List.drop 7 (List.take _ _) = tl
          simp
          refine ⟨hlt, fun x hx => ?_⟩
          obtain rfl : t = x := Option.some.inj (ht.symm.trans hx)
          subst htl
          simp
          refine ⟨hlt, fun x hx => ?_⟩
          obtain rfl : t = x := Option.some.inj (ht.symm.trans hx)
          refine S 60 _ _ ?_
          simp
          refine ⟨hb2, fun h => Nxt.mk _ ⟨by omega, by omega, hnx h⟩ (by simp) (by omega)⟩
      · refine S 60 _ _ ?_
        simp
        refine Nxt.mk (i + 1) ⟨by omega, fun i' h1 k' h2 h3 => ?_⟩ (by simp [hwi]) (by omega)
        by_cases e : i' = i
        · rw [e] at h2 ⊢; exact hdk k' h2 (by omega)
        · exact hdi i' (by omega) k' h2 h3
    · refine S 60 _ _ ?_
      simp
      refine Nxt.mk (n + 1) ⟨by omega, fun m hm x hx => ?_⟩ (by simp; rw [wrap64] <;> omega) (by omega)
      by_cases e : m = n
      · subst e
        obtain rfl : t = x := Option.some.inj (ht.symm.trans hx)
        exact fun i' k' h1 h2 h3 => hdi k' (by omega) i' h1 (by omega) h3.symm
      · exact hall m (by omega) x hx
  · have hd1 : ∀ t ∈ ts, DiffE dn t.e := fun t ht => by
      obtain ⟨m, hm, rfl⟩ := List.getElem_of_mem ht
      exact hall m (by omega) _ (List.getElem?_eq_getElem hm)
    have hb2 : decide (SymP p dn (p - 1) ts) = b := by
      rw [← hb]
      exact decide_eq_decide.2 ⟨fun h => ⟨hd1, h⟩, fun h => h.2⟩
    rw [hb2] at c1
    refine S 60 _ _ ?_
    simp [hwp]
    refine CallW.ok (by decide) (by simp) c1 (by simp) (S 60 _ _ ?_)
    simp

noncomputable def altR (p d : Int) (ts : List Tm) : Bool × Int := if GoodP p d ts then (decide (AltP p d ts), 0) else (false, 1)

theorem IsAlternating_ok (p d : Int) (ts : List Tm) (hl : ts.length ≤ 1048576) : CallOK Go.Proofs.Try.prog 60 [pv p d ts] (.tup [(false, [bo (altR p d ts).1]), (false, [i64 (altR p d ts).2])]) := by
  have hF := fnOk 9 [.tmp 2, .tmp 3]
  refine callOK hF 60 Go.Proofs.Try.func60 rfl rfl rfl (by decide) (by simp) rfl ?_
  intro w0 hw
  have S := @vc_sound w0 _ hF ⟨(.tup [(false, [bo (altR p d ts).1]), (false, [i64 (altR p d ts).2])]), []⟩ Go.Proofs.Try.f60 rfl (by simp)
  have c1 := IsPoly_ok p d ts hl
  by_cases hg : GoodP p d ts
  · rw [decide_eq_true hg] at c1
    have c2 := alternating_ok p d ts hg
    have e : altR p d ts = (decide (AltP p d ts), 0) := by unfold altR; rw [if_pos hg]
    rw [e] at S ⊢
    simp
    refine CallW.ok (by decide) (by simp) c1 (by simp) (S 60 _ _ ?_)
    simp
    refine CallW.ok (by decide) (by simp) c2 (by simp) (S 60 _ _ ?_)
    simp
  · rw [decide_eq_false hg] at c1
    have e : altR p d ts = (false, 1) := by unfold altR; rw [if_neg hg]
    rw [e] at S ⊢
    simp
    refine CallW.ok (by decide) (by simp) c1 (by simp) (S 60 _ _ ?_)
    simp

theorem specIsAlternating_ok (p d : Int) (ts : List Tm) (hl : ts.length ≤ 1048576) : CallOK Go.Proofs.Try.prog 59 [pv p d ts] (.tup [(false, [bo (altR p d ts).1]), (false, [i64 (altR p d ts).2])]) := by
  have hF := fnOk 9 [.tmp 2, .tmp 3]
  refine callOK hF 60 Go.Proofs.Try.func59 rfl rfl rfl (by decide) (by simp) rfl ?_
  intro w0 hw
  have S := @vc_sound w0 _ hF ⟨(.tup [(false, [bo (altR p d ts).1]), (false, [i64 (altR p d ts).2])]), []⟩ Go.Proofs.Try.f59 rfl (by simp)
  have c1 := l01Is_ok p d ts hl
  by_cases hg : GoodP p d ts
  · rw [decide_eq_true hg] at c1
    have c2 := l08Alternates_ok p d ts hg
    have e : altR p d ts = (decide (AltP p d ts), 0) := by unfold altR; rw [if_pos hg]
    rw [e] at S ⊢
    simp
    refine CallW.ok (by decide) (by simp) c1 (by simp) (S 60 _ _ ?_)
    simp
    refine CallW.ok (by decide) (by simp) c2 (by simp) (S 60 _ _ ?_)
    simp
  · rw [decide_eq_false hg] at c1
    have e : altR p d ts = (false, 1) := by unfold altR; rw [if_neg hg]
    rw [e] at S ⊢
    simp
    refine CallW.ok (by decide) (by simp) c1 (by simp) (S 60 _ _ ?_)
    simp

end Go.Sm

namespace Go.Sm
open Go.RowKit

theorem toExps_ok (e : Ex) : CallOK Go.Proofs.Try.prog 156 [.agg e.ds] (.agg e.ds) := by
  have hF := fnOk 15 [.cell 2 88]
  refine callOK hF 60 Go.Proofs.Try.func156 rfl rfl rfl (by decide) (by simp) rfl ?_
  intro w0 hw
  have S := @vc_sound w0 _ hF ⟨(.agg e.ds), []⟩ Go.Proofs.Try.f156 rfl (by simp)
  simp
  refine J.rounds 5 (LpW.step (S 60 _ _ ?_))
  simp
  refine LpW.inv (LpW.step (S 60 _ _ ?_))
  simp
  refine LpW.inv (LpW.step (S 60 _ _ ?_))
  simp
  refine LpW.inv (LpW.step (S 60 _ _ ?_))
  simp

theorem toTerm_ok (t : Tm) : CallOK Go.Proofs.Try.prog 136 [.agg [u8 t.e.a, u8 t.e.b, u8 t.e.c, i64 t.v]] (.agg [u8 t.e.a, u8 t.e.b, u8 t.e.c, i64 t.v]) := by
  have hF := fnOk 12 [.cell 2 108]
  refine callOK hF 60 Go.Proofs.Try.func136 rfl rfl rfl (by decide) (by simp) rfl ?_
  intro w0 hw
  have S := @vc_sound w0 _ hF ⟨(.agg [u8 t.e.a, u8 t.e.b, u8 t.e.c, i64 t.v]), []⟩ Go.Proofs.Try.f136 rfl (by simp)
  have c1 := toExps_ok t.e
  simp
  refine CallW.ok (by decide) (by simp) c1 (by simp) (S 60 _ _ ?_)
  simp

theorem toTermS_ok (ts : List Tm) (hl : ts.length ≤ 1048576) : CallOK Go.Proofs.Try.prog 95 [.one (vTerms ts)] (.one (oTerms ts)) := by
  have hF := fnOk 23 [.tmp 2]
  refine callOK hF 60 Go.Proofs.Try.func95 rfl rfl rfl (by decide) (by simp) rfl ?_
  intro w0 hw
  have S := @vc_sound w0 _ hF ⟨(.one (oTerms ts)), []⟩ Go.Proofs.Try.f95 rfl (by simp)
  simp
  refine ⟨by omega, ?_⟩
  refine J.loop hw (fun p : Nat × List Tm => ⟨[(0, .c (.d (vTerms ts))), (3, .c (.ob 64003)), (4, .c (.d (i64 p.1)))], [(64003, .arr 108 4 (terms p.2))]⟩)
    (fun p => p.1 ≤ ts.length ∧ p.2.length = ts.length ∧ p.2.take p.1 = ts.take p.1) (fun p => ts.length - p.1) (0, List.replicate ts.length ⟨⟨0, 0, 0⟩, 0⟩) (by simp) (by simp) ?_
  rintro ⟨i, zs⟩ ⟨hi, hlen, htk⟩
  simp only at hi hlen htk
  refine S 12 _ _ ?_
  simp
  refine ⟨fun hlt => ?_, fun hge => ?_⟩
  · obtain ⟨t, ht⟩ : ∃ t, ts[i]? = some t := ⟨ts[i], List.getElem?_eq_getElem hlt⟩
    obtain ⟨u, hu⟩ : ∃ u, zs[i]? = some u := ⟨zs[i], List.getElem?_eq_getElem (by omega)⟩
    have c1 := toTerm_ok t
    refine S 9 _ _ ?_
    simp
    refine ⟨hlt, fun x hx => ?_⟩
    obtain rfl : t = x := Option.some.inj (ht.symm.trans hx)
    refine CallW.ok (by decide) (by simp) c1 (by simp) (S 60 _ _ ?_)
    simp [hlen, hu]
    refine ⟨hlt, ?_⟩
    refine Nxt.mk (i + 1, zs.set i t) ⟨by show i + 1 ≤ _; omega, by simpa using hlen, ?_⟩ (by simp [wrapS (i := i) (n := ts.length) hlt (by omega), List.map_set]) (by show ts.length - (i + 1) < ts.length - i; omega)
    show (zs.set i t).take (i + 1) = ts.take (i + 1)
    rw [List.take_add_one, List.take_set_of_le (Nat.le_refl i), htk, List.take_add_one, ht]
    simp [show i < zs.length by omega]
  · have e : zs = ts := by
      have h1 : zs.take i = zs := List.take_of_length_le (by omega)
      have h2 : ts.take i = ts := List.take_of_length_le (by omega)
      rw [← h1, htk, h2]
    refine S 60 _ _ ?_
    simp [e]

theorem szTermS_ok (ts : List Tm) (n : Int) (hn : 0 ≤ n) (hn2 : n ≤ 4611686018427387904) (hl : ts.length ≤ maxLen) : CallOK Go.Proofs.Try.prog 92 [.one (vTerms ts), .one (i64 n)] (.one (i64 (if n - ts.length < 0 then -1 else n - ts.length))) := by
  have hF := fnOk 12 [.tmp 4]
  refine callOK hF 60 Go.Proofs.Try.func92 rfl rfl rfl (by decide) (by simp) rfl ?_
  intro w0 hw
  have S := @vc_sound w0 _ hF ⟨(.one (i64 (if n - ts.length < 0 then -1 else n - ts.length))), []⟩ Go.Proofs.Try.f92 rfl (by simp)
  have hm : maxLen = 9223372036854775807 := rfl
  have hw1 : IntKind.i64.wrap (n - ts.length) = n - ts.length := wrap64 (by omega) (by omega)
  by_cases h : n - ts.length < 0
  · rw [if_pos h] at S ⊢
    simp [hw1, h]
  · rw [if_neg h] at S ⊢
    simp [hw1, h]

theorem toPoly_ok (p d : Int) (ts : List Tm) (hl : ts.length ≤ 1048576) : CallOK Go.Proofs.Try.prog 42 [pv p d ts] (po p d ts) := by
  have hF := fnOk 15 [.cell 2 39]
  refine callOK hF 60 Go.Proofs.Try.func42 rfl rfl rfl (by decide) (by simp) rfl ?_
  intro w0 hw
  have S := @vc_sound w0 _ hF ⟨(po p d ts), []⟩ Go.Proofs.Try.f42 rfl (by simp)
  have c1 := toTermS_ok ts hl
  simp
  refine CallW.ok (by decide) (by simp) c1 (by simp) (S 60 _ _ ?_)
  simp

theorem szPoly_ok (p d : Int) (ts : List Tm) (n : Int) (hn : 0 ≤ n) (hn2 : n ≤ 4611686018427387904) (hl : ts.length ≤ maxLen) : CallOK Go.Proofs.Try.prog 40 [pv p d ts, .one (i64 n)] (.one (i64 (if n - ts.length < 0 then -1 else n - ts.length))) := by
  have hF := fnOk 12 [.tmp 4]
  refine callOK hF 60 Go.Proofs.Try.func40 rfl rfl rfl (by decide) (by simp) rfl ?_
  intro w0 hw
  have S := @vc_sound w0 _ hF ⟨(.one (i64 (if n - ts.length < 0 then -1 else n - ts.length))), []⟩ Go.Proofs.Try.f40 rfl (by simp)
  have c1 := szTermS_ok ts n hn hn2 hl
  by_cases h : n - ts.length < 0
  · rw [if_pos h] at S c1 ⊢
    simp
    refine CallW.ok (by decide) (by simp) c1 (by simp) (S 60 _ _ ?_)
    simp
  · rw [if_neg h] at S c1 ⊢
    simp
    refine CallW.ok (by decide) (by simp) c1 (by simp) (S 60 _ _ ?_)
    simp [h]

end Go.Sm

namespace Go.Sm
open Go.RowKit

set_option maxHeartbeats 1000000 in
set_option maxRecDepth 4000 in
theorem FnExactIsAlternating_ok (p d : Int) (ts : List Tm) (hl : ts.length ≤ maxLen) : CallOK Go.Proofs.Try.prog 14 [pv p d ts] (.one (bo true)) := by
  have hF := fnOk 40 [.tmp 2]
  refine callOK hF 60 Go.Proofs.Try.func14 rfl rfl rfl (by decide) (by simp) rfl ?_
  intro w0 hw
  have S := @vc_sound w0 _ hF ⟨(.one (bo true)), []⟩ Go.Proofs.Try.f14 rfl (by simp)
  have c0 := szPoly_ok p d ts 1048576 (by omega) (by omega) hl
  by_cases h : ts.length ≤ 1048576
  · rw [if_neg (by omega)] at c0
    have c1 := toPoly_ok p d ts h
    have c2 := specIsAlternating_ok p d ts h
    have c3 := IsAlternating_ok p d ts h
    have c4 := eqPoly_ok p d p d ts ts (by omega)
    rw [decide_eq_true ⟨rfl, rfl, rfl⟩] at c4
    generalize altR p d ts = r at *
    obtain ⟨r1, r2⟩ := r
    simp only at c2 c3
    simp
    refine CallW.ok (by decide) (by simp) c0 (by simp) (S 60 _ _ ?_)
    simp [show ¬ (1048576 : Int) < ts.length by omega, show ¬ (1048576 : Int) - ts.length < 0 by omega]
    refine CallW.ok (by decide) (by simp) c1 (by simp) (S 60 _ _ ?_)
    simp
    refine CallW.ok (by decide) (by simp) c2 (by simp) (S 60 _ _ ?_)
    simp
    refine CallW.ok (by decide) (by simp) c1 (by simp) (S 60 _ _ ?_)
    simp
    refine CallW.ok (by decide) (by simp) c3 (by simp) (S 60 _ _ ?_)
    simp
    refine J.dr hF mixed 3 [[], [], [1], [0, 1, 2], [0, 1, 2, 3]] [[35, 36, 37], [35, 36, 37], [35, 37]] (by decide) ?_
    simp
    refine DrC.ok hF (by rfl) (by simp) c1 (by simp) (by simp) ?_
    simp
    refine S 60 _ _ ?_
    simp
    refine CallW.ok (by decide) (by simp) c4 (by simp) (S 60 _ _ ?_)
    simp
  · rw [if_pos (by omega)] at c0
    simp
    refine CallW.ok (by decide) (by simp) c0 (by simp) (S 60 _ _ ?_)
    simp

end Go.Sm
