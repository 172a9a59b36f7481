/- The reference's sums of terms: a number put to the coefficient of a monomial. -/
import Derived.Test.YtihinogdolhjcaaQaA
namespace Go.Sm
open Go.RowKit

theorem tmod_mod (x p : Int) (hp : 0 < p) : (x.tmod p + p).tmod p = x % p := by
  have h1 : x.tmod p < p := Int.tmod_lt_of_pos x hp
  have h2 : -p < x.tmod p := by
    have := Int.lt_tmod_of_pos x hp
    omega
  have h3 : (x.tmod p + p).tmod p = (x.tmod p + p) % p := Int.tmod_eq_emod_of_nonneg (by omega)
  rw [h3, Int.add_emod_right]
  rcases Int.le_total 0 x with h | h
  · rw [Int.tmod_eq_emod_of_nonneg h, Int.emod_emod]
  · have e : x.tmod p = -((-x) % p) := by
      have : (-x).tmod p = (-x) % p := Int.tmod_eq_emod_of_nonneg (by omega)
      rw [← this, Int.neg_tmod, Int.neg_neg]
    rw [e]
    have : -((-x) % p) % p = x % p := by
      rw [Int.neg_emod_eq_sub_emod]
      have h4 := Int.emod_add_mul_ediv (-x) p
      rw [show p - (-x) % p = x + p * (1 + (-x) / p) by rw [Int.mul_add]; omega, Int.add_mul_emod_self_left]
    exact this

theorem tmod_range (x p : Int) (hp : 0 < p) : -p < x.tmod p ∧ x.tmod p < p := by
  have h1 : x.tmod p < p := Int.tmod_lt_of_pos x hp
  have h2 := Int.lt_tmod_of_pos x hp
  omega

theorem l01Mod_ok (p x : Int) (hp : 0 < p) (hp2 : p < 4000000000000000000) : CallOK Go.Proofs.Try.prog 117 [.one (i64 p), .one (i64 x)] (.one (i64 (x % p))) := by
  have hF := fnOk 12 [.tmp 4]
  refine callOK hF 60 Go.Proofs.Try.func117 rfl rfl rfl (by decide) (by simp) rfl ?_
  intro w0 hw
  have S := @vc_sound w0 _ hF ⟨(.one (i64 (x % p))), []⟩ Go.Proofs.Try.f117 rfl (by simp)
  have h := tmod_range x p hp
  have h0 : p ≠ 0 := by omega
  simp [h0, wrap64 (x := x.tmod p + p) (by omega) (by omega), tmod_mod x p hp]

theorem l01Empty_ok (p d : Int) : CallOK Go.Proofs.Try.prog 78 [.one (i64 p), .one (i64 d)] (po p d []) := by
  have hF := fnOk 9 [.cell 4 39]
  refine callOK hF 60 Go.Proofs.Try.func78 rfl rfl rfl (by decide) (by simp) rfl ?_
  intro w0 hw
  have S := @vc_sound w0 _ hF ⟨(po p d []), []⟩ Go.Proofs.Try.f78 rfl (by simp)
  simp

/-- A number put to the coefficient of e: what comes of the terms from here on. -/
def putGo (e : Ex) (v : Int) : Bool → List Tm → List Tm
  | done, [] => if done then [] else [⟨e, v⟩]
  | done, t :: ts => (if done = false ∧ cmpE e t.e < 0 then [⟨e, v⟩] else []) ++ ((if t.e = e then [] else [t]) ++ putGo e v (done || decide (cmpE e t.e < 0)) ts)
def putT (p : Int) (ts : List Tm) (e : Ex) (v : Int) : List Tm := putGo e ((v + coef ts e) % p) ((v + coef ts e) % p == 0) ts

set_option maxHeartbeats 4000000 in
theorem l01Put_ok (p d : Int) (ts : List Tm) (e : Ex) (v : Int) (hl : ts.length ≤ 1048576) (hp : 0 < p) (hp2 : p < 4000000000000000000) (h1 : -4611686018427387904 ≤ v + coef ts e) (h2 : v + coef ts e ≤ 4611686018427387904) : CallOK Go.Proofs.Try.prog 79 [pv p d ts, .agg e.ds, .one (i64 v)] (po p d (putT p ts e v)) := by
  have hF := fnOk 75 [.cell 6 39]
  refine callOK hF 60 Go.Proofs.Try.func79 rfl rfl rfl (by decide) (by simp) rfl ?_
  intro w0 hw
  have S := @vc_sound w0 _ hF ⟨(po p d (putT p ts e v)), []⟩ Go.Proofs.Try.f79 rfl (by simp)
  have c1 := l01Empty_ok p d
  have c2 := l01At_ok p d ts e hl
  have c3 := l01Mod_ok p (v + coef ts e) hp hp2
  have hw1 : IntKind.i64.wrap (v + coef ts e) = v + coef ts e := wrap64 (by omega) (by omega)
  simp at c1 c2 c3 ⊢
  refine CallW.ok (by decide) (by simp) c1 (by simp) (S 100 _ _ ?_)
  simp
  refine J.dr hF mixed 7 [[], [0], [], [], [], [3, 4], [2, 3, 4, 5], [0, 1, 2, 3, 4, 5, 6], [0, 1, 2, 3, 4, 5, 6, 7]] [[16, 17, 18, 19, 20, 21, 22], [17, 18, 19, 20, 21, 22], [16, 17, 18, 19, 20, 21, 22], [16, 17, 18, 19, 20, 21, 22], [16, 17, 18, 19, 20, 21, 22], [16, 17, 18, 21, 22], [16, 17, 22]] (by decide) ?_
  simp
  refine DrC.ok hF (by rfl) (by simp) c2 (by simp) (by simp) ?_
  simp [hw1]
  refine S 60 _ _ ?_
  simp
  refine CallW.ok (by decide) (by simp) c3 (by simp) (S 100 _ _ ?_)
  simp
  generalize hv' : (v + coef ts e) % p = v' at S ⊢
  refine J.loop hw (fun q : Nat × Bool × List Tm => ⟨[(9, .c (.d (i64 q.1))), (2, .c (.d (i64 v'))), (8, .c (.d (bo q.2.1))), (3, .c (.ref 64003 0)), (4, .c (.ref 64004 0)), (6, .c (.ref 64006 0)), (7, .c (.ref 64008 0))],
      [(64003, .var [.d (i64 p), .d (i64 d), .d (vTerms ts)]), (64004, .var [.d (u8 e.a), .d (u8 e.b), .d (u8 e.c)]), (64006, .var [.d (i64 0), .d (i64 0), .ob 64007]), (64007, .arr 108 4 []),
       (64008, .var [.d (i64 p), .d (i64 d), .ob 64009]), (64009, .arr 108 4 (terms q.2.2))]⟩)
    (fun q => q.1 ≤ ts.length ∧ q.2.2.length ≤ 2 * q.1 ∧ q.2.2 ++ putGo e v' q.2.1 (ts.drop q.1) = putGo e v' (v' == 0) ts) (fun q => ts.length - q.1) (0, v' == 0, []) (by simp) (by simp) ?_
  rintro ⟨i, done, acc⟩ ⟨hi, hlen, hacc⟩
  simp only at hi hlen hacc
  refine S 13 _ _ ?_
  simp
  refine ⟨fun hlt => ?_, fun hge => ?_⟩
  · refine S 14 _ _ ?_
    simp
    refine ⟨hlt, fun t ht => ?_⟩
    have hdr := drop_cons ht
    rw [hdr] at hacc
    have hb2 : (acc.length + 1) * 16 ≤ 140737488355328 := by omega
    have hb3 : acc.length + 1 ≤ 9223372036854775807 := by omega
    have c4 := l01Before_ok e t.e
    have fin : ∀ (dn : Bool) (add : List Tm), dn = (done || decide (cmpE e t.e < 0)) → add = (if done = false ∧ cmpE e t.e < 0 then [⟨e, v'⟩] else []) ++ (if t.e = e then [] else [t]) →
        (i + 1 ≤ ts.length ∧ (acc ++ add).length ≤ 2 * (i + 1) ∧ (acc ++ add) ++ putGo e v' dn (ts.drop (i + 1)) = putGo e v' (v' == 0) ts) := by
      intro dn add h1 h2
      refine ⟨hlt, ?_, ?_⟩
      · rw [List.length_append, h2, List.length_append]
        split <;> split <;> simp <;> omega
      · rw [← hacc, h1, h2]; simp [putGo]
    by_cases hte : t.e = e
    · cases done with
      | true =>
        refine S 100 _ _ ?_
        simp [hte]
        refine Nxt.mk (i + 1, true, acc) (by simpa using fin true [] (by simp) (by simp [hte])) (by simp [wrapS (i := i) (n := ts.length) hlt (by omega)]) (by show ts.length - (i + 1) < ts.length - i; omega)
      | false =>
        have hlt0 : ¬ cmpE e t.e < 0 := by rw [hte, cmpE_self]; omega
        rw [decide_eq_false hlt0] at c4
        refine S 100 _ _ ?_
        simp
        refine CallW.ok (by decide) (by simp) c4 (by simp) (S 100 _ _ ?_)
        simp [hte]
        refine Nxt.mk (i + 1, false, acc) (by simpa using fin false [] (by simp; omega) (by simp [hte, cmpE_self])) (by simp [wrapS (i := i) (n := ts.length) hlt (by omega)]) (by show ts.length - (i + 1) < ts.length - i; omega)
    · cases done with
      | true =>
        refine S 100 _ _ ?_
        simp [hte]
        refine ⟨⟨by omega, by omega⟩, ?_⟩
        refine Nxt.mk (i + 1, true, acc ++ [t]) (fin true [t] (by simp) (by simp [hte])) (by simp [wrapS (i := i) (n := ts.length) hlt (by omega)]) (by show ts.length - (i + 1) < ts.length - i; omega)
      | false =>
        by_cases hlt0 : cmpE e t.e < 0
        · rw [decide_eq_true hlt0] at c4
          refine S 100 _ _ ?_
          simp
          refine CallW.ok (by decide) (by simp) c4 (by simp) (S 16 _ _ ?_)
          simp
          refine ⟨⟨by omega, by omega⟩, ?_⟩
          refine S 60 _ _ ?_
          simp [hte]
          refine ⟨⟨by omega, by omega⟩, ?_⟩
          refine Nxt.mk (i + 1, true, acc ++ [⟨e, v'⟩, t]) (fin true [⟨e, v'⟩, t] (by simp [hlt0]) (by simp [hte, hlt0])) (by simp [wrapS (i := i) (n := ts.length) hlt (by omega)]) (by show ts.length - (i + 1) < ts.length - i; omega)
        · rw [decide_eq_false hlt0] at c4
          refine S 100 _ _ ?_
          simp
          refine CallW.ok (by decide) (by simp) c4 (by simp) (S 100 _ _ ?_)
          simp [hte]
          refine ⟨⟨by omega, by omega⟩, ?_⟩
          refine Nxt.mk (i + 1, false, acc ++ [t]) (fin false [t] (by simp; omega) (by simp [hte, hlt0])) (by simp [wrapS (i := i) (n := ts.length) hlt (by omega)]) (by show ts.length - (i + 1) < ts.length - i; omega)
  · have hnil : ts.drop i = [] := List.drop_eq_nil_of_le hge
    rw [hnil] at hacc
    have hput : putT p ts e v = acc ++ putGo e v' done [] := by rw [hacc]; unfold putT; rw [hv']
    rw [hput] at S ⊢
    cases done with
    | true =>
      refine S 60 _ _ ?_
      simp [putGo]
    | false =>
      refine S 60 _ _ ?_
      simp [putGo]
      omega

end Go.Sm
