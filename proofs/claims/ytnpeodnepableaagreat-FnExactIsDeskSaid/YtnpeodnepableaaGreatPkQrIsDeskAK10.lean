/- Towards the rows of this seat: what the functions do, as contracts over plain data. -/
import Derived.Test.YtnpeodnepableaaGreatPkQrIsDeskAK9
import Derived.Test.YtnpeodnepableaaGreatPkQrIsDeskAK8
namespace Go.Sm
open Go.RowKit

/-- A monomial times a number, as terms. -/
def mono (p : Int) (e : Ex) (n : Int) : List Tm := putT p [] e n
/-- A state with what is needed further alone. -/
theorem J.clean {P : Program} {N : Nat} {w0 : Base} {s : St} (hw : w0.ok64) {Q : Exit → Act → World → Prop} {k : List It} (t : St) (h : Fit (autoRn s t) s t) (hj : J P N w0 Q k t) : J P N w0 Q k s := J.fit hw h hj
end Go.Sm

namespace Go.Sm
open Go.RowKit

def TmOk (p d : Int) (t : Tm) : Prop := InV d t.e ∧ 1 ≤ t.v ∧ t.v < p
instance (p d : Int) (t : Tm) : Decidable (TmOk p d t) := by unfold TmOk; infer_instance
/-- A polynomial. -/
def GoodP (p d : Int) (ts : List Tm) : Prop := Pr p ∧ (1 ≤ d ∧ d ≤ 3) ∧ (∀ t ∈ ts, TmOk p d t) ∧ Asc ts
noncomputable instance (p d : Int) (ts : List Tm) : Decidable (GoodP p d ts) := Classical.propDecidable _

/-- What is asked of a term at its place. -/
def StepOk (p d : Int) (ts : List Tm) (i : Nat) : Prop := ∀ t, ts[i]? = some t → TmOk p d t ∧ ∀ j u, i = j + 1 → ts[j]? = some u → cmpE u.e t.e < 0
theorem cmpE_trans {x y z : Ex} (h1 : cmpE x y < 0) (h2 : cmpE y z < 0) : cmpE x z < 0 := by
  rw [cmpE_key] at *; omega
theorem asc_adj {ts : List Tm} (h : ∀ i t u, ts[i + 1]? = some t → ts[i]? = some u → cmpE u.e t.e < 0) : Asc ts := by
  induction ts with
  | nil => exact List.Pairwise.nil
  | cons x ts ih =>
    have ih := ih fun i t u h1 h2 => h (i + 1) t u (by simpa using h1) (by simpa using h2)
    refine List.pairwise_cons.2 ⟨fun y hy => ?_, ih⟩
    cases ts with
    | nil => cases hy
    | cons z ts =>
      have hz := h 0 z x (by simp) (by simp)
      rcases List.mem_cons.1 hy with rfl | hy
      · exact hz
      · exact cmpE_trans hz ((List.pairwise_cons.1 ih).1 y hy)
theorem asc_get {ts : List Tm} (h : Asc ts) {i j : Nat} {t u : Tm} (ht : ts[i]? = some t) (hu : ts[j]? = some u) (hij : i < j) : cmpE t.e u.e < 0 := by
  obtain ⟨h1, rfl⟩ := List.getElem?_eq_some_iff.1 ht
  obtain ⟨h2, rfl⟩ := List.getElem?_eq_some_iff.1 hu
  exact List.pairwise_iff_getElem.1 h i j h1 h2 hij
theorem goodP_iff {p d : Int} {ts : List Tm} (hp : Pr p) (hd : 1 ≤ d ∧ d ≤ 3) : GoodP p d ts ↔ ∀ i < ts.length, StepOk p d ts i := by
  constructor
  · rintro ⟨_, _, h3, h4⟩ i _ t ht
    refine ⟨h3 t (List.mem_of_getElem? ht), fun j u hj hu => ?_⟩
    exact asc_get h4 hu ht (by omega)
  · intro h
    refine ⟨hp, hd, fun t ht => ?_, asc_adj fun i t u h1 h2 => ?_⟩
    · obtain ⟨i, hi, rfl⟩ := List.getElem_of_mem ht
      exact (h i hi _ (List.getElem?_eq_getElem hi)).1
    · have hi := (List.getElem?_eq_some_iff.1 h1).1
      exact (h (i + 1) hi t h1).2 i u rfl h2
theorem goodP_false {p d : Int} {ts : List Tm} {i : Nat} {t : Tm} (ht : ts[i]? = some t) (h : ¬ TmOk p d t) : ¬ GoodP p d ts := fun hg => h (hg.2.2.1 t (List.mem_of_getElem? ht))
theorem goodP_false2 {p d : Int} {ts : List Tm} {i j : Nat} {t u : Tm} (ht : ts[i]? = some t) (hu : ts[j]? = some u) (hj : i = j + 1) (h : ¬ cmpE u.e t.e < 0) : ¬ GoodP p d ts := fun hg => h (asc_get hg.2.2.2 hu ht (by omega))
set_option maxHeartbeats 2000000 in
set_option maxRecDepth 4000 in
theorem IsPoly_ok (p d : Int) (ts : List Tm) (hl : ts.length ≤ 1048576) : CallOK Go.Proofs.Tryz.prog 32 [pv p d ts] (.one (bo (decide (GoodP p d ts)))) := by
  have hF := fnOk 69 [.tmp 2]
  refine callOK hF 60 Go.Proofs.Tryz.func32 rfl rfl rfl (by decide) (by simp) rfl ?_
  intro w0 hw
  have S := @vc_sound w0 _ hF ⟨(.one (bo (decide (GoodP p d ts)))), []⟩ Go.Proofs.Tryz.f32 rfl (by simp)
  have c1 := isPrime_ok p
  have c2 := isVars_ok d
  generalize hb : decide (GoodP p d ts) = b at S ⊢
  by_cases hp : Pr p
  · rw [decide_eq_true hp] at c1
    by_cases hd : 1 ≤ d ∧ d ≤ 3
    · rw [decide_eq_true hd] at c2
      simp
      refine CallW.ok (by decide) (by simp) c1 (by simp) (S 60 _ _ ?_)
      simp
      refine CallW.ok (by decide) (by simp) c2 (by simp) (S 60 _ _ ?_)
      simp
      refine J.loop hw (fun i : Nat => ⟨[(1, .c (.ref 64001 0)), (2, .c (.d (bo false))), (17, .c (.d (vTerms ts))), (18, .c (.d (i64 ts.length))), (19, .c (.d (i64 i)))], [(64001, .var [.d (i64 p), .d (i64 d), .d (vTerms ts)])]⟩)
        (fun i => i ≤ ts.length ∧ ∀ j < i, StepOk p d ts j) (fun i => ts.length - i) 0 (by simp) (by simp) ?_
      rintro i ⟨hi, hall⟩
      refine S 8 _ _ ?_
      simp
      refine ⟨fun hlt => ?_, fun hge => ?_⟩
      · obtain ⟨t, ht⟩ : ∃ t, ts[i]? = some t := ⟨ts[i], List.getElem?_eq_getElem hlt⟩
        have c3 := degree_ok t.e
        refine S 6 _ _ ?_
        simp
        refine ⟨hlt, fun x hx => ?_⟩
        obtain rfl : t = x := Option.some.inj (ht.symm.trans hx)
        clear hx
        refine S 60 _ _ ?_
        simp
        refine J.dr hF mixed 29 [[], [0], [0, 1], [0, 1, 2], [0, 1, 2, 3], [0, 1, 2, 3, 4], [0, 1, 2, 3, 4, 5], [0, 1, 2, 3, 4, 5, 6], [0, 1, 2, 3, 4, 5, 6, 7], [0, 1, 2, 3, 4, 5, 6, 7, 8], [0, 1, 2, 3, 4, 5, 6, 7, 8, 9], [0, 1, 2, 3, 4, 5, 6, 7, 8, 9, 10], [0, 1, 2, 3, 4, 5, 6, 7, 8, 9], [0, 1, 2, 3, 4, 5, 6, 7, 8, 9, 12], [0, 1, 2, 3, 4, 5, 6, 7, 8, 9, 10, 11, 12, 13], [0, 1, 2, 3, 4, 5, 6, 7, 8, 9, 10, 11, 12, 13, 14], [0, 1, 2, 3, 4, 5, 6, 7, 8, 9, 10, 11, 12, 13, 14, 15], [0, 1, 2, 3, 4, 5, 6, 7, 8, 9, 10, 11, 12, 13, 14, 15, 16], [0, 1, 2, 3, 4, 5, 6, 7, 8, 9, 10, 11, 12, 13, 14, 15, 16, 17], [0, 1, 2, 3, 4, 5, 6, 7, 8, 9, 10, 11, 12, 13, 14, 15, 16, 17, 18], [0, 1, 2, 3, 4, 5, 6, 7, 8, 9, 10, 11, 12, 13, 14, 15, 16, 17, 18, 19], [0, 1, 2, 3, 4, 5, 6, 7, 8, 9, 10, 11, 12, 13, 14, 15, 16, 17, 18, 19, 20], [0, 1, 2, 3, 4, 5, 6, 7, 8, 9, 10, 11, 12, 13, 14, 15, 16, 17, 18, 19], [0, 1, 2, 3, 4, 5, 6, 7, 8, 9, 10, 11, 12, 13, 14, 15, 16, 17, 18, 19, 22], [0, 1, 2, 3, 4, 5, 6, 7, 8, 9, 10, 11, 12, 13, 14, 15, 16, 17, 18, 19, 20, 21, 22, 23], [0, 1, 2, 3, 4, 5, 6, 7, 8, 9, 10, 11, 12, 13, 14, 15, 16, 17, 18, 19, 20, 21, 22, 23, 24], [0, 1, 2, 3, 4, 5, 6, 7, 8, 9, 10, 11, 12, 13, 14, 15, 16, 17, 18, 19, 20, 21, 22, 23, 24, 25], [0, 1, 2, 3, 4, 5, 6, 7, 8, 9, 10, 11, 12, 13, 14, 15, 16, 17, 18, 19], [0, 1, 2, 3, 4, 5, 6, 7, 8, 9, 10, 11, 12, 13, 14, 15, 16, 17, 18, 19, 27], [0, 1, 2, 3, 4, 5, 6, 7, 8, 9, 10, 11, 12, 13, 14, 15, 16, 17, 18, 19, 20, 21, 22, 23, 24, 25, 26, 27, 28], [0, 1, 2, 3, 4, 5, 6, 7, 8, 9, 10, 11, 12, 13, 14, 15, 16, 17, 18, 19, 20, 21, 22, 23, 24, 25, 26, 27, 28, 29], [0, 1, 2, 3, 4, 5, 6, 7, 8, 9, 10, 11, 12, 13, 14, 15, 16, 17, 18, 19, 20, 21, 22, 23, 24, 25, 26, 27, 28, 29, 30], [0, 1, 2, 3, 4, 5, 6, 7, 8, 9, 10, 11, 12, 13, 14, 15, 16, 17, 18, 19, 20, 21, 22, 23, 24, 25, 26, 27, 28, 29, 30, 31]] [[24, 25, 26, 27, 28, 29, 30, 31, 32, 33, 34, 35, 36, 37, 38, 39, 40, 41, 42, 43, 44, 45, 46, 47, 48, 49, 50, 51, 52], [25, 26, 27, 28, 29, 30, 31, 32, 33, 34, 35, 36, 37, 38, 39, 40, 41, 42, 43, 44, 45, 46, 47, 48, 49, 50, 51, 52], [26, 27, 28, 29, 30, 31, 32, 33, 34, 35, 36, 37, 38, 39, 40, 41, 42, 43, 44, 45, 46, 47, 48, 49, 50, 51, 52], [27, 28, 29, 30, 31, 32, 33, 34, 35, 36, 37, 38, 39, 40, 41, 42, 43, 44, 45, 46, 47, 48, 49, 50, 51, 52], [28, 29, 30, 31, 32, 33, 34, 35, 36, 37, 38, 39, 40, 41, 42, 43, 44, 45, 46, 47, 48, 49, 50, 51, 52], [29, 30, 31, 32, 33, 34, 35, 36, 37, 38, 39, 40, 41, 42, 43, 44, 45, 46, 47, 48, 49, 50, 51, 52], [30, 31, 32, 33, 34, 35, 36, 37, 38, 39, 40, 41, 42, 43, 44, 45, 46, 47, 48, 49, 50, 51, 52], [31, 32, 33, 34, 35, 36, 37, 38, 39, 40, 41, 42, 43, 44, 45, 46, 47, 48, 49, 50, 51, 52], [32, 33, 34, 35, 36, 37, 38, 39, 40, 41, 42, 43, 44, 45, 46, 47, 48, 49, 50, 51, 52], [33, 34, 35, 36, 37, 38, 39, 40, 41, 42, 43, 44, 45, 46, 47, 48, 49, 50, 51, 52], [34, 35, 36, 37, 38, 39, 40, 41, 42, 43, 44, 45, 46, 47, 48, 49, 50, 51, 52], [35, 36, 37, 38, 39, 40, 41, 42, 43, 44, 45, 46, 47, 48, 49, 50, 51, 52], [34, 35, 36, 37, 38, 39, 40, 41, 42, 43, 44, 45, 46, 47, 48, 49, 50, 51, 52], [34, 35, 37, 38, 39, 40, 41, 42, 43, 44, 45, 46, 47, 48, 49, 50, 51, 52], [38, 39, 40, 41, 42, 43, 44, 45, 46, 47, 48, 49, 50, 51, 52], [39, 40, 41, 42, 43, 44, 45, 46, 47, 48, 49, 50, 51, 52], [40, 41, 42, 43, 44, 45, 46, 47, 48, 49, 50, 51, 52], [41, 42, 43, 44, 45, 46, 47, 48, 49, 50, 51, 52], [42, 43, 44, 45, 46, 47, 48, 49, 50, 51, 52], [43, 44, 45, 46, 47, 48, 49, 50, 51, 52], [44, 45, 46, 47, 48, 49, 50, 51, 52], [45, 46, 47, 48, 49, 50, 51, 52], [44, 45, 46, 47, 48, 49, 50, 51, 52], [44, 45, 47, 48, 49, 50, 51, 52], [48, 49, 50, 51, 52], [49, 50, 51, 52], [50, 51, 52], [44, 45, 46, 47, 48, 49, 50, 51, 52], [44, 45, 46, 47, 48, 49, 50, 52]] (by decide) ?_
        simp
        refine DrC.ok hF (by rfl) (by simp) c3 (by simp) (by simp) ?_
        have hb1 : ¬ TmOk p d t → b = false := fun h => by rw [← hb]; simp; exact goodP_false ht h
        by_cases h1 : t.e.deg ≤ 12
        · have k1 : ¬ 12 < t.e.deg := by omega
          by_cases h2 : 1 ≤ t.v
          · have k2 : ¬ t.v < 1 := by omega
            by_cases h3 : t.v < p
            · have k3 : ¬ p ≤ t.v := by omega
              have hstep : (∀ j u, i = j + 1 → ts[j]? = some u → cmpE u.e t.e < 0) → InV d t.e → StepOk p d ts i := fun h h' x hx => by
                obtain rfl : t = x := Option.some.inj (ht.symm.trans hx)
                exact ⟨⟨h', h2, h3⟩, h⟩
              have hnx : StepOk p d ts i → ∀ j < i + 1, StepOk p d ts j := fun h j hj => by
                by_cases e : j = i
                · rw [e]; exact h
                · exact hall j (by omega)
              have hdd : d = 1 ∨ d = 2 ∨ d = 3 := by omega
              have hcase : (i = 0 ∨ ∃ j u, i = j + 1 ∧ ts[j]? = some u ∧ cmpE u.e t.e < 0) ∨ ∃ j u, i = j + 1 ∧ ts[j]? = some u ∧ ¬ cmpE u.e t.e < 0 := by
                by_cases hi0 : i = 0
                · exact .inl (.inl hi0)
                · obtain ⟨j, rfl⟩ : ∃ j, i = j + 1 := ⟨i - 1, by omega⟩
                  obtain ⟨u, hu⟩ : ∃ u, ts[j]? = some u := ⟨ts[j], List.getElem?_eq_getElem (by omega)⟩
                  by_cases h : cmpE u.e t.e < 0
                  · exact .inl (.inr ⟨j, u, rfl, hu, h⟩)
                  · exact .inr ⟨j, u, rfl, hu, h⟩
              rcases hcase with hc | ⟨j, u, rfl, hu, h4⟩
              · have hprev : ∀ j u, i = j + 1 → ts[j]? = some u → cmpE u.e t.e < 0 := by
                  intro j u hj hu
                  rcases hc with rfl | ⟨j', u', rfl, hu', h⟩
                  · omega
                  · have : j' = j := by omega
                    subst this
                    rw [hu] at hu'
                    obtain rfl := Option.some.inj hu'
                    exact h
                rcases hc with rfl | ⟨j, u, rfl, hu, h4⟩
                · simp [k1, k2, k3]
                  refine S 60 _ _ ?_
                  simp
                  refine J.clean hw ⟨[(1, .c (.ref 64001 0)), (2, .c (.d (bo false))), (17, .c (.d (vTerms ts))), (18, .c (.d (i64 ts.length))), (19, .c (.d (i64 (0 : Nat)))), (4, .c (.ref 64004 0)), (5, .c (.d (i64 d)))], [(64001, .var [.d (i64 p), .d (i64 d), .d (vTerms ts)]), (64004, .var [.d (u8 t.e.a), .d (u8 t.e.b), .d (u8 t.e.c), .d (i64 t.v)])]⟩ (by simp) ?_
                  rcases hdd with rfl | rfl | rfl
                  · refine J.rounds 4 (LpW.step (S 60 _ _ ?_))
                    simp
                    refine ⟨fun hz => ?_, fun hz => ?_⟩
                    · have hb2 := hb1 fun h => hz (h.1.1 (by omega))
                      simp [hb2]
                    · refine LpW.inv (LpW.step (S 60 _ _ ?_))
                      simp
                      refine ⟨fun hy => ?_, fun hy => ?_⟩
                      · have hb2 := hb1 fun h => hy (h.1.2.1 (by omega))
                        simp [hb2]
                      · refine LpW.inv (LpW.step (S 60 _ _ ?_))
                        simp
                        exact Nxt.mk (0 + 1) ⟨by omega, hnx (hstep hprev ⟨fun _ => by simp_all, fun _ => by simp_all, h1⟩)⟩ (by simp [wrapS (i := 0) (n := ts.length) hlt (by omega)]) (by omega)
                  · refine J.rounds 4 (LpW.step (S 60 _ _ ?_))
                    simp
                    refine ⟨fun hy => ?_, fun hy => ?_⟩
                    · have hb2 := hb1 fun h => hy (h.1.2.1 (by omega))
                      simp [hb2]
                    · refine LpW.inv (LpW.step (S 60 _ _ ?_))
                      simp
                      exact Nxt.mk (0 + 1) ⟨by omega, hnx (hstep hprev ⟨fun h => absurd h (by omega), fun _ => by simp_all, h1⟩)⟩ (by simp [wrapS (i := 0) (n := ts.length) hlt (by omega)]) (by omega)
                  · refine J.rounds 4 (LpW.step (S 60 _ _ ?_))
                    simp
                    exact Nxt.mk (0 + 1) ⟨by omega, hnx (hstep hprev ⟨fun h => absurd h (by omega), fun h => absurd h (by omega), h1⟩)⟩ (by simp [wrapS (i := 0) (n := ts.length) hlt (by omega)]) (by omega)
                · have c4 := compareExps_ok u.e t.e
                  have hj0 : (0 : Int) < ((j + 1 : Nat) : Int) := by omega
                  have hwj : IntKind.i64.wrap (j : Int) = j := by rw [wrap64] <;> omega
                  have k4 : ¬ 0 ≤ cmpE u.e t.e := by omega
                  simp [k1, k2, k3, hj0, hwj]
                  refine ⟨by omega, fun x hx => ?_⟩
                  obtain rfl : u = x := Option.some.inj (hu.symm.trans hx)
                  refine S 60 _ _ ?_
                  simp
                  refine CallW.ok (by decide) (by simp) c4 (by simp) (S 60 _ _ ?_)
                  simp [k4]
                  refine J.clean hw ⟨[(1, .c (.ref 64001 0)), (2, .c (.d (bo false))), (17, .c (.d (vTerms ts))), (18, .c (.d (i64 ts.length))), (19, .c (.d (i64 (j + 1 : Nat)))), (4, .c (.ref 64004 0)), (5, .c (.d (i64 d)))], [(64001, .var [.d (i64 p), .d (i64 d), .d (vTerms ts)]), (64004, .var [.d (u8 t.e.a), .d (u8 t.e.b), .d (u8 t.e.c), .d (i64 t.v)])]⟩ (by simp) ?_
                  rcases hdd with rfl | rfl | rfl
                  · refine J.rounds 4 (LpW.step (S 60 _ _ ?_))
                    simp
                    refine ⟨fun hz => ?_, fun hz => ?_⟩
                    · have hb2 := hb1 fun h => hz (h.1.1 (by omega))
                      simp [hb2]
                    · refine LpW.inv (LpW.step (S 60 _ _ ?_))
                      simp
                      refine ⟨fun hy => ?_, fun hy => ?_⟩
                      · have hb2 := hb1 fun h => hy (h.1.2.1 (by omega))
                        simp [hb2]
                      · refine LpW.inv (LpW.step (S 60 _ _ ?_))
                        simp
                        exact Nxt.mk ((j + 1) + 1) ⟨by omega, hnx (hstep hprev ⟨fun _ => by simp_all, fun _ => by simp_all, h1⟩)⟩ (by simp; rw [wrap64] <;> omega) (by omega)
                  · refine J.rounds 4 (LpW.step (S 60 _ _ ?_))
                    simp
                    refine ⟨fun hy => ?_, fun hy => ?_⟩
                    · have hb2 := hb1 fun h => hy (h.1.2.1 (by omega))
                      simp [hb2]
                    · refine LpW.inv (LpW.step (S 60 _ _ ?_))
                      simp
                      exact Nxt.mk ((j + 1) + 1) ⟨by omega, hnx (hstep hprev ⟨fun h => absurd h (by omega), fun _ => by simp_all, h1⟩)⟩ (by simp; rw [wrap64] <;> omega) (by omega)
                  · refine J.rounds 4 (LpW.step (S 60 _ _ ?_))
                    simp
                    exact Nxt.mk ((j + 1) + 1) ⟨by omega, hnx (hstep hprev ⟨fun h => absurd h (by omega), fun h => absurd h (by omega), h1⟩)⟩ (by simp; rw [wrap64] <;> omega) (by omega)
              · have c4 := compareExps_ok u.e t.e
                have hj0 : (0 : Int) < ((j + 1 : Nat) : Int) := by omega
                have hwj : IntKind.i64.wrap (j : Int) = j := by rw [wrap64] <;> omega
                have k4 : 0 ≤ cmpE u.e t.e := by omega
                have hb2 : b = false := by rw [← hb]; simp; exact goodP_false2 ht hu rfl h4
                simp [k1, k2, k3, hj0, hwj]
                refine ⟨by omega, fun x hx => ?_⟩
                obtain rfl : u = x := Option.some.inj (hu.symm.trans hx)
                refine S 60 _ _ ?_
                simp
                refine CallW.ok (by decide) (by simp) c4 (by simp) (S 60 _ _ ?_)
                simp [k4, hb2]
            · have k3 : p ≤ t.v := by omega
              have hb2 := hb1 fun h => h3 h.2.2
              simp [k1, k2, k3]
              refine S 60 _ _ ?_
              simp [hb2]
          · have k2 : t.v < 1 := by omega
            have hb2 := hb1 fun h => h2 h.2.1
            simp [k1, k2]
            refine S 60 _ _ ?_
            simp [hb2]
        · have k1 : 12 < t.e.deg := by omega
          have hb2 := hb1 fun h => h1 h.1.2.2
          simp [k1]
          refine S 60 _ _ ?_
          simp [hb2]
      · refine S 60 _ _ ?_
        simp
        rw [← hb]
        have : GoodP p d ts := (goodP_iff hp hd).2 fun j hj => hall j (by omega)
        simpa using this
    · rw [decide_eq_false hd] at c2
      have hb' : b = false := by rw [← hb]; simp; exact fun h => hd h.2.1
      simp
      refine CallW.ok (by decide) (by simp) c1 (by simp) (S 60 _ _ ?_)
      simp
      refine CallW.ok (by decide) (by simp) c2 (by simp) (S 60 _ _ ?_)
      simp [hb']
  · rw [decide_eq_false hp] at c1
    have hb' : b = false := by rw [← hb]; simp; exact fun h => hp h.1
    simp
    refine CallW.ok (by decide) (by simp) c1 (by simp) (S 60 _ _ ?_)
    simp [hb']

set_option maxHeartbeats 2000000 in
set_option maxRecDepth 4000 in
theorem l01Is_ok (p d : Int) (ts : List Tm) (hl : ts.length ≤ 1048576) : CallOK Go.Proofs.Tryz.prog 27 [pv p d ts] (.one (bo (decide (GoodP p d ts)))) := by
  have hF := fnOk 59 [.tmp 2]
  refine callOK hF 60 Go.Proofs.Tryz.func27 rfl rfl rfl (by decide) (by simp) rfl ?_
  intro w0 hw
  have S := @vc_sound w0 _ hF ⟨(.one (bo (decide (GoodP p d ts)))), []⟩ Go.Proofs.Tryz.f27 rfl (by simp)
  have c1 := l01Prime_ok p
  have c2 := l01In_ok d 1 3
  generalize hb : decide (GoodP p d ts) = b at S ⊢
  by_cases hp : Pr p
  · rw [decide_eq_true hp] at c1
    have hpp := hp.pos
    by_cases hd : 1 ≤ d ∧ d ≤ 3
    · rw [decide_eq_true hd] at c2
      have hwp : IntKind.i64.wrap (p - 1) = p - 1 := wrap64 (by omega) (by omega)
      simp
      refine CallW.ok (by decide) (by simp) c1 (by simp) (S 60 _ _ ?_)
      simp
      refine CallW.ok (by decide) (by simp) c2 (by simp) (S 60 _ _ ?_)
      simp
      refine J.loop hw (fun i : Nat => ⟨[(1, .c (.ref 64001 0)), (2, .c (.d (bo false))), (3, .c (.d (i64 i)))], [(64001, .var [.d (i64 p), .d (i64 d), .d (vTerms ts)])]⟩)
        (fun i => i ≤ ts.length ∧ ∀ j < i, StepOk p d ts j) (fun i => ts.length - i) 0 (by simp) (by simp) ?_
      rintro i ⟨hi, hall⟩
      refine S 10 _ _ ?_
      simp
      refine ⟨fun hlt => ?_, fun hge => ?_⟩
      · obtain ⟨t, ht⟩ : ∃ t, ts[i]? = some t := ⟨ts[i], List.getElem?_eq_getElem hlt⟩
        have c3 := l01Exps_ok d t.e hd.1 hd.2
        have c4 := l01In_ok t.v 1 (p - 1)
        have hb1 : ¬ TmOk p d t → b = false := fun h => by rw [← hb]; simp; exact goodP_false ht h
        refine S 9 _ _ ?_
        simp
        refine ⟨hlt, fun x hx => ?_⟩
        obtain rfl : t = x := Option.some.inj (ht.symm.trans hx)
        clear hx
        try (refine S 60 _ _ ?_; simp)
        refine J.dr hF mixed 28 [[], [0], [], [2], [0, 1, 2, 3], [0, 1, 2, 3, 4], [0, 1, 2, 3, 4, 5], [0, 1, 2, 3, 4, 5, 6], [0, 1, 2, 3, 4, 5, 6, 7], [0, 1, 2, 3, 4, 5, 6], [0, 1, 2, 3, 4, 5, 6, 9], [0, 1, 2, 3, 4, 5, 6, 9, 10], [0, 1, 2, 3, 4, 5, 6, 7, 8, 9, 10, 11], [0, 1, 2, 3, 4, 5, 6, 7, 8, 9, 10, 11, 12], [0, 1, 2, 3, 4, 5, 6, 7, 8, 9, 10, 11, 12, 13], [0, 1, 2, 3, 4, 5, 6, 7, 8, 9, 10, 11, 12, 13, 14], [0, 1, 2, 3, 4, 5, 6, 7, 8, 9, 10, 11, 12, 13, 14, 15], [0, 1, 2, 3, 4, 5, 6, 7, 8, 9, 10, 11, 12, 13, 14, 15, 16], [0, 1, 2, 3, 4, 5, 6, 7, 8, 9, 10, 11, 12, 13, 14, 15, 16, 17], [0, 1, 2, 3, 4, 5, 6, 7, 8, 9, 10, 11, 12, 13, 14, 15, 16, 17, 18], [0, 1, 2, 3, 4, 5, 6, 7, 8, 9, 10, 11, 12, 13, 14, 15, 16, 17, 18, 19], [0, 1, 2, 3, 4, 5, 6, 7, 8, 9, 10, 11, 12, 13, 14, 15, 16, 17, 18], [0, 1, 2, 3, 4, 5, 6, 7, 8, 9, 10, 11, 12, 13, 14, 15, 16, 17, 18, 21], [0, 1, 2, 3, 4, 5, 6, 7, 8, 9, 10, 11, 12, 13, 14, 15, 16, 17, 18, 19, 20, 21, 22], [0, 1, 2, 3, 4, 5, 6, 7, 8, 9, 10, 11, 12, 13, 14, 15, 16, 17, 18, 19, 20, 21, 22, 23], [0, 1, 2, 3, 4, 5, 6, 7, 8, 9, 10, 11, 12, 13, 14, 15, 16, 17, 18, 19, 20, 21, 22, 23, 24], [0, 1, 2, 3, 4, 5, 6, 7, 8, 9, 10, 11, 12, 13, 14, 15, 16, 17, 18], [0, 1, 2, 3, 4, 5, 6, 7, 8, 9, 10, 11, 12, 13, 14, 15, 16, 17, 18, 26], [0, 1, 2, 3, 4, 5, 6, 7, 8, 9, 10, 11, 12, 13, 14, 15, 16, 17, 18, 19, 20, 21, 22, 23, 24, 25, 26, 27], [0, 1, 2, 3, 4, 5, 6, 7, 8, 9, 10, 11, 12, 13, 14, 15, 16, 17, 18, 19, 20, 21, 22, 23, 24, 25, 26, 27, 28], [0, 1, 2, 3, 4, 5, 6, 7, 8, 9, 10, 11, 12, 13, 14, 15, 16, 17, 18, 19, 20, 21, 22, 23, 24, 25, 26, 27, 28, 29], [0, 1, 2, 3, 4, 5, 6, 7, 8, 9, 10, 11, 12, 13, 14, 15, 16, 17, 18, 19, 20, 21, 22, 23, 24, 25, 26, 27, 28, 29, 30]] [[27, 28, 29, 30, 31, 32, 33, 34, 35, 36, 37, 38, 39, 40, 41, 42, 43, 44, 45, 46, 47, 48, 49, 50, 51, 52, 53, 54], [28, 29, 30, 31, 32, 33, 34, 35, 36, 37, 38, 39, 40, 41, 42, 43, 44, 45, 46, 47, 48, 49, 50, 51, 52, 53, 54], [27, 28, 29, 30, 31, 32, 33, 34, 35, 36, 37, 38, 39, 40, 41, 42, 43, 44, 45, 46, 47, 48, 49, 50, 51, 52, 53, 54], [27, 28, 30, 31, 32, 33, 34, 35, 36, 37, 38, 39, 40, 41, 42, 43, 44, 45, 46, 47, 48, 49, 50, 51, 52, 53, 54], [31, 32, 33, 34, 35, 36, 37, 38, 39, 40, 41, 42, 43, 44, 45, 46, 47, 48, 49, 50, 51, 52, 53, 54], [32, 33, 34, 35, 36, 37, 38, 39, 40, 41, 42, 43, 44, 45, 46, 47, 48, 49, 50, 51, 52, 53, 54], [33, 34, 35, 36, 37, 38, 39, 40, 41, 42, 43, 44, 45, 46, 47, 48, 49, 50, 51, 52, 53, 54], [34, 35, 36, 37, 38, 39, 40, 41, 42, 43, 44, 45, 46, 47, 48, 49, 50, 51, 52, 53, 54], [35, 36, 37, 38, 39, 40, 41, 42, 43, 44, 45, 46, 47, 48, 49, 50, 51, 52, 53, 54], [34, 35, 36, 37, 38, 39, 40, 41, 42, 43, 44, 45, 46, 47, 48, 49, 50, 51, 52, 53, 54], [34, 35, 37, 38, 39, 40, 41, 42, 43, 44, 45, 46, 47, 48, 49, 50, 51, 52, 53, 54], [34, 35, 38, 39, 40, 41, 42, 43, 44, 45, 46, 47, 48, 49, 50, 51, 52, 53, 54], [39, 40, 41, 42, 43, 44, 45, 46, 47, 48, 49, 50, 51, 52, 53, 54], [40, 41, 42, 43, 44, 45, 46, 47, 48, 49, 50, 51, 52, 53, 54], [41, 42, 43, 44, 45, 46, 47, 48, 49, 50, 51, 52, 53, 54], [42, 43, 44, 45, 46, 47, 48, 49, 50, 51, 52, 53, 54], [43, 44, 45, 46, 47, 48, 49, 50, 51, 52, 53, 54], [44, 45, 46, 47, 48, 49, 50, 51, 52, 53, 54], [45, 46, 47, 48, 49, 50, 51, 52, 53, 54], [46, 47, 48, 49, 50, 51, 52, 53, 54], [47, 48, 49, 50, 51, 52, 53, 54], [46, 47, 48, 49, 50, 51, 52, 53, 54], [46, 47, 49, 50, 51, 52, 53, 54], [50, 51, 52, 53, 54], [51, 52, 53, 54], [52, 53, 54], [46, 47, 48, 49, 50, 51, 52, 53, 54], [46, 47, 48, 49, 50, 51, 52, 54]] (by decide) ?_
        simp
        refine DrC.ok hF (by rfl) (by simp) c3 (by simp) (by simp) ?_
        by_cases h1 : InV d t.e
        · by_cases h2 : 1 ≤ t.v ∧ t.v ≤ p - 1
          · rw [decide_eq_true h2] at c4
            have hstep : (∀ j u, i = j + 1 → ts[j]? = some u → cmpE u.e t.e < 0) → ∀ j < i + 1, StepOk p d ts j := fun h j hj => by
              by_cases e : j = i
              · rw [e]
                intro x hx
                obtain rfl : t = x := Option.some.inj (ht.symm.trans hx)
                exact ⟨⟨h1, h2.1, by omega⟩, h⟩
              · exact hall j (by omega)
            by_cases hi0 : i = 0
            · subst hi0
              simp [h1]
              refine DrC.ok hF (by rfl) (by simp [hwp]) c4 (by simp) (by simp) ?_
              simp
              refine S 60 _ _ ?_
              simp
              exact Nxt.mk (0 + 1) ⟨by omega, hstep fun j u hj => by omega⟩ (by simp) (by omega)
            · obtain ⟨j, rfl⟩ : ∃ j, i = j + 1 := ⟨i - 1, by omega⟩
              obtain ⟨u, hu⟩ : ∃ u, ts[j]? = some u := ⟨ts[j], List.getElem?_eq_getElem (by omega)⟩
              have c5 := l01Before_ok u.e t.e
              have hj0 : (0 : Int) < ((j + 1 : Nat) : Int) := by omega
              have hwj : IntKind.i64.wrap (j : Int) = j := by rw [wrap64] <;> omega
              simp [h1]
              refine DrC.ok hF (by rfl) (by simp [hwp]) c4 (by simp) (by simp) ?_
              simp [hj0, hwj]
              refine ⟨by omega, fun x hx => ?_⟩
              obtain rfl : u = x := Option.some.inj (hu.symm.trans hx)
              refine S 60 _ _ ?_
              simp
              by_cases h4 : cmpE u.e t.e < 0
              · rw [decide_eq_true h4] at c5
                refine CallW.ok (by decide) (by simp) c5 (by simp) (S 60 _ _ ?_)
                simp
                refine Nxt.mk (j + 1 + 1) ⟨by omega, hstep fun j' u' hj hu' => ?_⟩ (by simp; rw [wrap64] <;> omega) (by omega)
                obtain rfl : j = j' := by omega
                obtain rfl : u = u' := Option.some.inj (hu.symm.trans hu')
                exact h4
              · rw [decide_eq_false h4] at c5
                have hb2 : b = false := by rw [← hb]; simp; exact goodP_false2 ht hu rfl h4
                refine CallW.ok (by decide) (by simp) c5 (by simp) (S 60 _ _ ?_)
                simp [hb2]
          · rw [decide_eq_false h2] at c4
            have hb2 := hb1 fun h => h2 ⟨h.2.1, by have := h.2.2; omega⟩
            simp [h1]
            refine DrC.ok hF (by rfl) (by simp [hwp]) c4 (by simp) (by simp) ?_
            simp
            refine S 60 _ _ ?_
            simp [hb2]
        · have hb2 := hb1 fun h => h1 h.1
          simp [h1]
          refine S 60 _ _ ?_
          simp [hb2]
      · refine S 60 _ _ ?_
        simp
        rw [← hb]
        have : GoodP p d ts := (goodP_iff hp hd).2 fun j hj => hall j (by omega)
        simpa using this
    · rw [decide_eq_false hd] at c2
      have hb' : b = false := by rw [← hb]; simp; exact fun h => hd h.2.1
      simp
      refine CallW.ok (by decide) (by simp) c1 (by simp) (S 60 _ _ ?_)
      simp
      refine CallW.ok (by decide) (by simp) c2 (by simp) (S 60 _ _ ?_)
      simp [hb']
  · rw [decide_eq_false hp] at c1
    have hb' : b = false := by rw [← hb]; simp; exact fun h => hp h.1
    simp
    refine CallW.ok (by decide) (by simp) c1 (by simp) (S 60 _ _ ?_)
    simp [hb']

end Go.Sm

namespace Go.Sm
open Go.RowKit

theorem toExps_ok (e : Ex) : CallOK Go.Proofs.Tryz.prog 155 [.agg e.ds] (.agg e.ds) := by
  have hF := fnOk 15 [.cell 2 91]
  refine callOK hF 60 Go.Proofs.Tryz.func155 rfl rfl rfl (by decide) (by simp) rfl ?_
  intro w0 hw
  have S := @vc_sound w0 _ hF ⟨(.agg e.ds), []⟩ Go.Proofs.Tryz.f155 rfl (by simp)
  simp
  refine J.rounds 5 (LpW.step (S 60 _ _ ?_))
  simp
  refine LpW.inv (LpW.step (S 60 _ _ ?_))
  simp
  refine LpW.inv (LpW.step (S 60 _ _ ?_))
  simp
  refine LpW.inv (LpW.step (S 60 _ _ ?_))
  simp

theorem toTerm_ok (t : Tm) : CallOK Go.Proofs.Tryz.prog 126 [.agg [u8 t.e.a, u8 t.e.b, u8 t.e.c, i64 t.v]] (.agg [u8 t.e.a, u8 t.e.b, u8 t.e.c, i64 t.v]) := by
  have hF := fnOk 12 [.cell 2 109]
  refine callOK hF 60 Go.Proofs.Tryz.func126 rfl rfl rfl (by decide) (by simp) rfl ?_
  intro w0 hw
  have S := @vc_sound w0 _ hF ⟨(.agg [u8 t.e.a, u8 t.e.b, u8 t.e.c, i64 t.v]), []⟩ Go.Proofs.Tryz.f126 rfl (by simp)
  have c1 := toExps_ok t.e
  simp
  refine CallW.ok (by decide) (by simp) c1 (by simp) (S 60 _ _ ?_)
  simp

theorem toTermS_ok (ts : List Tm) (hl : ts.length ≤ 1048576) : CallOK Go.Proofs.Tryz.prog 75 [.one (vTerms ts)] (.one (oTerms ts)) := by
  have hF := fnOk 23 [.tmp 2]
  refine callOK hF 60 Go.Proofs.Tryz.func75 rfl rfl rfl (by decide) (by simp) rfl ?_
  intro w0 hw
  have S := @vc_sound w0 _ hF ⟨(.one (oTerms ts)), []⟩ Go.Proofs.Tryz.f75 rfl (by simp)
  simp
  refine ⟨by omega, ?_⟩
  refine J.loop hw (fun p : Nat × List Tm => ⟨[(0, .c (.d (vTerms ts))), (3, .c (.ob 64003)), (4, .c (.d (i64 p.1)))], [(64003, .arr 109 4 (terms p.2))]⟩)
    (fun p => p.1 ≤ ts.length ∧ p.2.length = ts.length ∧ p.2.take p.1 = ts.take p.1) (fun p => ts.length - p.1) (0, List.replicate ts.length ⟨⟨0, 0, 0⟩, 0⟩) (by simp) (by simp) ?_
  rintro ⟨i, zs⟩ ⟨hi, hlen, htk⟩
  simp only at hi hlen htk
  refine S 12 _ _ ?_
  simp
  refine ⟨fun hlt => ?_, fun hge => ?_⟩
  · obtain ⟨t, ht⟩ : ∃ t, ts[i]? = some t := ⟨ts[i], List.getElem?_eq_getElem hlt⟩
    obtain ⟨u, hu⟩ : ∃ u, zs[i]? = some u := ⟨zs[i], List.getElem?_eq_getElem (by omega)⟩
    have c1 := toTerm_ok t
    refine S 9 _ _ ?_
    simp
    refine ⟨hlt, fun x hx => ?_⟩
    obtain rfl : t = x := Option.some.inj (ht.symm.trans hx)
    refine CallW.ok (by decide) (by simp) c1 (by simp) (S 60 _ _ ?_)
    simp [hlen, hu]
    refine ⟨hlt, ?_⟩
    refine Nxt.mk (i + 1, zs.set i t) ⟨by show i + 1 ≤ _; omega, by simpa using hlen, ?_⟩ (by simp [wrapS (i := i) (n := ts.length) hlt (by omega), List.map_set]) (by show ts.length - (i + 1) < ts.length - i; omega)
    show (zs.set i t).take (i + 1) = ts.take (i + 1)
    rw [List.take_add_one, List.take_set_of_le (Nat.le_refl i), htk, List.take_add_one, ht]
    simp [show i < zs.length by omega]
  · have e : zs = ts := by
      have h1 : zs.take i = zs := List.take_of_length_le (by omega)
      have h2 : ts.take i = ts := List.take_of_length_le (by omega)
      rw [← h1, htk, h2]
    refine S 60 _ _ ?_
    simp [e]

theorem szTermS_ok (ts : List Tm) (n : Int) (hn : 0 ≤ n) (hn2 : n ≤ 4611686018427387904) (hl : ts.length ≤ maxLen) : CallOK Go.Proofs.Tryz.prog 62 [.one (vTerms ts), .one (i64 n)] (.one (i64 (if n - ts.length < 0 then -1 else n - ts.length))) := by
  have hF := fnOk 12 [.tmp 4]
  refine callOK hF 60 Go.Proofs.Tryz.func62 rfl rfl rfl (by decide) (by simp) rfl ?_
  intro w0 hw
  have S := @vc_sound w0 _ hF ⟨(.one (i64 (if n - ts.length < 0 then -1 else n - ts.length))), []⟩ Go.Proofs.Tryz.f62 rfl (by simp)
  have hm : maxLen = 9223372036854775807 := rfl
  have hw1 : IntKind.i64.wrap (n - ts.length) = n - ts.length := wrap64 (by omega) (by omega)
  by_cases h : n - ts.length < 0
  · rw [if_pos h] at S ⊢
    simp [hw1, h]
  · rw [if_neg h] at S ⊢
    simp [hw1, h]

theorem toPoly_ok (p d : Int) (ts : List Tm) (hl : ts.length ≤ 1048576) : CallOK Go.Proofs.Tryz.prog 29 [pv p d ts] (po p d ts) := by
  have hF := fnOk 15 [.cell 2 40]
  refine callOK hF 60 Go.Proofs.Tryz.func29 rfl rfl rfl (by decide) (by simp) rfl ?_
  intro w0 hw
  have S := @vc_sound w0 _ hF ⟨(po p d ts), []⟩ Go.Proofs.Tryz.f29 rfl (by simp)
  have c1 := toTermS_ok ts hl
  simp
  refine CallW.ok (by decide) (by simp) c1 (by simp) (S 60 _ _ ?_)
  simp

theorem szPoly_ok (p d : Int) (ts : List Tm) (n : Int) (hn : 0 ≤ n) (hn2 : n ≤ 4611686018427387904) (hl : ts.length ≤ maxLen) : CallOK Go.Proofs.Tryz.prog 24 [pv p d ts, .one (i64 n)] (.one (i64 (if n - ts.length < 0 then -1 else n - ts.length))) := by
  have hF := fnOk 12 [.tmp 4]
  refine callOK hF 60 Go.Proofs.Tryz.func24 rfl rfl rfl (by decide) (by simp) rfl ?_
  intro w0 hw
  have S := @vc_sound w0 _ hF ⟨(.one (i64 (if n - ts.length < 0 then -1 else n - ts.length))), []⟩ Go.Proofs.Tryz.f24 rfl (by simp)
  have c1 := szTermS_ok ts n hn hn2 hl
  by_cases h : n - ts.length < 0
  · rw [if_pos h] at S c1 ⊢
    simp
    refine CallW.ok (by decide) (by simp) c1 (by simp) (S 60 _ _ ?_)
    simp
  · rw [if_neg h] at S c1 ⊢
    simp
    refine CallW.ok (by decide) (by simp) c1 (by simp) (S 60 _ _ ?_)
    simp [h]

end Go.Sm

namespace Go.Sm
open Go.RowKit

end Go.Sm
