/- Towards the rows of this seat: what the functions do, as contracts over plain data. -/
import Derived.Test.YtdfihhfnnogpeaaGreatPkQrNewRelationsBK29
import Derived.Test.YtdfihhfnnogpeaaGreatPkQrNewRelationsBK32
import Derived.Test.YtdfihhfnnogpeaaGreatPkQrNewRelationsBK31
import Derived.Test.YtdfihhfnnogpeaaGreatPkQrNewRelationsBK4
namespace Go.Sm
open Go.RowKit

/-- The new number of relations and the error. -/
noncomputable def newR (ys : List Pl) (n : Int) : Int × Int :=
  if manyN ys n ≠ 0 then (0, manyN ys n) else match ys[0]? with
  | none => (0, 2)
  | some y0 => (((relK y0.p y0.d ys n.toNat).length : Int) - ((echL y0.p (liftS y0.p y0.d ys n.toNat n.toNat)).length : Int), 0)
theorem newR_bad {ys : List Pl} {n : Int} (h : manyN ys n ≠ 0) : newR ys n = (0, manyN ys n) := by unfold newR; rw [if_pos h]
theorem newR_ok {ys : List Pl} {n : Nat} {y0 : Pl} (h : manyN ys n = 0) (h0 : ys[0]? = some y0) : newR ys n = (((relK y0.p y0.d ys n).length : Int) - ((echL y0.p (liftS y0.p y0.d ys n n)).length : Int), 0) := by
  unfold newR
  rw [if_neg (by simpa using h), h0, Int.toNat_natCast]
theorem relOk_of {ys : List Pl} {n : Int} {y0 : Pl} (f0 : relN ys n = 0) (h0 : ys[0]? = some y0) : RelOk y0.p y0.d ys := by
  obtain ⟨ha, hne, hL, hn, hp, hd, hg, hd1⟩ := relN_facts f0 h0
  exact ⟨hp, hd, hg, hL_of h0 hL hg, hd1, hL.1, hne⟩

set_option maxHeartbeats 1000000 in
theorem specNewRelations_ok (ys : List Pl) (n : Int) (hl : ys.length ≤ 1048576) (hr : ∀ y ∈ ys, y.ts.length ≤ 1048576) : CallOK Go.Proofs.Tryz.prog 17 [.one (vPolys ys), .one (i64 n)] (.tup [(false, [i64 (newR ys n).1]), (false, [i64 (newR ys n).2])]) := by
  have hF := fnOk 27 [.tmp 4, .tmp 5]
  refine callOK hF 60 Go.Proofs.Tryz.func17 rfl rfl rfl (by decide) (by simp) rfl ?_
  intro w0 hw
  have S := @vc_sound w0 _ hF ⟨(.tup [(false, [i64 (newR ys n).1]), (false, [i64 (newR ys n).2])]), []⟩ Go.Proofs.Tryz.f17 rfl (by simp)
  have c1 := l09Some_ok ys n hl hr
  by_cases h0 : manyN ys n = 0
  · obtain ⟨f0, f1⟩ := manyN_facts h0
    obtain ⟨y0, hy0⟩ := relN_first f0
    have hR := relOk_of f0 hy0
    obtain ⟨ha, hne, hL, hn, hp, hd, hg, hd1⟩ := relN_facts f0 hy0
    obtain ⟨N, rfl⟩ : ∃ N : Nat, n = N := ⟨n.toNat, by omega⟩
    rw [Int.toNat_natCast] at f1
    rw [h0] at c1
    rw [newR_ok h0 hy0] at S ⊢
    have c2 := l09Relations_ok y0.p y0.d ys N hp hd hg hL.1 hne hd1 (by omega) (by omega)
    have c3 := l09Lifted_ok y0.p y0.d ys N hR (by omega)
    have hml := liftS_len hR (n := N) (by omega) (Nat.le_refl N)
    have hN : N * (125970 * 125970) ≤ 12 * (125970 * 125970) := Nat.mul_le_mul_right _ (by omega)
    have hrow := liftS_row hR (n := N) (by omega) (Nat.le_refl N)
    have hcl : (expsL (ys.map dgP) N).length ≤ 125970 := cntL_many hR.ds (by rw [List.length_map]; exact hR.hl) (by omega)
    have c4 := l01EchelonG_ok y0.p (expsL (ys.map dgP) N).length (liftS y0.p y0.d ys N N) hp (by omega) (by omega) hrow
    have hel := ech_le hp hrow
    have hkl := (relK_len hp hg hd1 (n := N) (by omega)).1
    have hkl : (relK y0.p y0.d ys N).length ≤ (expsL (ys.map dgP) N).length := hkl
    have hlt0 : 0 < ys.length := List.length_pos_iff.2 hne
    generalize relK y0.p y0.d ys N = K at c2 hkl S ⊢
    generalize echL y0.p (liftS y0.p y0.d ys N N) = E at c4 hel S ⊢
    generalize liftS y0.p y0.d ys N N = L at c3 c4
    have hw1 : IntKind.i64.wrap ((K.length : Int) - (E.length : Int)) = (K.length : Int) - (E.length : Int) := by rw [wrap64] <;> omega
    simp
    refine CallW.ok (by decide) (by simp) c1 (by simp) (S 60 _ _ ?_)
    simp
    refine J.dr hF mixed 13 [[], [], [0, 1], [0, 1, 2], [], [4], [4, 5], [4, 5, 6], [], [], [0, 1, 2, 8, 9], [0, 1, 2, 4, 5, 6, 7, 8, 9, 10], [0, 1, 2, 4, 5, 6, 7, 8, 9, 10, 11], [0, 1, 2, 3, 4, 5, 6, 7, 8, 9, 10, 11, 12], [0, 1, 2, 3, 4, 5, 6, 7, 8, 9, 10, 11, 12, 13], [0, 1, 2, 3, 4, 5, 6, 7, 8, 9, 10, 11, 12, 13, 14]] [[13, 14, 15, 16, 17, 18, 19, 20, 21, 22, 23, 24, 25], [13, 14, 15, 16, 17, 18, 19, 20, 21, 22, 23, 24, 25], [15, 16, 17, 18, 19, 20, 21, 22, 23, 24, 25], [16, 17, 18, 19, 20, 21, 22, 23, 24, 25], [13, 14, 15, 16, 17, 18, 19, 20, 21, 22, 23, 24, 25], [13, 14, 15, 16, 18, 19, 20, 21, 22, 23, 24, 25], [13, 14, 15, 16, 19, 20, 21, 22, 23, 24, 25], [13, 14, 15, 16, 20, 21, 22, 23, 24, 25], [13, 14, 15, 16, 17, 18, 19, 20, 21, 22, 23, 24, 25], [13, 14, 15, 16, 17, 18, 19, 20, 21, 22, 23, 24, 25], [16, 17, 18, 19, 20, 23, 24, 25], [16, 24, 25], [16, 25]] (by decide) ?_
    simp
    refine DrC.ok hF (by rfl) (by simp) c2 (by simp) (by simp) ?_
    simp
    refine ⟨hlt0, fun y hy => ?_⟩
    obtain rfl := Option.some.inj (hy0.symm.trans hy)
    refine DrC.ok hF (by rfl) (by simp) c3 (by simp) (by simp) ?_
    simp
    refine DrC.ok hF (by rfl) (by simp) c4 (by simp) (by simp) ?_
    simp
    refine S 60 _ _ ?_
    simp
    exact hw1
  · rw [newR_bad h0] at S ⊢
    generalize manyN ys n = c at c1 h0 S ⊢
    simp
    refine CallW.ok (by decide) (by simp) c1 (by simp) (S 60 _ _ ?_)
    simp [h0]
end Go.Sm

namespace Go.Sm
open Go.RowKit

/-! ### the places, as a map -/
theorem mpIdx_new : ∀ {xs : List (List Int × Value)} {k : List Int} {i : Nat}, (∀ q ∈ xs, q.1 ≠ k) → mpIdx xs k i = none
  | [], _, _, _ => rfl
  | p :: ps, k, i, h => by
    simp only [mpIdx]
    rw [if_neg fun e => h p (List.mem_cons_self ..) (by simpa using Eq.symm (by simpa using e : k = p.1))]
    exact mpIdx_new fun q hq => h q (List.mem_cons_of_mem _ hq)
theorem mpIdx_app : ∀ {xs ys : List (List Int × Value)} {k : List Int} {i : Nat}, mpIdx (xs ++ ys) k i = match mpIdx xs k i with | some r => some r | none => mpIdx ys k (i + xs.length)
  | [], ys, k, i => by simp [mpIdx]
  | p :: ps, ys, k, i => by
    simp only [List.cons_append, mpIdx]
    split
    · rfl
    · rw [mpIdx_app, List.length_cons, show i + 1 + ps.length = i + (ps.length + 1) by omega]
def plM (E : List (List Int)) : Nat → List (List Int × Value)
  | 0 => []
  | i + 1 => plM E i ++ match E[i]? with
    | some e => [(keyN e, Value.int .i64 (i : Int))]
    | none => []
theorem plM_mem {E : List (List Int)} {q : List Int × Value} : ∀ {i : Nat}, q ∈ plM E i → ∃ j e, j < i ∧ E[j]? = some e ∧ q = (keyN e, Value.int .i64 (j : Int))
  | 0, h => by cases h
  | i + 1, h => by
    rw [plM] at h
    rcases List.mem_append.1 h with h | h
    · obtain ⟨j, e, h1, h2⟩ := plM_mem h
      exact ⟨j, e, by omega, h2⟩
    · split at h
      · rename_i e he
        rw [List.mem_singleton] at h
        exact ⟨i, e, by omega, he, h⟩
      · cases h
theorem plM_new {E : List (List Int)} {W : Nat} (hW : ∀ x ∈ E, x.length = W) (hn : E.Nodup) {i : Nat} {e : List Int} (he : E[i]? = some e) : ∀ q ∈ plM E i, q.1 ≠ keyN e := fun q hq h => by
  obtain ⟨j, x, h1, h2, rfl⟩ := plM_mem hq
  have h3 := keyN_inj ((hW x (List.mem_of_getElem? h2)).trans (hW e (List.mem_of_getElem? he)).symm) h
  subst h3
  have := nodup_at hn h2 he
  omega
theorem plM_put {E : List (List Int)} {W : Nat} (hW : ∀ x ∈ E, x.length = W) (hn : E.Nodup) {i : Nat} {e : List Int} (he : E[i]? = some e) : mpPut (plM E i) (keyN e) (Value.int .i64 (i : Int)) = plM E (i + 1) := by
  unfold mpPut
  rw [mpIdx_new (plM_new hW hn he), plM, he]
theorem plM_get {E : List (List Int)} {W : Nat} (hW : ∀ x ∈ E, x.length = W) (hn : E.Nodup) {j : Nat} {e : List Int} (he : E[j]? = some e) : ∀ {i : Nat}, j < i → mpGet (plM E i) (keyN e) = some (Value.int .i64 (j : Int))
  | 0, h => by omega
  | i + 1, h => by
    unfold mpGet
    rw [plM, mpIdx_app]
    by_cases hj : j = i
    · subst hj
      rw [mpIdx_new (plM_new hW hn he), he]
      simp [mpIdx]
    · have ih := plM_get hW hn he (i := i) (by omega)
      unfold mpGet at ih
      cases h1 : mpIdx (plM E i) (keyN e) 0 with
      | none => rw [h1] at ih; cases ih
      | some r => rw [h1] at ih; simpa using ih
theorem plM_all {E : List (List Int)} {W : Nat} (hW : ∀ x ∈ E, x.length = W) (hn : E.Nodup) {e : List Int} (he : e ∈ E) : mpGet (plM E E.length) (keyN e) = some (Value.int .i64 (plc E e : Int)) := plM_get hW hn (plc_at he) (plc_lt he)
theorem keyN_eight {r : List Int} (h : r.length ≤ 8) : ∃ a0 a1 a2 a3 a4 a5 a6 a7, keyN r = [a0, a1, a2, a3, a4, a5, a6, a7] := by
  have hl := keyN_len h
  match keyN r, hl with
  | [a0, a1, a2, a3, a4, a5, a6, a7], _ => exact ⟨_, _, _, _, _, _, _, _, rfl⟩
theorem key_lit {r : List Int} (h : r.length ≤ 8) {a0 a1 a2 a3 a4 a5 a6 a7 : Int} (hk : keyN r = [a0, a1, a2, a3, a4, a5, a6, a7]) :
    CallOK Go.Proofs.Tryz.prog 33 [.one (vInts r)] (.agg [i64 a0, i64 a1, i64 a2, i64 a3, i64 a4, i64 a5, i64 a6, i64 a7]) := by
  have := key_ok r h
  rw [keyD, hk] at this
  exact this

/-! ### the rows so far -/
noncomputable def knR (p : Int) (A RK : List (List Int)) (G : List Int → List Int) (q : Nat) : List (List Int) := redL p (A ++ (RK.take q).map G)
theorem knR_zero (p : Int) (A RK : List (List Int)) (G : List Int → List Int) : knR p A RK G 0 = redL p A := by simp [knR]
theorem knR_all (p : Int) (A RK : List (List Int)) (G : List Int → List Int) : knR p A RK G RK.length = redL p (A ++ RK.map G) := by simp [knR]
theorem knR_step {p : Int} {A RK : List (List Int)} {G : List Int → List Int} {q : Nat} {r : List Int} (h : RK[q]? = some r) : knR p A RK G (q + 1) = takeL p (knR p A RK G q) (G r) := by
  unfold knR redL
  rw [map_take1 _ h, ← List.append_assoc, List.foldl_append]; rfl
theorem knR_red {p : Int} (hp : Pr p) {n : Nat} {A RK : List (List Int)} {G : List Int → List Int} (hA : ∀ r ∈ A, RowOk p n r) (hG : ∀ r ∈ RK, RowOk p n (G r)) (q : Nat) : Red p n (knR p A RK G q) := by
  refine (both_all hp fun r hr => ?_).1
  rcases List.mem_append.1 hr with hr | hr
  · exact hA r hr
  · obtain ⟨x, hx, rfl⟩ := List.mem_map.1 hr
    exact hG x (List.take_subset _ _ hx)

theorem incE_set : ∀ {i : Nat} {e : List Int} {v : Int}, e[i]? = some v → incE i e = e.set i (v + 1)
  | _, [], _, h => by simp at h
  | 0, k :: e, v, h => by
    simp only [List.getElem?_cons_zero, Option.some.injEq] at h
    subst h; rfl
  | i + 1, k :: e, v, h => by
    show k :: incE i e = k :: e.set i (v + 1)
    rw [incE_set (by simpa using h)]

set_option maxHeartbeats 4000000 in
set_option maxRecDepth 8000 in
theorem newRelations_go (p d : Int) (ys : List Pl) (n : Nat) (h : RelOk p d ys) (hn : n ≤ 12) (hm0 : manyN ys n = 0) (hy0 : ∀ y, ys[0]? = some y → y.p = p) (hl : ys.length ≤ 1048576) (hr : ∀ y ∈ ys, y.ts.length ≤ 1048576) : CallOK Go.Proofs.Tryz.prog 18 [.one (vPolys ys), .one (i64 n)] (.tup [(false, [i64 (((relK p d ys n).length : Int) - ((echL p (liftS p d ys n n)).length : Int))]), (false, [i64 0])]) := by
  have hF := fnOk 128 [.tmp 4, .tmp 5]
  refine callOK hF 60 Go.Proofs.Tryz.func18 rfl rfl rfl (by decide) (by simp) rfl ?_
  intro w0 hw
  have S := @vc_sound w0 _ hF ⟨(.tup [(false, [i64 (((relK p d ys n).length : Int) - ((echL p (liftS p d ys n n)).length : Int))]), (false, [i64 0])]), []⟩ Go.Proofs.Tryz.f18 rfl (by simp)
  have c1 := manyCode_ok ys n hl hr
  rw [hm0] at c1
  have hl8 := h.hl
  have hlm : (ys.map dgP).length ≤ 8 := by rw [List.length_map]; exact h.hl
  have hcm := fun m (hm : m ≤ 12) => cntL_many h.ds hlm hm
  have c2 := fun m (hm : m ≤ 12) => countRelations_ok p d ys m h.hp h.hd h.hg h.hh h.hl h.hne h.hd1 hm (by have := hcm m hm; omega)
  have cR := fun m (hm : m ≤ 12) => relations_ok p d ys m h.hp h.hd h.hg h.hl h.hne h.hd1 hm (by have := hcm m hm; omega)
  have cE := fun m (hm : m ≤ 12) => exponents_ok ys m hm h.hl (fun y hy => ⟨by have := goodP_len (h.hg y hy).2.2; omega, h.hd1 y hy⟩)
  have hlt0 : 0 < ys.length := List.length_pos_iff.2 h.hne
  have c20 := c2 n hn
  have hkl : (relK p d ys n).length ≤ (expsL (ys.map dgP) n).length := (relK_len h.hp h.hg h.hd1 hn).1
  have hcl : (expsL (ys.map dgP) n).length ≤ 125970 := hcm n hn
  by_cases hz : relK p d ys n = []
  · rw [lifts_none h hn hz] at S ⊢
    rw [hz] at c20 S ⊢
    simp
    refine CallW.ok (by decide) (by simp) c1 (by simp) (S 60 _ _ ?_)
    simp
    refine CallW.ok (by decide) (by simp) c20 (by simp) (S 60 _ _ ?_)
    simp
  · have hzl : (relK p d ys n).length ≠ 0 := fun e => hz (List.length_eq_zero_iff.1 e)
    have hsame : (redL p (liftI p d ys n ys.length)).length = (echL p (liftS p d ys n n)).length := by
      rw [← lifts_same h hn, ech_red_len h.hp (liftI_row h hn (Nat.le_refl _))]
    have hel := ech_le h.hp (liftS_row h hn (Nat.le_refl n))
    rw [← hsame] at S hel ⊢
    clear hsame
    generalize relK p d ys n = K at c20 hkl hz hzl S ⊢
    have cE0 := cE n hn
    have hstep := fun i x (hx : ys[i]? = some x) => liftI_step (p := p) (d := d) (n := n) hx
    have hrI := fun k (hk : k ≤ ys.length) => liftI_row h hn hk
    have hincl := fun i x (hx : ys[i]? = some x) (hdx : dgP x ≤ n) e (he : e ∈ expsL (ys.map dgP) (n - dgP x)) => (show incE i e ∈ expsL (ys.map dgP) n by have := exps_inc h hx he; rwa [show n - dgP x + dgP x = n by omega] at this)
    have hnd := exps_nodup (ys.map dgP) n
    have hW := fun e he => (exps_of h (n := n) (e := e) he).1
    have hput := fun i e (he : (expsL (ys.map dgP) n)[i]? = some e) => plM_put hW hnd he
    have hget := fun e (he : e ∈ expsL (ys.map dgP) n) => plM_all hW hnd he
    simp
    refine CallW.ok (by decide) (by simp) c1 (by simp) (S 60 _ _ ?_)
    simp
    refine CallW.ok (by decide) (by simp) c20 (by simp) (S 60 _ _ ?_)
    simp [hzl]
    unfold Later
    refine ⟨hlt0, fun a ha => ?_⟩
    have hap := hy0 a ha
    rw [hap]
    generalize hEE : expsL (ys.map dgP) n = E at *
    refine CallW.ok (by decide) (by simp) cE0 (by simp) (S 60 _ _ ?_)
    simp
    refine J.loop hw (fun i : Nat => ⟨[(0, .c (.d (vPolys ys))), (1, .c (.d (i64 n))), (7, .c (.d (i64 K.length))), (8, .c (.d (i64 p))), (9, .c (.ob 64009)), (10, .c (.d (fnD 33))), (11, .c (.ob 64011)), (44, .c (.ob 64011)), (45, .c (.d (i64 E.length))), (46, .c (.d (i64 i)))],
        [(64009, .mp ⟨.i64, 8, plM E i⟩), (64011, .arr 48 1 (E.map fun x => [oInts x]))]⟩)
      (fun i => i ≤ E.length) (fun i => E.length - i) 0 (by simp) (by simp [plM]) ?_
    intro i hi
    refine S 8 _ _ ?_
    simp
    refine ⟨fun hlt => ?_, fun hge => ?_⟩
    · obtain ⟨e, he⟩ : ∃ e, E[i]? = some e := ⟨E[i], List.getElem?_eq_getElem hlt⟩
      have hput := hput i e he
      have hel' := hW e (List.mem_of_getElem? he)
      obtain ⟨a0, a1, a2, a3, a4, a5, a6, a7, hk⟩ := keyN_eight (r := e) (by omega)
      have ck := key_lit (by omega) hk
      rw [hk] at hput
      refine S 6 _ _ ?_
      simp
      refine ⟨hlt, fun x hx => ?_⟩
      obtain rfl : e = x := Option.some.inj (he.symm.trans hx)
      refine S 60 _ _ ?_
      simp
      refine CallW.ok (by decide) (by simp) ck (by simp) (S 60 _ _ ?_)
      simp
      exact Nxt.mk (i + 1) (by omega) (by simp [wrapS (i := i) (n := E.length) hlt (by omega), hput]) (by omega)
    · rw [show i = E.length by omega]
      generalize plM E E.length = PM at hget ⊢
      refine S 60 _ _ ?_
      simp
      refine J.loop hw (fun i : Nat => ⟨[(0, .c (.d (vPolys ys))), (1, .c (.d (i64 n))), (7, .c (.d (i64 K.length))), (8, .c (.d (i64 p))), (9, .c (.ob 64009)), (10, .c (.d (fnD 33))), (11, .c (.ob 64011)), (14, .c (.ob 64014)), (58, .c (.d (vPolys ys))), (59, .c (.d (i64 ys.length))), (60, .c (.d (i64 i)))],
          [(64009, .mp ⟨.i64, 8, PM⟩), (64011, .arr 48 1 (E.map fun x => [oInts x])), (64014, .arr 48 1 ((redL p (liftI p d ys n i)).map fun x => [oInts x]))]⟩)
        (fun i => i ≤ ys.length) (fun i => ys.length - i) 0 (by simp) (by simp [liftI, redL]) ?_
      clear hi hge i
      intro i hi
      refine S 8 _ _ ?_
      simp
      refine ⟨fun hlt => ?_, fun hge => ?_⟩
      · obtain ⟨x, hx⟩ : ∃ x, ys[i]? = some x := ⟨ys[i], List.getElem?_eq_getElem hlt⟩
        have hxm := List.mem_of_getElem? hx
        obtain ⟨ex, ed, hgx⟩ := h.hg x hxm
        have hd1x := h.hd1 x hxm
        have hxl := goodP_len hgx
        have hd12 : dgP x ≤ 12 := dg_le hgx
        have cd := polyDegree_ok p d x.ts (by omega)
        rw [degT_dg hd1x] at cd
        have cd : CallOK Go.Proofs.Tryz.prog 35 [pv p d x.ts] (.one (i64 (dgP x))) := cd
        have hstep := hstep i x hx
        have hAr := hrI i hi
        have hwd : IntKind.i64.wrap ((n : Int) - (dgP x : Int)) = (n : Int) - (dgP x : Int) := by rw [wrap64] <;> omega
        refine S 6 _ _ ?_
        simp
        refine ⟨hlt, fun y hy => ?_⟩
        obtain rfl : x = y := Option.some.inj (hx.symm.trans hy)
        simp only [ex, ed]
        refine S 60 _ _ ?_
        simp
        refine CallW.ok (by decide) (by simp) cd (by simp) (S 60 _ _ ?_)
        by_cases hdx : n ≤ dgP x
        · rw [if_pos hdx, List.append_nil] at hstep
          have hlt1 : (n : Int) - (dgP x : Int) < 1 := by omega
          simp [hwd, hlt1]
          exact Nxt.mk (i + 1) (by omega) (by simp [wrapS (i := i) (n := ys.length) hlt (by omega), hstep]) (by omega)
        · rw [if_neg hdx] at hstep
          have hmm : (n : Int) - (dgP x : Int) = ((n - dgP x : Nat) : Int) := by omega
          have hwd := hwd.trans hmm
          have hm12 : n - dgP x ≤ 12 := by omega
          have hm1 : 1 ≤ n - dgP x := by omega
          have c2m := c2 (n - dgP x) hm12
          have cRm := cR (n - dgP x) hm12
          have cEm := cE (n - dgP x) hm12
          have hrm := relK_row h hm12
          have hLm : (relK p d ys (n - dgP x)).length ≤ (expsL (ys.map dgP) (n - dgP x)).length := (relK_len h.hp h.hg h.hd1 hm12).1
          have hcm2 : (expsL (ys.map dgP) (n - dgP x)).length ≤ 125970 := hcm (n - dgP x) hm12
          have hex := fun e he => exps_of h (n := n - dgP x) (e := e) he
          have hxe := fun e he => exps_le h (n := n - dgP x) (e := e) he
          have hincl := hincl i x hx (by omega)
          generalize relK p d ys (n - dgP x) = RK at c2m cRm hrm hLm hstep
          generalize expsL (ys.map dgP) (n - dgP x) = Lo at cEm hrm hLm hcm2 hex hxe hincl hstep
          generalize n - dgP x = m at hwd hmm hm12 hm1 c2m cRm cEm hex hxe
          have hlt1 : ¬ (m : Int) < 1 := by omega
          simp
          unfold Later
          rw [hwd]
          refine ⟨fun _ => ?_, fun hlt => absurd hlt hlt1⟩
          refine CallW.ok (by decide) (by simp) c2m (by simp) (S 60 _ _ ?_)
          by_cases hz2 : RK = []
          · subst hz2
            rw [List.map_nil, List.append_nil] at hstep
            simp
            exact Nxt.mk (i + 1) (by omega) (by simp [wrapS (i := i) (n := ys.length) hlt (by omega), hstep]) (by omega)
          · have hz2l : RK.length ≠ 0 := fun e => hz2 (List.length_eq_zero_iff.1 e)
            simp [hz2l]
            refine CallW.ok (by decide) (by simp) cEm (by simp) (S 60 _ _ ?_)
            simp
            refine CallW.ok (by decide) (by simp) cRm (by simp) (S 60 _ _ ?_)
            simp
            have hk0 := knR_zero p (liftI p d ys n i) RK (liftL E Lo (incE i))
            have hka := knR_all p (liftI p d ys n i) RK (liftL E Lo (incE i))
            have hks := fun q r => @knR_step p (liftI p d ys n i) RK (liftL E Lo (incE i)) q r
            have hkr := fun q => knR_red h.hp (G := liftL E Lo (incE i)) hAr (fun r hr => liftN_row (up := E) (low := Lo) (f := incE i) (by have := h.hp.pos; omega) (hrm r hr) _) q
            rw [← hstep] at hka
            generalize liftI p d ys n i = A at hk0 hka hks hkr hAr hstep ⊢
            refine J.loop hw (fun q : Nat => ⟨[(0, .c (.d (vPolys ys))), (1, .c (.d (i64 n))), (7, .c (.d (i64 K.length))), (8, .c (.d (i64 p))), (9, .c (.ob 64009)), (10, .c (.d (fnD 33))), (11, .c (.ob 64011)), (14, .c (.ob 64014)), (15, .c (.d (i64 i))), (18, .c (.ob 64018)), (58, .c (.d (vPolys ys))), (59, .c (.d (i64 ys.length))), (60, .c (.d (i64 i))),
                  (82, .c (.ob 64082)), (83, .c (.d (i64 RK.length))), (84, .c (.d (i64 q)))],
                [(64009, .mp ⟨.i64, 8, PM⟩), (64011, .arr 48 1 (E.map fun x => [oInts x])), (64014, .arr 48 1 ((knR p A RK (liftL E Lo (incE i)) q).map fun x => [oInts x])), (64018, .arr 48 1 (Lo.map fun x => [oInts x])), (64082, .arr 48 1 (RK.map fun x => [oInts x]))]⟩)
              (fun q => q ≤ RK.length) (fun q => RK.length - q) 0 (by simp) (by simp [hk0]) ?_
            intro q hq
            refine S 8 _ _ ?_
            simp
            refine ⟨fun hlt2 => ?_, fun hge2 => ?_⟩
            · obtain ⟨r, hrq⟩ : ∃ r, RK[q]? = some r := ⟨RK[q], List.getElem?_eq_getElem hlt2⟩
              have hks := hks q r hrq
              have hkr := hkr q
              have hrr := hrm r (List.mem_of_getElem? hrq)
              have hrl := hrr.1
              have hln := fun k => liftN_len E Lo (incE i) r k
              have hls := fun k e => @liftN_step E Lo (incE i) r k e
              have hL0 : liftN E Lo (incE i) r 0 = List.replicate E.length 0 := rfl
              have hLL : liftL E Lo (incE i) r = liftN E Lo (incE i) r Lo.length := rfl
              have hrow := liftN_row (up := E) (low := Lo) (f := incE i) (by have := h.hp.pos; omega) hrr Lo.length
              generalize knR p A RK (liftL E Lo (incE i)) q = KN at hks hkr ⊢
              refine S 60 _ _ ?_
              simp
              refine ⟨hlt2, fun z hzr => ?_⟩
              obtain rfl := Option.some.inj (hrq.symm.trans hzr)
              refine ⟨⟨by omega, by omega⟩, ?_⟩
              refine J.loop hw (fun k : Nat => ⟨[(0, .c (.d (vPolys ys))), (1, .c (.d (i64 n))), (7, .c (.d (i64 K.length))), (8, .c (.d (i64 p))), (9, .c (.ob 64009)), (10, .c (.d (fnD 33))), (11, .c (.ob 64011)), (14, .c (.ob 64014)), (15, .c (.d (i64 i))), (18, .c (.ob 64018)), (21, .c (.ob 64021)), (58, .c (.d (vPolys ys))), (59, .c (.d (i64 ys.length))), (60, .c (.d (i64 i))),
                    (82, .c (.ob 64082)), (83, .c (.d (i64 RK.length))), (84, .c (.d (i64 q))), (91, .c (.d (.vw false 1 (ints r)))), (92, .c (.d (i64 r.length))), (93, .c (.d (i64 k)))],
                  [(64009, .mp ⟨.i64, 8, PM⟩), (64011, .arr 48 1 (E.map fun x => [oInts x])), (64014, .arr 48 1 (KN.map fun x => [oInts x])), (64018, .arr 48 1 (Lo.map fun x => [oInts x])), (64082, .arr 48 1 (RK.map fun x => [oInts x])),
                    (64021, .arr 2 1 (ints (liftN E Lo (incE i) r k)))]⟩)
                (fun k => k ≤ r.length) (fun k => r.length - k) 0 (by simp) (by simp [hL0]) ?_
              intro k hk
              have hlnk := hln k
              have hlsk := hls k
              generalize hW2 : liftN E Lo (incE i) r k = W at hlnk hlsk ⊢
              refine S 8 _ _ ?_
              simp
              refine ⟨fun hlt3 => ?_, fun hge3 => ?_⟩
              · obtain ⟨e, he⟩ : ∃ e, Lo[k]? = some e := ⟨Lo[k], List.getElem?_eq_getElem (by omega)⟩
                obtain ⟨c, hc⟩ : ∃ c, r[k]? = some c := ⟨r[k], List.getElem?_eq_getElem hlt3⟩
                have hgc : gt r k = c := by unfold gt; rw [List.getD_eq_getElem?_getD, hc]; rfl
                have hem := List.mem_of_getElem? he
                obtain ⟨b1, _, b3⟩ := hex e hem
                obtain ⟨v, hv⟩ : ∃ v, e[i]? = some v := ⟨e[i]'(by omega), List.getElem?_eq_getElem _⟩
                have v0 := b3 v (List.mem_of_getElem? hv)
                have v1 := hxe e hem v (List.mem_of_getElem? hv)
                have hw2 : IntKind.i64.wrap (v + 1) = v + 1 := wrap64 (by omega) (by omega)
                have hin := hincl e hem
                have hlsk := hlsk e he
                rw [hgc] at hlsk
                have hgt := hget _ hin
                have hpl := plc_lt hin
                have hil := hW _ hin
                obtain ⟨a0, a1, a2, a3, a4, a5, a6, a7, hk8⟩ := keyN_eight (r := incE i e) (by omega)
                have ck := key_lit (by omega) hk8
                rw [hk8] at hgt
                have ccl := Clone_ok e (by omega)
                have hset := incE_set hv
                rw [hset] at ck
                generalize plc E (incE i e) = P0 at hlsk hgt hpl
                refine S 6 _ _ ?_
                simp
                refine ⟨hlt3, fun z hz3 => ?_⟩
                obtain rfl := Option.some.inj (hc.symm.trans hz3)
                refine S 60 _ _ ?_
                simp
                refine ⟨by omega, fun z hz4 => ?_⟩
                obtain rfl := Option.some.inj (he.symm.trans hz4)
                refine CallW.ok (by decide) (by simp) ccl (by simp) (S 60 _ _ ?_)
                simp
                refine ⟨by omega, fun z hz5 => ?_⟩
                obtain rfl := Option.some.inj (hv.symm.trans hz5)
                simp [hw2]
                refine ⟨by omega, ?_⟩
                have hae : argEs ((ints e).set i [i64 (v + 1)]) = ints (e.set i (v + 1)) := by
                  have hai : ∀ l : List Int, argEs (ints l) = ints l := fun l => by simp
                  rw [ints_set]; exact hai _
                refine CallW.ok (by decide) (by simp [hae]) ck (by simp) (S 60 _ _ ?_)
                simp [hgt]
                exact ⟨by omega, Nxt.mk (k + 1) (by omega) (by simp [wrapS (i := k) (n := r.length) hlt3 (by omega), hlsk]) (by omega)⟩
              · rw [show k = Lo.length by omega] at hW2
                rw [hLL, hW2] at hks
                rw [hW2] at hrow
                have hknl := red_le hkr
                have ct := take_ok p E.length KN W h.hp (by omega) (by omega) hkr.rws hrow
                refine J.keep [0, 1, 7, 8, 9, 10, 11, 14, 15, 18, 21, 58, 59, 60, 82, 83, 84] ?_
                simp
                refine J.obWin (d := 21) (K := 64021) (e := 2) (z := 1) (xs := ints W) (by rfl) (by rfl) ?_
                refine S 60 _ _ ?_
                simp
                refine CallW.mutL ct (by decide) (by simp) (by simp) (by simp) (by simp) (by simp) (by simp) (S 60 _ _ ?_)
                simp
                exact Nxt.mk (q + 1) (by omega) (by simp [wrapS (i := q) (n := RK.length) hlt2 (by omega), hks]) (by omega)
            · rw [show q = RK.length by omega, hka]
              refine S 60 _ _ ?_
              simp
              exact Nxt.mk (i + 1) (by omega) (by simp [wrapS (i := i) (n := ys.length) hlt (by omega)]) (by omega)
      · rw [show i = ys.length by omega]
        generalize redL p (liftI p d ys n ys.length) = R at hel S ⊢
        have hw1 : IntKind.i64.wrap ((K.length : Int) - (R.length : Int)) = (K.length : Int) - (R.length : Int) := by rw [wrap64] <;> omega
        refine S 60 _ _ ?_
        simp
        exact hw1
end Go.Sm

namespace Go.Sm
open Go.RowKit

set_option maxHeartbeats 1000000 in
theorem newRelations_bad (ys : List Pl) (n : Int) (h0 : manyN ys n ≠ 0) (hl : ys.length ≤ 1048576) (hr : ∀ y ∈ ys, y.ts.length ≤ 1048576) : CallOK Go.Proofs.Tryz.prog 18 [.one (vPolys ys), .one (i64 n)] (.tup [(false, [i64 0]), (false, [i64 (manyN ys n)])]) := by
  have hF := fnOk 128 [.tmp 4, .tmp 5]
  refine callOK hF 60 Go.Proofs.Tryz.func18 rfl rfl rfl (by decide) (by simp) rfl ?_
  intro w0 hw
  have S := @vc_sound w0 _ hF ⟨(.tup [(false, [i64 0]), (false, [i64 (manyN ys n)])]), []⟩ Go.Proofs.Tryz.f18 rfl (by simp)
  have c1 := manyCode_ok ys n hl hr
  generalize manyN ys n = c at c1 h0 S ⊢
  simp
  refine CallW.ok (by decide) (by simp) c1 (by simp) (S 60 _ _ ?_)
  simp [h0]

theorem NewRelations_ok (ys : List Pl) (n : Int) (hl : ys.length ≤ 1048576) (hr : ∀ y ∈ ys, y.ts.length ≤ 1048576) : CallOK Go.Proofs.Tryz.prog 18 [.one (vPolys ys), .one (i64 n)] (.tup [(false, [i64 (newR ys n).1]), (false, [i64 (newR ys n).2])]) := by
  by_cases h0 : manyN ys n = 0
  · obtain ⟨f0, f1⟩ := manyN_facts h0
    obtain ⟨y0, hy0⟩ := relN_first f0
    have hR := relOk_of f0 hy0
    obtain ⟨_, _, _, hn, _⟩ := relN_facts f0 hy0
    obtain ⟨N, rfl⟩ : ∃ N : Nat, n = N := ⟨n.toNat, by omega⟩
    rw [newR_ok h0 hy0]
    exact newRelations_go y0.p y0.d ys N hR (by omega) h0 (fun y hy => by rw [Option.some.inj (hy.symm.trans hy0)]) hl hr
  · rw [newR_bad h0]
    exact newRelations_bad ys n h0 hl hr
end Go.Sm
