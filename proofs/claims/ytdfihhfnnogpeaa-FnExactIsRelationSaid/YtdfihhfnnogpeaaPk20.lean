/- Towards the rows of this seat: what the functions do, as contracts over plain data. -/
import Derived.Test.YtdfihhfnnogpeaaPk19
import Derived.Test.YtdfihhfnnogpeaaPk2
import Derived.Test.YtdfihhfnnogpeaaPk3
namespace Go.Sm
open Go.RowKit

/-- How monomials are ordered: by their exponents alone, or by the degree first. -/
def wL (e : Ex) : Nat := (e.a.toNat * 1000 + e.b.toNat) * 1000 + e.c.toNat
def wG (e : Ex) : Nat := ((e.a.toNat + e.b.toNat + e.c.toNat) * 1000 + e.a.toNat) * 1000 + e.b.toNat

def cmp8 (x y : UInt8) : Int := if (x.toNat : Int) < y.toNat then -1 else if (y.toNat : Int) < x.toNat then 1 else 0
def cmpL (x y : Ex) : Int := if x.a.toNat ≠ y.a.toNat then cmp8 x.a y.a else if x.b.toNat ≠ y.b.toNat then cmp8 x.b y.b else cmp8 x.c y.c
theorem cmpL_pos (x y : Ex) : 0 < cmpL x y ↔ wL y < wL x := by
  have := u8_lt x.a; have := u8_lt x.b; have := u8_lt x.c; have := u8_lt y.a; have := u8_lt y.b; have := u8_lt y.c
  unfold cmpL cmp8 wL
  split
  · split
    · omega
    · split <;> omega
  · split
    · split
      · omega
      · split <;> omega
    · split
      · omega
      · split <;> omega
theorem cmp8_eq {x y : UInt8} : cmp8 x y = 0 ↔ x.toNat = y.toNat := by
  unfold cmp8
  split
  · omega
  · split <;> omega

theorem isNaN8_ok (x : UInt8) : CallOK Go.Proofs.Try.prog 112 [.one (u8 x)] (.one (bo false)) := by
  have hF := fnOk 6 [.tmp 2]
  refine callOK hF 60 Go.Proofs.Try.func112 rfl rfl rfl (by decide) (by simp) rfl ?_
  intro w0 hw
  have S := @vc_sound w0 _ hF ⟨(.one (bo false)), []⟩ Go.Proofs.Try.f112 rfl (by simp)
  simp

theorem compare8_ok (x y : UInt8) : CallOK Go.Proofs.Try.prog 104 [.one (u8 x), .one (u8 y)] (.one (i64 (cmp8 x y))) := by
  have hF := fnOk 20 [.tmp 4]
  refine callOK hF 60 Go.Proofs.Try.func104 rfl rfl rfl (by decide) (by simp) rfl ?_
  intro w0 hw
  have S := @vc_sound w0 _ hF ⟨(.one (i64 (cmp8 x y))), []⟩ Go.Proofs.Try.f104 rfl (by simp)
  have c1 := isNaN8_ok x
  have c2 := isNaN8_ok y
  by_cases h1 : x.toNat < y.toNat
  · have e : cmp8 x y = -1 := by unfold cmp8; rw [if_pos (by omega)]
    rw [e] at S ⊢
    simp
    refine CallW.ok (by decide) (by simp) c1 (by simp) (S 60 _ _ ?_)
    simp
    refine CallW.ok (by decide) (by simp) c2 (by simp) (S 60 _ _ ?_)
    simp [h1]
  · by_cases h2 : y.toNat < x.toNat
    · have e : cmp8 x y = 1 := by unfold cmp8; rw [if_neg (by omega), if_pos (by omega)]
      rw [e] at S ⊢
      simp
      refine CallW.ok (by decide) (by simp) c1 (by simp) (S 60 _ _ ?_)
      simp
      refine CallW.ok (by decide) (by simp) c2 (by simp) (S 60 _ _ ?_)
      simp [h1, h2]
    · have e : cmp8 x y = 0 := by unfold cmp8; rw [if_neg (by omega), if_neg (by omega)]
      rw [e] at S ⊢
      simp
      refine CallW.ok (by decide) (by simp) c1 (by simp) (S 60 _ _ ?_)
      simp
      refine CallW.ok (by decide) (by simp) c2 (by simp) (S 60 _ _ ?_)
      simp [h1, h2]

abbrev vEx (x : Ex) : D := .vw true 1 [[u8 x.a], [u8 x.b], [u8 x.c]]
set_option maxHeartbeats 1000000 in
theorem compareE_ok (x y : Ex) : CallOK Go.Proofs.Try.prog 87 [.one (vEx x), .one (vEx y)] (.one (i64 (cmpL x y))) := by
  have hF := fnOk 36 [.tmp 4]
  refine callOK hF 60 Go.Proofs.Try.func87 rfl rfl rfl (by decide) (by simp) rfl ?_
  intro w0 hw
  have S := @vc_sound w0 _ hF ⟨(.one (i64 (cmpL x y))), []⟩ Go.Proofs.Try.f87 rfl (by simp)
  have c1 := compare8_ok x.a y.a
  have c2 := compare8_ok x.b y.b
  have c3 := compare8_ok x.c y.c
  by_cases h1 : x.a.toNat = y.a.toNat
  · have e1 : cmp8 x.a y.a = 0 := cmp8_eq.2 h1
    rw [e1] at c1
    by_cases h2 : x.b.toNat = y.b.toNat
    · have e2 : cmp8 x.b y.b = 0 := cmp8_eq.2 h2
      rw [e2] at c2
      have e : cmpL x y = cmp8 x.c y.c := by unfold cmpL; rw [if_neg (by omega), if_neg (by omega)]
      by_cases h3 : x.c.toNat = y.c.toNat
      · have e3 : cmp8 x.c y.c = 0 := cmp8_eq.2 h3
        rw [e3] at c3
        rw [e, e3] at S ⊢
        simp
        refine J.rounds 5 (LpW.step (S 60 _ _ ?_))
        simp
        refine CallW.ok (by decide) (by simp) c1 (by simp) (S 60 _ _ ?_)
        simp
        refine LpW.inv (LpW.step (S 60 _ _ ?_))
        simp
        refine CallW.ok (by decide) (by simp) c2 (by simp) (S 60 _ _ ?_)
        simp
        refine LpW.inv (LpW.step (S 60 _ _ ?_))
        simp
        refine CallW.ok (by decide) (by simp) c3 (by simp) (S 60 _ _ ?_)
        simp
        refine LpW.inv (LpW.step (S 60 _ _ ?_))
        simp
      · have e3 : cmp8 x.c y.c ≠ 0 := fun h => h3 (cmp8_eq.1 h)
        rw [e] at S ⊢
        simp
        refine J.rounds 5 (LpW.step (S 60 _ _ ?_))
        simp
        refine CallW.ok (by decide) (by simp) c1 (by simp) (S 60 _ _ ?_)
        simp
        refine LpW.inv (LpW.step (S 60 _ _ ?_))
        simp
        refine CallW.ok (by decide) (by simp) c2 (by simp) (S 60 _ _ ?_)
        simp
        refine LpW.inv (LpW.step (S 60 _ _ ?_))
        simp
        refine CallW.ok (by decide) (by simp) c3 (by simp) (S 60 _ _ ?_)
        simp [e3]
    · have e2 : cmp8 x.b y.b ≠ 0 := fun h => h2 (cmp8_eq.1 h)
      have e : cmpL x y = cmp8 x.b y.b := by unfold cmpL; rw [if_neg (by omega), if_pos h2]
      rw [e] at S ⊢
      simp
      refine J.rounds 5 (LpW.step (S 60 _ _ ?_))
      simp
      refine CallW.ok (by decide) (by simp) c1 (by simp) (S 60 _ _ ?_)
      simp
      refine LpW.inv (LpW.step (S 60 _ _ ?_))
      simp
      refine CallW.ok (by decide) (by simp) c2 (by simp) (S 60 _ _ ?_)
      simp [e2]
  · have e1 : cmp8 x.a y.a ≠ 0 := fun h => h1 (cmp8_eq.1 h)
    have e : cmpL x y = cmp8 x.a y.a := by unfold cmpL; rw [if_pos h1]
    rw [e] at S ⊢
    simp
    refine J.rounds 5 (LpW.step (S 60 _ _ ?_))
    simp
    refine CallW.ok (by decide) (by simp) c1 (by simp) (S 60 _ _ ?_)
    simp [e1]

abbrev Tm.ds (t : Tm) : List D := [u8 t.e.a, u8 t.e.b, u8 t.e.c, i64 t.v]
theorem first1_ok (x y : Tm) : CallOK Go.Proofs.Try.prog 86 [.agg x.ds, .agg y.ds] (.one (i64 (cmpL x.e y.e))) := by
  have hF := fnOk 10 [.tmp 4]
  refine callOK hF 60 Go.Proofs.Try.func86 rfl rfl rfl (by decide) (by simp) rfl ?_
  intro w0 hw
  have S := @vc_sound w0 _ hF ⟨(.one (i64 (cmpL x.e y.e))), []⟩ Go.Proofs.Try.f86 rfl (by simp)
  have c1 := compareE_ok x.e y.e
  simp
  refine J.freezeV (K := 2 * 64) (d := 2) (xs := x.ds) (by rfl) (by rfl) ?_
  refine J.freezeV (K := 3 * 64) (d := 3) (xs := y.ds) (by rfl) (by rfl) ?_
  refine J.dr hF mixed 4 [[], [0], [], [2], [0, 1, 2, 3], [0, 1, 2, 3, 4]] [[5, 6, 7, 8], [6, 7, 8], [5, 6, 7, 8], [5, 6, 8]] (by decide) ?_
  simp
  refine S 60 _ _ ?_
  simp
  refine CallW.ok (by decide) (by simp) c1 (by simp) (S 60 _ _ ?_)
  simp

abbrev fnD1 (f : Nat) : D := .v (.func (.func f) #[] #[])
/-- The first term whose exponents are the greatest. -/
def maxT (m : Tm) : List Tm → Tm
  | [] => m
  | t :: ts => maxT (if wL m.e < wL t.e then t else m) ts
theorem maxT_mem : ∀ (ts : List Tm) (m : Tm), maxT m ts ∈ m :: ts
  | [], m => by simp [maxT]
  | t :: ts, m => by
    have := maxT_mem ts (if wL m.e < wL t.e then t else m)
    unfold maxT
    by_cases h : wL m.e < wL t.e
    · rw [if_pos h] at this ⊢
      exact List.mem_cons_of_mem _ this
    · rw [if_neg h] at this ⊢
      rcases List.mem_cons.1 this with h | h
      · rw [h]; exact List.mem_cons_self ..
      · exact List.mem_cons_of_mem _ (List.mem_cons_of_mem _ h)
theorem maxT_max : ∀ (ts : List Tm) (m : Tm), ∀ u ∈ m :: ts, wL u.e ≤ wL (maxT m ts).e
  | [], m => by simp [maxT]
  | t :: ts, m => by
    intro u hu
    have ih := maxT_max ts (if wL m.e < wL t.e then t else m)
    unfold maxT
    have h0 := ih _ (List.mem_cons_self ..)
    have h1 : wL m.e ≤ wL (if wL m.e < wL t.e then t else m).e ∧ wL t.e ≤ wL (if wL m.e < wL t.e then t else m).e := by
      split <;> omega
    rcases List.mem_cons.1 hu with rfl | hu
    · exact Nat.le_trans h1.1 h0
    · rcases List.mem_cons.1 hu with rfl | hu
      · exact Nat.le_trans h1.2 h0
      · exact ih u (List.mem_cons_of_mem _ hu)
theorem maxT_take {m : Tm} {ts : List Tm} {i : Nat} {t : Tm} (h : ts[i]? = some t) : maxT m (ts.take (i + 1)) = if wL (maxT m (ts.take i)).e < wL t.e then t else maxT m (ts.take i) := by
  induction ts generalizing m i with
  | nil => simp at h
  | cons x ts ih =>
    cases i with
    | zero =>
      simp only [List.getElem?_cons_zero, Option.some.injEq] at h
      subst h
      rfl
    | succ i =>
      simp only [List.take_succ_cons, maxT]
      exact ih (by simpa using h)

set_option maxHeartbeats 1000000 in
set_option maxRecDepth 4000 in
theorem MaxFunc_ok (m : Tm) (ts : List Tm) (hl : ts.length ≤ 1000000) : CallOK Go.Proofs.Try.prog 85 [.one (vTerms (m :: ts)), .one (fnD1 86)] (.agg (maxT m ts).ds) := by
  have hF := fnOk 33 [.cell 4 57]
  refine callOK hF 60 Go.Proofs.Try.func85 rfl rfl rfl (by decide) (by simp) rfl ?_
  intro w0 hw
  have S := @vc_sound w0 _ hF ⟨(.agg (maxT m ts).ds), []⟩ Go.Proofs.Try.f85 rfl (by simp)
  simp
  refine ⟨fun h => by omega, fun _ => ?_⟩
  refine J.loop hw (fun i : Nat => ⟨[(0, .c (.d (vTerms (m :: ts)))), (1, .c (.d (fnD1 86))), (4, .c (.ref 64004 0)), (5, .c (.ref 64005 0)), (6, .c (.d (i64 ((i : Int) + 1))))],
      [(64004, .var [.d (u8 0), .d (u8 0), .d (u8 0), .d (i64 0)]), (64005, .var ((maxT m (ts.take i)).ds.map .d))]⟩)
    (fun i => i ≤ ts.length) (fun i => ts.length - i) 0 (by simp) (by simp [maxT]) ?_
  intro i hi
  refine S 12 _ _ ?_
  simp
  refine ⟨fun hlt => ?_, fun hge => ?_⟩
  · obtain ⟨t, ht⟩ : ∃ t, ts[i]? = some t := ⟨ts[i]'(by omega), List.getElem?_eq_getElem (by omega)⟩
    have hst := maxT_take (m := m) ht
    generalize maxT m (ts.take i) = b at hst ⊢
    have c1 := first1_ok t b
    refine S 2 _ _ ?_
    simp
    refine J.dr hF mixed 6 [[], [], [], [1, 2], [1, 2, 3], [], [0, 1, 2, 3, 4, 5], [0, 1, 2, 3, 4, 5, 6]] [[20, 21, 22, 23, 24, 25], [20, 21, 22, 23, 24, 25], [20, 21, 22, 23, 24, 25], [20, 23, 24, 25], [20, 24, 25], [20, 21, 22, 23, 24, 25]] (by decide) ?_
    simp
    refine ⟨⟨by omega, hlt⟩, fun a ha => ?_⟩
    obtain rfl : t = a := Option.some.inj (ht.symm.trans ha)
    refine S 60 _ _ ?_
    simp
    have hc := cmpL_pos t.e b.e
    have hw1 : IntKind.i64.wrap ((i : Int) + 1 + 1) = (i : Int) + 1 + 1 := wrap64 (by omega) (by omega)
    by_cases h0 : 0 < cmpL t.e b.e
    · rw [if_pos (hc.1 h0)] at hst
      refine CallW.ok (by decide) (by simp) c1 (by simp) (S 60 _ _ ?_)
      simp [h0]
      refine ⟨⟨by omega, hlt⟩, fun a ha => ?_⟩
      obtain rfl : t = a := Option.some.inj (ht.symm.trans ha)
      exact Nxt.mk (i + 1) (by omega) (by simp [hst, hw1]) (by omega)
    · rw [if_neg (fun h => h0 (hc.2 h))] at hst
      refine CallW.ok (by decide) (by simp) c1 (by simp) (S 60 _ _ ?_)
      simp [h0]
      exact Nxt.mk (i + 1) (by omega) (by simp [hst, hw1]) (by omega)
  · have e1 : ts.take i = ts := List.take_of_length_le (by omega)
    rw [e1]
    refine S 60 _ _ ?_
    simp

theorem first_ok (p d : Int) (m : Tm) (ts : List Tm) (hl : ts.length ≤ 1000000) : CallOK Go.Proofs.Try.prog 42 [pv p d (m :: ts)] (.agg (maxT m ts).ds) := by
  have hF := fnOk 6 [.cell 2 57]
  refine callOK hF 60 Go.Proofs.Try.func42 rfl rfl rfl (by decide) (by simp) rfl ?_
  intro w0 hw
  have S := @vc_sound w0 _ hF ⟨(.agg (maxT m ts).ds), []⟩ Go.Proofs.Try.f42 rfl (by simp)
  have c1 := MaxFunc_ok m ts hl
  simp
  refine CallW.ok (by decide) (by simp) c1 (by simp) (S 60 _ _ ?_)
  simp
end Go.Sm
