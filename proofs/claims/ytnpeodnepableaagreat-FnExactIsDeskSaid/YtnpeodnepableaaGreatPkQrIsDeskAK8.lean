/- Towards the rows of this seat: what the functions do, as contracts over plain data. -/
import Derived.Shelf.SlLaysF0
import Derived.Ground.SlsfProg
import Derived.Test.YtnpeodnepableaaGreatProg
import Derived.Shelf.SlSortCmp.NoneTotal
import Derived.Test.YtnpeodnepableaaGreatPkQrIsDeskAK3
namespace Go.Proofs
open Go.Shelf
end Go.Proofs

namespace Go.Sm
open Go.RowKit Go.Shelf Go.Sort

/-! ### the order of monomials -/
theorem u8_toNat_inj {x y : UInt8} (h : (x.toNat : Int) = y.toNat) : x = y := UInt8.toNat_inj.1 (by omega)
/-- A monomial's place among all. -/
def Ex.key (e : Ex) : Int := e.deg * 65536 + (255 - (e.a.toNat : Int)) * 256 + (255 - (e.b.toNat : Int))
theorem cmpE_key (x y : Ex) : cmpE x y < 0 ↔ x.key < y.key := by
  have := u8_lt x.a; have := u8_lt x.b; have := u8_lt y.a; have := u8_lt y.b
  unfold cmpE Ex.key
  split
  · omega
  · rename_i h
    split
    · rename_i ha
      have hna : (x.a.toNat : Int) ≠ y.a.toNat := fun e => ha (u8_toNat_inj e)
      omega
    · rename_i ha
      have : x.a = y.a := Decidable.not_not.1 ha
      rw [this]; omega
theorem cmpE_zero (x y : Ex) : cmpE x y = 0 ↔ x = y := by
  refine ⟨fun h => ?_, fun h => by rw [h]; exact cmpE_self y⟩
  unfold cmpE at h
  split at h
  · omega
  · rename_i h0
    split at h
    · rename_i ha; exact absurd (u8_toNat_inj (by omega)) ha
    · rename_i ha
      have ha : x.a = y.a := Decidable.not_not.1 ha
      have hb : x.b = y.b := u8_toNat_inj (by omega)
      have hc : x.c = y.c := by
        unfold Ex.deg at h0
        rw [ha, hb] at h0
        exact u8_toNat_inj (by omega)
      cases x; cases y; simp_all
theorem key_inj {x y : Ex} (h : x.key = y.key) : x = y := by
  have h1 : ¬ cmpE x y < 0 := by rw [cmpE_key]; omega
  have h2 : ¬ cmpE y x < 0 := by rw [cmpE_key]; omega
  refine (cmpE_zero x y).1 ?_
  unfold cmpE at h1 h2 ⊢
  have e1 : y.deg - x.deg = -(x.deg - y.deg) := by omega
  by_cases hd : x.deg - y.deg = 0
  · have hd' : y.deg - x.deg = 0 := by omega
    simp only [hd, hd', ne_eq, not_true_eq_false, if_false] at h1 h2 ⊢
    by_cases ha : x.a = y.a
    · simp only [ha, not_true_eq_false, if_false] at h1 h2 ⊢; omega
    · have ha' : ¬ y.a = x.a := fun e => ha e.symm
      simp only [ha, ha', not_false_eq_true, if_true] at h1 h2 ⊢; omega
  · have hd' : ¬ y.deg - x.deg = 0 := by omega
    simp only [hd, hd', ne_eq, not_false_eq_true, if_true] at h1 h2 ⊢; omega

def Tm.vs (t : Tm) : List Value := [.int .u8 t.e.a.toNat, .int .u8 t.e.b.toNat, .int .u8 t.e.c.toNat, .int .i64 t.v]

end Go.Sm

namespace Go.Sm
open Go.RowKit

/-- What of a sum is not 0. -/
def kept (p : Int) (l : List (Ex × Int)) : List Tm := l.filterMap fun x => if x.2 % p = 0 then none else some ⟨x.1, x.2 % p⟩
def srt (l : List Tm) : List Tm := l.mergeSort fun a b => decide (a.e.key ≤ b.e.key)
def ofSum (p : Int) (l : List (Ex × Int)) : List Tm := srt (kept p l)

theorem srt_perm (l : List Tm) : (srt l).Perm l := List.mergeSort_perm l _
theorem srt_sorted {l : List Tm} (h : (l.map (·.e)).Nodup) : (srt l).Pairwise fun a b => cmpE a.e b.e < 0 := by
  have h1 : (srt l).Pairwise fun a b => decide (a.e.key ≤ b.e.key) = true := by
    refine List.pairwise_mergeSort ?_ ?_ l
    · intro a b c h1 h2
      rw [decide_eq_true_eq] at *; omega
    · intro a b
      simp only [Bool.or_eq_true, decide_eq_true_eq]; omega
  have h2 : ((srt l).map (·.e)).Nodup := (((srt_perm l).map _).nodup_iff).2 h
  have h3 : (srt l).Pairwise fun a b => a.e ≠ b.e := by
    rw [List.Nodup, List.pairwise_map] at h2
    exact h2
  refine (h1.and h3).imp fun {a b} hab => ?_
  rw [cmpE_key]
  have := hab.1
  rw [decide_eq_true_eq] at this
  have hne : a.e.key ≠ b.e.key := fun e => hab.2 (key_inj e)
  omega
theorem kept_keys {p : Int} : ∀ {l : List (Ex × Int)}, (l.map (·.1)).Nodup → ((kept p l).map (·.e)).Nodup
  | [], _ => by simp [kept]
  | x :: l, h => by
    simp only [List.map_cons, List.nodup_cons] at h
    have ih := kept_keys (p := p) h.2
    unfold kept at ih ⊢
    rw [List.filterMap_cons]
    split
    · exact ih
    · rename_i t ht
      split at ht
      · cases ht
      · simp only [Option.some.injEq] at ht; subst ht
        simp only [List.map_cons, List.nodup_cons]
        refine ⟨fun hm => h.1 ?_, ih⟩
        obtain ⟨t, ht, he⟩ := List.mem_map.1 hm
        obtain ⟨y, hy, hy2⟩ := List.mem_filterMap.1 ht
        split at hy2
        · cases hy2
        · simp only [Option.some.injEq] at hy2; subst hy2
          simp only at he
          rw [← he]; exact List.mem_map_of_mem hy
@[simp] theorem map_erase' {α γ : Type} (f : α → γ) (L : List α) (j : Nat) : (L.map f).eraseIdx j = (L.eraseIdx j).map f := map_erase f L j

end Go.Sm

namespace Go.Sm
open Go.RowKit

def by8 (n : Int) : UInt8 := UInt8.ofNat (n % 256).toNat
@[simp] theorem wrapu8 (n : Int) : IntKind.u8.wrap n = ((by8 n).toNat : Int) := by
  have h1 := Int.emod_nonneg n (show (256 : Int) ≠ 0 by decide)
  have h2 := Int.emod_lt_of_pos n (show (0 : Int) < 256 by decide)
  have : IntKind.u8.wrap n = n % 256 := by
    unfold IntKind.wrap
    simp [IntKind.signed, IntKind.bits]
  rw [this]
  unfold by8
  rw [UInt8.toNat_ofNat']
  omega
@[simp] theorem by8_toNat (x : UInt8) : by8 (x.toNat : Int) = x := by
  have := u8_lt x
  unfold by8
  apply UInt8.toNat_inj.1
  rw [UInt8.toNat_ofNat']
  omega

theorem eqExps_ok (x y : Ex) : CallOK Go.Proofs.Tryz.prog 159 [.agg x.ds, .agg y.ds] (.one (bo (decide (x = y)))) := by
  have hF := fnOk 17 [.tmp 4]
  refine callOK hF 60 Go.Proofs.Tryz.func159 rfl rfl rfl (by decide) (by simp) rfl ?_
  intro w0 hw
  have S := @vc_sound w0 _ hF ⟨(.one (bo (decide (x = y)))), []⟩ Go.Proofs.Tryz.f159 rfl (by simp)
  simp
  refine J.rounds 5 (LpW.step (S 60 _ _ ?_))
  simp
  refine J.dr hF mixed 6 [[], [0], [0, 1], [], [3], [3, 4], [0, 1, 2, 3, 4, 5]] [[10, 11, 12, 13, 14, 15], [11, 12, 13, 14, 15], [12, 13, 14, 15], [10, 11, 12, 13, 14, 15], [10, 11, 12, 14, 15], [10, 11, 12, 15]] (by decide) ?_
  simp
  refine S 60 _ _ ?_
  simp
  refine ⟨fun ha e => ha (by rw [e]), fun ha => LpW.inv (LpW.step (S 60 _ _ ?_))⟩
  simp
  refine J.dr hF mixed 6 [[], [0], [0, 1], [], [3], [3, 4], [0, 1, 2, 3, 4, 5]] [[10, 11, 12, 13, 14, 15], [11, 12, 13, 14, 15], [12, 13, 14, 15], [10, 11, 12, 13, 14, 15], [10, 11, 12, 14, 15], [10, 11, 12, 15]] (by decide) ?_
  simp
  refine S 60 _ _ ?_
  simp
  refine ⟨fun hb e => hb (by rw [e]), fun hb => LpW.inv (LpW.step (S 60 _ _ ?_))⟩
  simp
  refine J.dr hF mixed 6 [[], [0], [0, 1], [], [3], [3, 4], [0, 1, 2, 3, 4, 5]] [[10, 11, 12, 13, 14, 15], [11, 12, 13, 14, 15], [12, 13, 14, 15], [10, 11, 12, 13, 14, 15], [10, 11, 12, 14, 15], [10, 11, 12, 15]] (by decide) ?_
  simp
  refine S 60 _ _ ?_
  simp
  refine ⟨fun hc e => hc (by rw [e]), fun hc => LpW.inv (LpW.step (S 60 _ _ ?_))⟩
  simp
  cases x; cases y; simp_all

theorem eqTerm_ok (x y : Tm) : CallOK Go.Proofs.Tryz.prog 132 [.agg [u8 x.e.a, u8 x.e.b, u8 x.e.c, i64 x.v], .agg [u8 y.e.a, u8 y.e.b, u8 y.e.c, i64 y.v]] (.one (bo (decide (x = y)))) := by
  have hF := fnOk 16 [.tmp 4]
  refine callOK hF 60 Go.Proofs.Tryz.func132 rfl rfl rfl (by decide) (by simp) rfl ?_
  intro w0 hw
  have S := @vc_sound w0 _ hF ⟨(.one (bo (decide (x = y)))), []⟩ Go.Proofs.Tryz.f132 rfl (by simp)
  have c1 := eqExps_ok x.e y.e
  simp
  by_cases he : x.e = y.e
  · rw [decide_eq_true he] at c1
    refine CallW.ok (by decide) (by simp) c1 (by simp) (S 60 _ _ ?_)
    simp
    refine ⟨fun hv e => hv (by rw [e]), fun hv => ?_⟩
    cases x; cases y; simp_all
  · rw [decide_eq_false he] at c1
    refine CallW.ok (by decide) (by simp) c1 (by simp) (S 60 _ _ ?_)
    simp
    exact fun e => he (by rw [e])

theorem eqTermS_ok (xs ys : List Tm) (hl : xs.length ≤ 2000000) : CallOK Go.Proofs.Tryz.prog 89 [.one (vTerms xs), .one (vTerms ys)] (.one (bo (decide (xs = ys)))) := by
  have hF := fnOk 27 [.tmp 4]
  refine callOK hF 60 Go.Proofs.Tryz.func89 rfl rfl rfl (by decide) (by simp) rfl ?_
  intro w0 hw
  have S := @vc_sound w0 _ hF ⟨(.one (bo (decide (xs = ys)))), []⟩ Go.Proofs.Tryz.f89 rfl (by simp)
  simp
  refine ⟨fun hne e => hne (by rw [e]), fun he => ?_⟩
  refine J.loop hw (fun i : Nat => ⟨[(0, .c (.d (vTerms xs))), (1, .c (.d (vTerms ys))), (5, .c (.d (i64 i)))], []⟩)
    (fun i => i ≤ xs.length ∧ xs.take i = ys.take i) (fun i => xs.length - i) 0 (by simp) (by simp) ?_
  rintro i ⟨hi, ht⟩
  refine S 60 _ _ ?_
  simp
  refine ⟨fun hlt => ?_, fun hge => ?_⟩
  · refine J.dr hF mixed 8 [[], [], [0, 1], [0, 1, 2], [], [], [4, 5], [4, 5, 6], [0, 1, 2, 3, 4, 5, 6, 7], [0, 1, 2, 3, 4, 5, 6, 7, 8]] [[17, 18, 19, 20, 21, 22, 23, 24], [17, 18, 19, 20, 21, 22, 23, 24], [19, 20, 21, 22, 23, 24], [20, 21, 22, 23, 24], [17, 18, 19, 20, 21, 22, 23, 24], [17, 18, 19, 20, 21, 22, 23, 24], [17, 18, 19, 20, 23, 24], [17, 18, 19, 20, 24]] (by decide) ?_
    simp
    refine ⟨hlt, fun a ha => ⟨by omega, fun b hb => ?_⟩⟩
    have c1 := eqTerm_ok a b
    by_cases hab : a = b
    · rw [decide_eq_true hab] at c1
      refine S 60 _ _ ?_
      simp
      refine CallW.ok (by decide) (by simp) c1 (by simp) (S 60 _ _ ?_)
      simp
      subst hab
      refine Nxt.mk (i + 1) ⟨hlt, ?_⟩ (by simp [wrapS (i := i) (n := xs.length) hlt (by omega)]) (by omega)
      rw [List.take_add_one, List.take_add_one, ht, ha, hb]
    · rw [decide_eq_false hab] at c1
      refine S 60 _ _ ?_
      simp
      refine CallW.ok (by decide) (by simp) c1 (by simp) (S 60 _ _ ?_)
      simp
      intro e
      subst e
      rw [ha] at hb
      exact hab (Option.some.inj hb)
  · have h1 : xs = xs.take i := by rw [List.take_of_length_le (by omega)]
    have h2 : ys = ys.take i := by rw [List.take_of_length_le (by omega)]
    rw [h1, h2, ht]

theorem eqPoly_ok (p d p' d' : Int) (xs ys : List Tm) (hl : xs.length ≤ 2000000) : CallOK Go.Proofs.Tryz.prog 35 [pv p d xs, pv p' d' ys] (.one (bo (decide (p = p' ∧ d = d' ∧ xs = ys)))) := by
  have hF := fnOk 21 [.tmp 4]
  refine callOK hF 60 Go.Proofs.Tryz.func35 rfl rfl rfl (by decide) (by simp) rfl ?_
  intro w0 hw
  have S := @vc_sound w0 _ hF ⟨(.one (bo (decide (p = p' ∧ d = d' ∧ xs = ys)))), []⟩ Go.Proofs.Tryz.f35 rfl (by simp)
  have c1 := eqTermS_ok xs ys hl
  by_cases hp : p = p'
  · by_cases hd : d = d'
    · subst hp; subst hd
      have e : decide (p = p ∧ d = d ∧ xs = ys) = decide (xs = ys) := by simp
      rw [e] at S ⊢
      simp
      refine CallW.ok (by decide) (by simp) c1 (by simp) (S 60 _ _ ?_)
      by_cases hx : xs = ys
      · rw [decide_eq_true hx]; simp
      · rw [decide_eq_false hx]; simp
    · have hb : (d != d') = true := by simpa using hd
      have e : decide (p = p' ∧ d = d' ∧ xs = ys) = false := by simp [hd]
      rw [e]
      have hb0 : (p != p') = false := by simpa using hp
      simp [hb0, hb]
  · have hb : (p != p') = true := by simpa using hp
    have e : decide (p = p' ∧ d = d' ∧ xs = ys) = false := by simp [hp]
    rw [e]
    simp [hb]

end Go.Sm

namespace Go.Sm
open Go.RowKit

/-- Is it a monomial in d letters. -/
def inD (d : Int) (b c : Nat) : Prop := ¬ (d < 2 ∧ 0 < b) ∧ ¬ (d < 3 ∧ 0 < c)
instance (d : Int) (b c : Nat) : Decidable (inD d b c) := by unfold inD; infer_instance
end Go.Sm

namespace Go.Sm
open Go.RowKit

abbrev Asc (ts : List Tm) : Prop := ts.Pairwise fun a b => cmpE a.e b.e < 0
/-- Canonical terms. -/
def Can (p : Int) (ts : List Tm) : Prop := Asc ts ∧ ∀ t ∈ ts, 1 ≤ t.v ∧ t.v < p

theorem coef_none : ∀ {ts : List Tm} {e : Ex}, (∀ t ∈ ts, t.e ≠ e) → coef ts e = 0
  | [], _, _ => rfl
  | t :: ts, e, h => by
    rw [coef, if_neg (h t (List.mem_cons_self ..))]
    exact coef_none fun u hu => h u (List.mem_cons_of_mem _ hu)
theorem asc_ne {t : Tm} {ts : List Tm} (h : Asc (t :: ts)) : ∀ u ∈ ts, u.e ≠ t.e := by
  intro u hu e
  have := (List.pairwise_cons.1 h).1 u hu
  rw [e, cmpE_self] at this; omega
theorem coef_mem : ∀ {ts : List Tm} {t : Tm}, (ts.map (·.e)).Nodup → t ∈ ts → coef ts t.e = t.v
  | [], t, _, h => by cases h
  | u :: ts, t, hn, h => by
    simp only [List.map_cons, List.nodup_cons] at hn
    rcases List.mem_cons.1 h with rfl | h
    · simp [coef]
    · have : u.e ≠ t.e := fun e => hn.1 (by rw [e]; exact List.mem_map_of_mem h)
      rw [coef, if_neg this]; exact coef_mem hn.2 h
theorem asc_nodup {ts : List Tm} (h : Asc ts) : (ts.map (·.e)).Nodup := by
  rw [List.Nodup, List.pairwise_map]
  refine h.imp fun {a b} hab e => ?_
  rw [e, cmpE_self] at hab; omega
theorem coef_perm {xs ys : List Tm} (h : xs.Perm ys) (hn : (ys.map (·.e)).Nodup) (e : Ex) : coef xs e = coef ys e := by
  have hn' : (xs.map (·.e)).Nodup := ((h.map _).nodup_iff).2 hn
  by_cases hx : ∃ t ∈ xs, t.e = e
  · obtain ⟨t, ht, rfl⟩ := hx
    rw [coef_mem hn' ht, coef_mem hn (h.subset ht)]
  · have h1 : ∀ t ∈ xs, t.e ≠ e := fun t ht he => hx ⟨t, ht, he⟩
    rw [coef_none h1, coef_none fun t ht => h1 t (h.symm.subset ht)]

/-- Canonical terms with the same coefficients are the same. -/
theorem can_ext {p : Int} : ∀ {xs ys : List Tm}, Can p xs → Can p ys → (∀ e, coef xs e = coef ys e) → xs = ys
  | [], [], _, _, _ => rfl
  | [], u :: ys, _, hy, h => by
    have := h u.e
    simp only [coef, if_true] at this
    have := hy.2 u (List.mem_cons_self ..); omega
  | t :: xs, [], hx, _, h => by
    have := h t.e
    simp only [coef, if_true] at this
    have := hx.2 t (List.mem_cons_self ..); omega
  | t :: xs, u :: ys, hx, hy, h => by
    have ht := hx.2 t (List.mem_cons_self ..)
    have hu := hy.2 u (List.mem_cons_self ..)
    obtain ⟨a1, a2⟩ := List.pairwise_cons.1 hx.1
    obtain ⟨b1, b2⟩ := List.pairwise_cons.1 hy.1
    have htu : t.e = u.e := by
      apply Decidable.byContradiction
      intro hne
      have hk : t.e.key ≠ u.e.key := fun e => hne (key_inj e)
      rcases Int.lt_or_gt_of_ne hk with hlt | hlt
      · have h0 : coef (u :: ys) t.e = 0 := coef_none fun w hw => by
          rcases List.mem_cons.1 hw with rfl | hw
          · exact fun e => hne e.symm
          · have := (cmpE_key _ _).1 (b1 w hw)
            intro e; rw [e] at this; omega
        have := h t.e
        rw [h0] at this
        simp only [coef, if_true] at this; omega
      · have h0 : coef (t :: xs) u.e = 0 := coef_none fun w hw => by
          rcases List.mem_cons.1 hw with rfl | hw
          · exact hne
          · have := (cmpE_key _ _).1 (a1 w hw)
            intro e; rw [e] at this; omega
        have := h u.e
        rw [h0] at this
        simp only [coef, if_true] at this; omega
    have hv : t.v = u.v := by
      have := h t.e
      simp only [coef, if_true, htu] at this; exact this
    have : t = u := by cases t; cases u; simp_all
    subst this
    congr 1
    refine can_ext ⟨a2, fun w hw => hx.2 w (List.mem_cons_of_mem _ hw)⟩ ⟨b2, fun w hw => hy.2 w (List.mem_cons_of_mem _ hw)⟩ fun e => ?_
    by_cases he : t.e = e
    · subst he
      rw [coef_none (asc_ne hx.1), coef_none (asc_ne hy.1)]
    · have := h e
      simpa only [coef, if_neg he] using this

/-! ### a number put to a coefficient -/
theorem putGo_true (e : Ex) (v : Int) : ∀ (ts : List Tm), putGo e v true ts = ts.filter fun t => t.e ≠ e
  | [] => rfl
  | t :: ts => by
    simp only [putGo, Bool.true_or]
    rw [putGo_true e v ts]
    by_cases h : t.e = e <;> simp [h]
theorem coef_filter {e e' : Ex} : ∀ (ts : List Tm), coef (ts.filter fun t => t.e ≠ e) e' = if e' = e then 0 else coef ts e'
  | [] => by simp [coef]
  | t :: ts => by
    have ih := coef_filter (e := e) (e' := e') ts
    rw [List.filter_cons]
    by_cases h : t.e = e
    · rw [if_neg (by simpa using h), ih]
      by_cases h2 : e' = e
      · simp [h2]
      · rw [if_neg h2, if_neg h2, coef, if_neg (fun q => h2 (by rw [← q, h]))]
    · rw [if_pos (by simpa using h), coef, ih]
      by_cases h2 : e' = e
      · rw [if_pos h2, if_pos h2, if_neg (fun q => h (by rw [q, h2]))]
      · rw [if_neg h2, if_neg h2, coef]
theorem putGo_coef {e e' : Ex} {v : Int} : ∀ {ts : List Tm}, Asc ts → coef (putGo e v false ts) e' = if e' = e then v else coef ts e'
  | [], _ => by
    simp only [putGo, coef, Bool.false_eq_true, if_false]
    by_cases h : e' = e
    · simp [h]
    · rw [if_neg (fun q => h q.symm), if_neg h]
  | t :: ts, hs => by
    obtain ⟨h1, h2⟩ := List.pairwise_cons.1 hs
    have ih := putGo_coef (e := e) (e' := e') (v := v) h2
    by_cases hlt : cmpE e t.e < 0
    · have hne : t.e ≠ e := fun q => by rw [q, cmpE_self] at hlt; omega
      simp only [putGo, hlt, decide_true, Bool.or_true, and_self, if_true, if_neg hne, List.cons_append, List.nil_append, coef, putGo_true, coef_filter]
      by_cases h : e' = e
      · simp [h]
      · rw [if_neg (fun q => h q.symm), if_neg h, if_neg h]
    · by_cases he : t.e = e
      · simp only [putGo, hlt, and_false, if_false, if_pos he, List.nil_append, decide_false, Bool.or_false, ih]
        by_cases h : e' = e
        · rw [if_pos h, if_pos h]
        · rw [if_neg h, if_neg h, coef, if_neg (fun q => h (by rw [← q, he]))]
      · simp only [putGo, hlt, and_false, if_false, if_neg he, List.nil_append, List.cons_append, decide_false, Bool.or_false, coef, ih]
        by_cases h : e' = e
        · rw [if_pos h, if_pos h, if_neg (fun q => he (by rw [q, h]))]
        · rw [if_neg h, if_neg h]
theorem putGo_mem {e : Ex} {v : Int} : ∀ {ts : List Tm} {b : Bool} {t : Tm}, t ∈ putGo e v b ts → t = ⟨e, v⟩ ∧ b = false ∨ t ∈ ts ∧ t.e ≠ e
  | [], b, t, h => by
    cases b <;> simp [putGo] at h
    exact .inl ⟨h, rfl⟩
  | u :: ts, b, t, h => by
    simp only [putGo, List.mem_append] at h
    rcases h with h | h | h
    · split at h
      · rename_i hb; simp only [List.mem_singleton] at h; exact .inl ⟨h, hb.1⟩
      · cases h
    · split at h
      · cases h
      · rename_i hu; simp only [List.mem_singleton] at h; exact .inr ⟨by rw [h]; exact List.mem_cons_self .., by rw [h]; exact hu⟩
    · rcases putGo_mem h with ⟨h1, h2⟩ | ⟨h1, h2⟩
      · cases b <;> simp at h2
        exact .inl ⟨h1, rfl⟩
      · exact .inr ⟨List.mem_cons_of_mem _ h1, h2⟩
theorem putGo_asc {e : Ex} {v : Int} : ∀ {ts : List Tm}, Asc ts → Asc (putGo e v false ts)
  | [], _ => by simp [putGo]
  | t :: ts, hs => by
    obtain ⟨h1, h2⟩ := List.pairwise_cons.1 hs
    by_cases hlt : cmpE e t.e < 0
    · have hne : t.e ≠ e := fun q => by rw [q, cmpE_self] at hlt; omega
      have hall : ∀ u ∈ t :: ts, cmpE e u.e < 0 := by
        intro u hu
        rcases List.mem_cons.1 hu with rfl | hu
        · exact hlt
        · have q1 := (cmpE_key _ _).1 hlt
          have q2 := (cmpE_key _ _).1 (h1 u hu)
          exact (cmpE_key _ _).2 (by omega)
      have hf : ts.filter (fun u => u.e ≠ e) = ts := List.filter_eq_self.2 fun u hu => by
        have := hall u (List.mem_cons_of_mem _ hu)
        have : u.e ≠ e := fun q => by rw [q, cmpE_self] at this; omega
        simpa using this
      simp only [putGo, hlt, decide_true, Bool.or_true, and_self, if_true, if_neg hne, List.cons_append, List.nil_append, putGo_true, hf]
      exact List.pairwise_cons.2 ⟨hall, hs⟩
    · by_cases he : t.e = e
      · simp only [putGo, hlt, and_false, if_false, if_pos he, List.nil_append, decide_false, Bool.or_false]
        exact putGo_asc h2
      · simp only [putGo, hlt, and_false, if_false, if_neg he, List.nil_append, List.cons_append, decide_false, Bool.or_false]
        refine List.pairwise_cons.2 ⟨fun u hu => ?_, putGo_asc h2⟩
        rcases putGo_mem hu with ⟨rfl, _⟩ | ⟨hu, _⟩
        · rw [cmpE_key] at *
          have : e.key ≠ t.e.key := fun q => he (key_inj q).symm
          simp only; omega
        · exact h1 u hu
theorem putT_can {p : Int} {ts : List Tm} (hp : 0 < p) (h : Can p ts) (e : Ex) (v : Int) : Can p (putT p ts e v) ∧ ∀ e', coef (putT p ts e v) e' = if e' = e then (v + coef ts e) % p else coef ts e' := by
  unfold putT
  have q1 := Int.emod_nonneg (v + coef ts e) (show p ≠ 0 by omega)
  have q2 := Int.emod_lt_of_pos (v + coef ts e) hp
  by_cases h0 : (v + coef ts e) % p = 0
  · have : ((v + coef ts e) % p == 0) = true := by simpa using h0
    rw [this, putGo_true]
    refine ⟨⟨h.1.sublist List.filter_sublist, fun t ht => h.2 t (List.mem_filter.1 ht).1⟩, fun e' => ?_⟩
    rw [coef_filter, h0]
  · have : ((v + coef ts e) % p == 0) = false := by simpa using h0
    rw [this]
    refine ⟨⟨putGo_asc h.1, fun t ht => ?_⟩, fun e' => putGo_coef h.1⟩
    rcases putGo_mem ht with ⟨rfl, _⟩ | ⟨ht, _⟩
    · simp only; omega
    · exact h.2 t ht
theorem can_nil (p : Int) : Can p [] := ⟨List.Pairwise.nil, fun _ h => by cases h⟩
theorem coef_bound {p : Int} {ts : List Tm} (hp : 0 < p) (h : Can p ts) (e : Ex) : 0 ≤ coef ts e ∧ coef ts e < p := by
  by_cases hx : ∃ t ∈ ts, t.e = e
  · obtain ⟨t, ht, rfl⟩ := hx
    rw [coef_mem (asc_nodup h.1) ht]
    have := h.2 t ht; omega
  · rw [coef_none fun t ht he => hx ⟨t, ht, he⟩]; omega
theorem putGo_length {e : Ex} {v : Int} : ∀ {ts : List Tm} {b : Bool}, (putGo e v b ts).length ≤ ts.length + (if b then 0 else 1)
  | [], b => by cases b <;> simp [putGo]
  | t :: ts, b => by
    have ih := putGo_length (e := e) (v := v) (ts := ts) (b := b || decide (cmpE e t.e < 0))
    simp only [putGo, List.length_append, List.length_cons]
    by_cases h1 : cmpE e t.e < 0 <;> by_cases h2 : t.e = e <;> cases b <;> simp [h1, h2, cmpE_self] at ih ⊢ <;> omega
theorem putT_length (p : Int) (ts : List Tm) (e : Ex) (v : Int) : (putT p ts e v).length ≤ ts.length + 1 := by
  have := putGo_length (e := e) (v := (v + coef ts e) % p) (ts := ts) (b := (v + coef ts e) % p == 0)
  unfold putT
  split at this <;> omega

/-! ### sums -/
def sget : List (Ex × Int) → Ex → Int
  | [], _ => 0
  | x :: l, e => if x.1 = e then x.2 else sget l e
def sput : List (Ex × Int) → Ex → Int → List (Ex × Int)
  | [], e, v => [(e, v)]
  | x :: l, e, v => if x.1 = e then (e, v) :: l else x :: sput l e v
theorem sget_sput (e e' : Ex) (v : Int) : ∀ l, sget (sput l e v) e' = if e' = e then v else sget l e'
  | [] => by
    simp only [sput, sget]
    by_cases h : e' = e
    · simp [h]
    · rw [if_neg (fun q => h q.symm), if_neg h]
  | x :: l => by
    simp only [sput]
    by_cases hx : x.1 = e
    · rw [if_pos hx]
      simp only [sget]
      by_cases h : e' = e
      · simp [h]
      · rw [if_neg (fun q => h q.symm), if_neg h, if_neg (fun q => h (by rw [← q, hx]))]
    · rw [if_neg hx]
      simp only [sget, sget_sput e e' v l]
      by_cases h : e' = e
      · rw [if_pos h, if_pos h, if_neg (fun q => hx (by rw [q, h]))]
      · rw [if_neg h, if_neg h]
theorem sput_keys (e : Ex) (v : Int) : ∀ l : List (Ex × Int), (sput l e v).map (·.1) = if e ∈ l.map (·.1) then l.map (·.1) else l.map (·.1) ++ [e]
  | [] => by simp [sput]
  | x :: l => by
    have ih := sput_keys e v l
    simp only [sput]
    by_cases hx : x.1 = e
    · simp [hx]
    · rw [if_neg hx, List.map_cons, ih]
      have hx' : ¬ e = x.1 := fun q => hx q.symm
      by_cases h : e ∈ l.map (·.1)
      · rw [if_pos h, if_pos (by simp [h]), List.map_cons]
      · rw [if_neg h, if_neg (by simp only [List.map_cons, List.mem_cons, not_or]; exact ⟨hx', h⟩), List.map_cons, List.cons_append]
theorem sput_nodup {l : List (Ex × Int)} (h : (l.map (·.1)).Nodup) (e : Ex) (v : Int) : ((sput l e v).map (·.1)).Nodup := by
  rw [sput_keys]
  split
  · exact h
  · rename_i hn
    rw [List.nodup_append]
    exact ⟨h, by simp, fun a ha b hb => by simp only [List.mem_singleton] at hb; subst hb; exact fun e => hn (e ▸ ha)⟩
theorem sput_length (l : List (Ex × Int)) (e : Ex) (v : Int) : (sput l e v).length ≤ l.length + 1 := by
  have := congrArg List.length (sput_keys e v l)
  rw [List.length_map] at this
  rw [this]
  split <;> simp
theorem sget_mem : ∀ {l : List (Ex × Int)} {x : Ex × Int}, (l.map (·.1)).Nodup → x ∈ l → sget l x.1 = x.2
  | [], x, _, h => by cases h
  | y :: l, x, hn, h => by
    simp only [List.map_cons, List.nodup_cons] at hn
    rcases List.mem_cons.1 h with rfl | h
    · simp [sget]
    · have : y.1 ≠ x.1 := fun e => hn.1 (by rw [e]; exact List.mem_map_of_mem h)
      rw [sget, if_neg this]; exact sget_mem hn.2 h
theorem sget_none : ∀ {l : List (Ex × Int)} {e : Ex}, (∀ x ∈ l, x.1 ≠ e) → sget l e = 0
  | [], _, _ => rfl
  | x :: l, e, h => by
    rw [sget, if_neg (h x (List.mem_cons_self ..))]
    exact sget_none fun u hu => h u (List.mem_cons_of_mem _ hu)

theorem ofSum_can {p : Int} {l : List (Ex × Int)} (hp : 0 < p) (hn : (l.map (·.1)).Nodup) : Can p (ofSum p l) ∧ ∀ e, coef (ofSum p l) e = sget l e % p := by
  have hk := kept_keys (p := p) hn
  refine ⟨⟨srt_sorted hk, fun t ht => ?_⟩, fun e => ?_⟩
  · have ht := (srt_perm _).subset ht
    obtain ⟨x, hx, hx2⟩ := List.mem_filterMap.1 ht
    split at hx2
    · cases hx2
    · rename_i h0
      simp only [Option.some.injEq] at hx2; subst hx2
      have q1 := Int.emod_nonneg x.2 (show p ≠ 0 by omega)
      have q2 := Int.emod_lt_of_pos x.2 hp
      simp only; omega
  · unfold ofSum
    rw [coef_perm (srt_perm _) hk]
    by_cases hx : ∃ x ∈ l, x.1 = e
    · obtain ⟨x, hx, rfl⟩ := hx
      rw [sget_mem hn hx]
      by_cases h0 : x.2 % p = 0
      · rw [h0]
        refine coef_none fun t ht he => ?_
        obtain ⟨y, hy, hy2⟩ := List.mem_filterMap.1 ht
        split at hy2
        · cases hy2
        · rename_i h1
          simp only [Option.some.injEq] at hy2; subst hy2
          simp only at he
          have a1 := sget_mem hn hx
          have a2 := sget_mem hn hy
          rw [he] at a2
          rw [a1] at a2
          rw [← a2] at h1; exact h1 h0
      · have : (⟨x.1, x.2 % p⟩ : Tm) ∈ kept p l := List.mem_filterMap.2 ⟨x, hx, by rw [if_neg h0]⟩
        exact coef_mem hk this
    · rw [sget_none fun x hxl he => hx ⟨x, hxl, he⟩]
      have : (0 : Int) % p = 0 := by simp
      rw [this]
      refine coef_none fun t ht he => ?_
      obtain ⟨y, hy, hy2⟩ := List.mem_filterMap.1 ht
      split at hy2
      · cases hy2
      · simp only [Option.some.injEq] at hy2; subst hy2
        exact hx ⟨y, hy, he⟩
/-! ### a sum in memory -/
end Go.Sm

namespace Go.Sm
open Go.RowKit

theorem Pr.pos {p : Int} (h : Pr p) : 2 ≤ p ∧ p ≤ 13 := by unfold Pr at h; omega

end Go.Sm
