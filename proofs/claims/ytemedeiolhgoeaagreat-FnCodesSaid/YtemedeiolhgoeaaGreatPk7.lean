/- Towards the rows of this seat: what the functions do, as contracts over plain data. -/
import Derived.Test.YtemedeiolhgoeaaGreatPk6
import Derived.Test.YtemedeiolhgoeaaGreatPk3
namespace Go.Sm
open Go.RowKit

/-- The extended code. -/
def extCR (p l : Int) (rows : List (List Int)) : (Int × Int × List (List Int)) × Int := if GoodC p l rows then (if l = 10 then ((0, 0, []), 3) else ((p, l + 1, rows.map (extR p)), 0)) else ((0, 0, []), 1)

theorem extR_row {p : Int} {n : Nat} (hp : 0 < p) {r : List Int} (h : RowOk p n r) : RowOk p (n + 1) (extR p r) := by
  refine ⟨by simp [extR, h.1], fun x hx => ?_⟩
  rcases List.mem_append.1 hx with hx | hx
  · exact h.2 x hx
  · simp at hx; subst hx; exact ⟨Int.emod_nonneg _ (by omega), Int.emod_lt_of_pos _ hp⟩
theorem ext_rows {p : Int} {n : Nat} (hp : 0 < p) {rows : List (List Int)} (h : ∀ r ∈ rows, RowOk p n r) : ∀ r ∈ rows.map (extR p), RowOk p (n + 1) r := fun r hr => by
  obtain ⟨q, hq, rfl⟩ := List.mem_map.1 hr
  exact extR_row hp (h q hq)
theorem sum_range {p : Int} {n : Nat} (hp : 0 < p) : ∀ {r : List Int}, (∀ x ∈ r, 0 ≤ x ∧ x < p) → r.length = n → 0 ≤ r.sum ∧ r.sum ≤ n * p
  | [], _, h => by simp at h; subst h; simp
  | x :: r, hr, h => by
    simp at h
    subst h
    have h1 := sum_range hp (r := r) (fun y hy => hr y (List.mem_cons_of_mem _ hy)) rfl
    have h2 := hr x (List.mem_cons_self ..)
    have e : ((r.length + 1 : Nat) : Int) * p = r.length * p + p := by rw [Int.natCast_succ, Int.add_mul, Int.one_mul]
    rw [List.sum_cons, e]
    omega
theorem sum_take {r : List Int} {k : Nat} {x : Int} (h : r[k]? = some x) : (r.take (k + 1)).sum = (r.take k).sum + x := by rw [List.take_add_one, h]; simp
theorem ext_mod {p s : Int} (hp : 0 < p) (hs : 0 ≤ s) : (p - s.tmod p).tmod p = (-s) % p := by
  rw [Int.tmod_eq_emod_of_nonneg hs]
  have h1 := Int.emod_lt_of_pos s hp
  rw [Int.tmod_eq_emod_of_nonneg (by omega)]
  refine Int.emod_eq_emod_iff_emod_sub_eq_zero.2 (Int.emod_eq_zero_of_dvd ?_)
  rw [show p - s % p - -s = p - (s % p - s) by omega]
  exact Int.dvd_sub (Int.dvd_refl p) (mod_al s)

theorem ext_small {p : Int} {n : Nat} {rows : List (List Int)} (hp : 0 < p) (hn : n < 10) (hl : rows.length ≤ 10) (h : ∀ r ∈ rows, RowOk p n r) :
    (rows.map (extR p)).length ≤ 100 ∧ total (rows.map (extR p)) ≤ 1000 ∧ ∀ r ∈ rows.map (extR p), r.length ≤ 10 := by
  have h3 : ∀ r ∈ rows.map (extR p), r.length ≤ 10 := fun r hr => by rw [(ext_rows hp h r hr).1]; omega
  have := total_bound h3
  rw [List.length_map] at this
  exact ⟨by rw [List.length_map]; omega, by omega, h3⟩
theorem extCR_small (p l : Int) (rows : List (List Int)) : ∃ p' l' E e, extCR p l rows = ((p', l', E), e) ∧ E.length ≤ 100 ∧ total E ≤ 1000 ∧ ∀ r ∈ E, r.length ≤ 10 := by
  unfold extCR
  split
  · rename_i h
    obtain ⟨n, rfl, h1, h2, h3, h4⟩ := h.nat
    have hpp := prPos h.1.1.1
    split
    · exact ⟨_, _, _, _, rfl, small_none⟩
    · exact ⟨_, _, _, _, rfl, ext_small (by omega) (by omega) h3 h4⟩
  · exact ⟨_, _, _, _, rfl, small_none⟩

set_option maxHeartbeats 1000000 in
theorem ExtendCode_ok (p l : Int) (rows : List (List Int)) (hl : rows.length ≤ 1048576) (hr : ∀ r ∈ rows, r.length ≤ 1048576) : CallOK Go.Proofs.Tryz.prog 23 [vCode p l rows] (cres (extCR p l rows)) := by
  have hF := fnOk 63 [.cell 2 26, .tmp 3]
  refine callOK hF 60 Go.Proofs.Tryz.func23 rfl rfl rfl (by decide) (by simp) rfl ?_
  intro w0 hw
  have S := @vc_sound w0 _ hF ⟨(cres (extCR p l rows)), []⟩ Go.Proofs.Tryz.f23 rfl (by simp)
  have c1 := IsCode_ok p l rows hl hr
  by_cases hg : GoodC p l rows
  · rw [decide_eq_true hg] at c1
    obtain ⟨n, rfl, h1, h2, h3, h4⟩ := hg.nat
    have hpp := prPos hg.1.1.1
    by_cases h10 : (n : Int) = 10
    · have e : extCR p n rows = ((0, 0, []), 3) := by unfold extCR; rw [if_pos hg, if_pos h10]
      rw [e] at S ⊢
      simp
      refine CallW.ok (by decide) (by simp) c1 (by simp) (S 60 _ _ ?_)
      simp [h10]
      try omega
    · have e : extCR p n rows = ((p, (n : Int) + 1, rows.map (extR p)), 0) := by unfold extCR; rw [if_pos hg, if_neg h10]
      have hgd := ech_good hg.1.1.1 hg.1.rows hg.2.2
      have hid := ext_id hg.1.1.1 hgd.1 hgd.2
      have c3 := code_ok p (n + 1) (rows.map (extR p)) (goodRows_of (n := n + 1) hg.1.1.1 (by omega) (by omega) (by omega) (ext_rows (by omega) h4)) (by simp; omega)
      rw [hid] at c3
      have hp0 : p ≠ 0 := by omega
      have hwn : IntKind.i64.wrap ((n : Int) + 1) = (n : Int) + 1 := wrap64 (by omega) (by omega)
      rw [e] at S ⊢
      simp
      refine CallW.ok (by decide) (by simp) c1 (by simp) (S 60 _ _ ?_)
      simp
      refine ⟨h10, fun _ => ?_⟩
      refine J.loop hw (fun i : Nat => ⟨[(1, .c (.ref 64001 0)), (2, .c (.ref 64002 0)), (4, .c (.ob 64004)), (22, .c (.d (vIntss rows))), (23, .c (.d (i64 rows.length))), (24, .c (.d (i64 i)))],
          [(64001, .var [.d (i64 p), .d (i64 n), .d (vIntss rows)]), (64002, .var [.d (i64 0), .d (i64 0), .ob 64022]), (64022, .arr 43 1 []), (64004, .arr 43 1 (((rows.take i).map (extR p)).map fun xs => [oInts xs]))]⟩)
        (fun i => i ≤ rows.length) (fun i => rows.length - i) 0 (by simp) (by simp) ?_
      intro i hi
      have hal : ((rows.take i).map (extR p)).length = i := by simp; omega
      have hst := fun r (h : rows[i]? = some r) => (show (rows.take (i + 1)).map (extR p) = (rows.take i).map (extR p) ++ [extR p r] by rw [List.take_add_one, h]; simp)
      generalize hac : (rows.take i).map (extR p) = acc at hal hst
      refine S 8 _ _ ?_
      simp
      refine ⟨fun hlt => ?_, fun hge => ?_⟩
      · obtain ⟨r, hr'⟩ : ∃ r, rows[i]? = some r := ⟨rows[i], List.getElem?_eq_getElem hlt⟩
        have hrow := h4 r (List.mem_of_getElem? hr')
        have hrl := hrow.1
        have hst := hst r hr'
        have c2 := Clone_ok r (by omega)
        refine S 7 _ _ ?_
        simp
        refine ⟨hlt, fun r' hr'' => ?_⟩
        obtain rfl : r = r' := Option.some.inj (hr'.symm.trans hr'')
        refine S 60 _ _ ?_
        simp
        refine J.loop hw (fun j : Nat => ⟨[(1, .c (.ref 64001 0)), (2, .c (.ref 64002 0)), (4, .c (.ob 64004)), (6, .c (.d (vInts r))), (7, .c (.d (i64 ((r.take j).sum)))), (22, .c (.d (vIntss rows))), (23, .c (.d (i64 rows.length))), (24, .c (.d (i64 i))), (28, .c (.d (vInts r))), (29, .c (.d (i64 r.length))), (30, .c (.d (i64 j)))],
            [(64001, .var [.d (i64 p), .d (i64 n), .d (vIntss rows)]), (64002, .var [.d (i64 0), .d (i64 0), .ob 64022]), (64022, .arr 43 1 []), (64004, .arr 43 1 (acc.map fun xs => [oInts xs]))]⟩)
          (fun j => j ≤ r.length) (fun j => r.length - j) 0 (by simp) (by simp) ?_
        intro j hj
        have hs1 := sum_range (p := p) (by omega) (r := r.take j) (fun x hx => hrow.2 x (List.take_subset _ _ hx)) rfl
        have hs2 : ((r.take j).length : Int) * p ≤ 10 * 13 := Int.mul_le_mul (by rw [List.length_take]; omega) (by omega) (by omega) (by omega)
        have hss := fun x (h : r[j]? = some x) => sum_take h
        have hend : r.length ≤ j → (r.take j).sum = r.sum := fun h => by rw [List.take_of_length_le h]
        generalize (r.take j).sum = sm at hs1 hss hend
        refine S 8 _ _ ?_
        simp
        refine ⟨fun hlt1 => ?_, fun hge1 => ?_⟩
        · obtain ⟨x, hx⟩ : ∃ x, r[j]? = some x := ⟨r[j], List.getElem?_eq_getElem hlt1⟩
          have hxr := hrow.2 x (List.mem_of_getElem? hx)
          have hss := hss x hx
          refine S 60 _ _ ?_
          simp
          refine ⟨hlt1, fun x' hx' => ?_⟩
          obtain rfl : x = x' := Option.some.inj (hx.symm.trans hx')
          have hwx : IntKind.i64.wrap (sm + x) = sm + x := wrap64 (by omega) (by omega)
          simp [hwx]
          exact Nxt.mk (j + 1) hlt1 (by simp [wrapS (i := j) (n := r.length) hlt1 (by omega), hss]) (by omega)
        · have hend := hend hge1
          have hmd := ext_mod (p := p) (s := sm) (by omega) hs1.1
          have h9 : sm.tmod p = sm % p := Int.tmod_eq_emod_of_nonneg hs1.1
          have h8 := Int.emod_lt_of_pos sm (show 0 < p by omega)
          have h7 := Int.emod_nonneg sm (show p ≠ 0 by omega)
          have hw1 : IntKind.i64.wrap (p - sm.tmod p) = p - sm.tmod p := wrap64 (by omega) (by omega)
          have hex : extR p r = r ++ [(-sm) % p] := by unfold extR; rw [hend]
          rw [hex] at hst
          refine S 60 _ _ ?_
          simp
          refine J.dr3 hF mixed 16 [[], [], [1], [], [3], [], [], [6], [5, 6, 7], [3, 4, 5, 6, 7, 8], [], [10], [3, 4, 5, 6, 7, 8, 9, 10, 11], [3, 4, 5, 6, 7, 8, 9, 10, 11, 12], [1, 2, 3, 4, 5, 6, 7, 8, 9, 10, 11, 12, 13], [1, 2, 3, 4, 5, 6, 7, 8, 9, 10, 11, 12, 13, 14], [0, 1, 2, 3, 4, 5, 6, 7, 8, 9, 10, 11, 12, 13, 14, 15], [0, 1, 2, 3, 4, 5, 6, 7, 8, 9, 10, 11, 12, 13, 14, 15, 16]] [[38, 39, 40, 41, 42, 43, 44, 45, 46, 47, 48, 49, 50, 51, 52, 53], [38, 39, 40, 41, 42, 43, 44, 45, 46, 47, 48, 49, 50, 51, 52, 53], [38, 40, 41, 42, 43, 44, 45, 46, 47, 48, 49, 50, 51, 52, 53], [38, 39, 40, 41, 42, 43, 44, 45, 46, 47, 48, 49, 50, 51, 52, 53], [38, 39, 40, 42, 43, 44, 45, 46, 47, 48, 49, 50, 51, 52, 53], [38, 39, 40, 41, 42, 43, 44, 45, 46, 47, 48, 49, 50, 51, 52, 53], [38, 39, 40, 41, 42, 43, 44, 45, 46, 47, 48, 49, 50, 51, 52, 53], [38, 39, 40, 41, 42, 43, 45, 46, 47, 48, 49, 50, 51, 52, 53], [38, 39, 40, 41, 42, 46, 47, 48, 49, 50, 51, 52, 53], [38, 39, 40, 47, 48, 49, 50, 51, 52, 53], [38, 39, 40, 41, 42, 43, 44, 45, 46, 47, 48, 49, 50, 51, 52, 53], [38, 39, 40, 41, 42, 43, 44, 45, 46, 47, 49, 50, 51, 52, 53], [38, 39, 40, 50, 51, 52, 53], [38, 39, 40, 51, 52, 53], [38, 52, 53], [38, 53]] [[], [], [], [], [], [], [], [], [], [], [], [], [], [], [2560], [3328]] [[2560, 3328], [], [], [], [], [], [], [], [], [], [], [], [], [], [], []] [] [] (by decide) ?_
          simp
          refine DrC3.ok hF (by rfl) (by simp) c2 (by simp) (by simp) ?_
          simp [hp0, hw1, hmd]
          refine ⟨⟨by omega, by omega⟩, ?_⟩
          refine DrB3.move hF (by rfl) (e := 43) (es := [[oInts (r ++ [(-sm) % p])]]) (ks := [3328]) (by decide) rfl rfl rfl (by simp) (by simp) rfl (by decide) (by decide) (by simp) (by simp) ?_
          simp
          refine S 60 _ _ ?_
          simp [hal]
          refine ⟨⟨by omega, by omega⟩, ?_⟩
          have hst2 : List.take (i + 1) (List.map ((fun xs => [oInts xs]) ∘ extR p) rows) = acc.map (fun xs => [oInts xs]) ++ [[oInts (r ++ [(-sm) % p])]] := by
            rw [← List.map_take, ← List.map_map, hst]; simp
          exact Nxt.mk (i + 1) hlt (by simp [wrapS (i := i) (n := rows.length) hlt (by omega), hst2]) (by omega)
      · have e : rows.take i = rows := List.take_of_length_le hge
        rw [e] at hac
        subst hac
        refine S 60 _ _ ?_
        simp [hwn]
        refine CallW.ok (by decide) (by simp) c3 (by simp) (S 60 _ _ ?_)
        simp
  · rw [decide_eq_false hg] at c1
    have e : extCR p l rows = ((0, 0, []), 1) := by unfold extCR; rw [if_neg hg]
    rw [e] at S ⊢
    simp
    refine CallW.ok (by decide) (by simp) c1 (by simp) (S 60 _ _ ?_)
    simp

set_option maxHeartbeats 1000000 in
theorem specExtendCode_ok (p l : Int) (rows : List (List Int)) (hl : rows.length ≤ 1048576) (hr : ∀ r ∈ rows, r.length ≤ 1048576) : CallOK Go.Proofs.Tryz.prog 24 [vCode p l rows] (cres (extCR p l rows)) := by
  have hF := fnOk 69 [.cell 2 26, .tmp 3]
  refine callOK hF 60 Go.Proofs.Tryz.func24 rfl rfl rfl (by decide) (by simp) rfl ?_
  intro w0 hw
  have S := @vc_sound w0 _ hF ⟨(cres (extCR p l rows)), []⟩ Go.Proofs.Tryz.f24 rfl (by simp)
  have c1 := l10Is_ok p l rows hl hr
  by_cases hg : GoodC p l rows
  · rw [decide_eq_true hg] at c1
    obtain ⟨n, rfl, h1, h2, h3, h4⟩ := hg.nat
    have hpp := prPos hg.1.1.1
    by_cases h10 : (n : Int) = 10
    · have e : extCR p n rows = ((0, 0, []), 3) := by unfold extCR; rw [if_pos hg, if_pos h10]
      rw [e] at S ⊢
      simp
      refine CallW.ok (by decide) (by simp) c1 (by simp) (S 60 _ _ ?_)
      simp [h10]
      try omega
    · have e : extCR p n rows = ((p, (n : Int) + 1, rows.map (extR p)), 0) := by unfold extCR; rw [if_pos hg, if_neg h10]
      have hwn : IntKind.i64.wrap ((n : Int) + 1) = (n : Int) + 1 := wrap64 (by omega) (by omega)
      rw [e] at S ⊢
      simp
      refine CallW.ok (by decide) (by simp) c1 (by simp) (S 60 _ _ ?_)
      simp
      refine ⟨h10, fun _ => ?_⟩
      refine J.loop hw (fun i : Nat => ⟨[(1, .c (.ref 64001 0)), (2, .c (.ref 64002 0)), (4, .c (.ob 64004)), (5, .c (.d (i64 i)))],
          [(64001, .var [.d (i64 p), .d (i64 n), .d (vIntss rows)]), (64002, .var [.d (i64 0), .d (i64 0), .ob 64022]), (64022, .arr 43 1 []), (64004, .arr 43 1 (((rows.take i).map (extR p)).map fun xs => [oInts xs]))]⟩)
        (fun i => i ≤ rows.length) (fun i => rows.length - i) 0 (by simp) (by simp) ?_
      intro i hi
      have hal : ((rows.take i).map (extR p)).length = i := by simp; omega
      have hst := fun r (h : rows[i]? = some r) => (show (rows.take (i + 1)).map (extR p) = (rows.take i).map (extR p) ++ [extR p r] by rw [List.take_add_one, h]; simp)
      generalize hac : (rows.take i).map (extR p) = acc at hal hst
      refine S 12 _ _ ?_
      simp
      refine ⟨fun hlt => ?_, fun hge => ?_⟩
      · obtain ⟨r, hr'⟩ : ∃ r, rows[i]? = some r := ⟨rows[i], List.getElem?_eq_getElem hlt⟩
        have hrow := h4 r (List.mem_of_getElem? hr')
        have hrl := hrow.1
        have hst := hst r hr'
        have c2 := l01Own_ok r (by omega)
        refine S 60 _ _ ?_
        simp
        refine J.loop hw (fun j : Nat => ⟨[(1, .c (.ref 64001 0)), (2, .c (.ref 64002 0)), (4, .c (.ob 64004)), (5, .c (.d (i64 i))), (6, .c (.d (i64 ((r.take j).sum)))), (7, .c (.d (i64 j)))],
            [(64001, .var [.d (i64 p), .d (i64 n), .d (vIntss rows)]), (64002, .var [.d (i64 0), .d (i64 0), .ob 64022]), (64022, .arr 43 1 []), (64004, .arr 43 1 (acc.map fun xs => [oInts xs]))]⟩)
          (fun j => j ≤ r.length) (fun j => r.length - j) 0 (by simp) (by simp) ?_
        intro j hj
        have hs1 := sum_range (p := p) (by omega) (r := r.take j) (fun x hx => hrow.2 x (List.take_subset _ _ hx)) rfl
        have hs2 : ((r.take j).length : Int) * p ≤ 10 * 13 := Int.mul_le_mul (by rw [List.length_take]; omega) (by omega) (by omega) (by omega)
        have hss := fun x (h : r[j]? = some x) => sum_take h
        have hend : r.length ≤ j → (r.take j).sum = r.sum := fun h => by rw [List.take_of_length_le h]
        generalize (r.take j).sum = sm at hs1 hss hend
        refine S 8 _ _ ?_
        simp
        refine ⟨hlt, fun r' hr'' => ?_⟩
        obtain rfl : r = r' := Option.some.inj (hr'.symm.trans hr'')
        refine S 5 _ _ ?_
        simp
        refine ⟨fun hlt1 => ?_, fun hge1 => ?_⟩
        · obtain ⟨x, hx⟩ : ∃ x, r[j]? = some x := ⟨r[j], List.getElem?_eq_getElem hlt1⟩
          have hxr := hrow.2 x (List.mem_of_getElem? hx)
          have hss := hss x hx
          refine S 9 _ _ ?_
          simp
          refine ⟨hlt, fun r' hr'' => ?_⟩
          obtain rfl : r = r' := Option.some.inj (hr'.symm.trans hr'')
          refine S 60 _ _ ?_
          simp
          refine ⟨hlt1, fun x' hx' => ?_⟩
          obtain rfl : x = x' := Option.some.inj (hx.symm.trans hx')
          have hwx : IntKind.i64.wrap (sm + x) = sm + x := wrap64 (by omega) (by omega)
          simp [hwx]
          exact Nxt.mk (j + 1) hlt1 (by simp [wrapS (i := j) (n := r.length) hlt1 (by omega), hss]) (by omega)
        · have hend := hend hge1
          have hw1 : IntKind.i64.wrap (-sm) = -sm := wrap64 (by omega) (by omega)
          have hex : extR p r = r ++ [(-sm) % p] := by unfold extR; rw [hend]
          have c3 := l01Mod_ok p (-sm) (by omega) (by omega)
          rw [hex] at hst
          refine S 60 _ _ ?_
          simp
          refine J.dr3 hF mixed 15 [[], [], [1], [], [1, 2, 3], [1, 2, 3, 4], [1, 2, 3, 4, 5], [], [7], [], [9], [1, 2, 3, 4, 5, 6, 7, 8, 9, 10], [1, 2, 3, 4, 5, 6, 7, 8, 9, 10, 11], [1, 2, 3, 4, 5, 6, 7, 8, 9, 10, 11, 12], [1, 2, 3, 4, 5, 6, 7, 8, 9, 10, 11, 12, 13], [0, 1, 2, 3, 4, 5, 6, 7, 8, 9, 10, 11, 12, 13, 14], [0, 1, 2, 3, 4, 5, 6, 7, 8, 9, 10, 11, 12, 13, 14, 15]] [[46, 47, 48, 49, 50, 51, 52, 53, 54, 55, 56, 57, 58, 59, 60], [46, 47, 48, 49, 50, 51, 52, 53, 54, 55, 56, 57, 58, 59, 60], [46, 48, 49, 50, 51, 52, 53, 54, 55, 56, 57, 58, 59, 60], [46, 47, 48, 49, 50, 51, 52, 53, 54, 55, 56, 57, 58, 59, 60], [46, 50, 51, 52, 53, 54, 55, 56, 57, 58, 59, 60], [46, 51, 52, 53, 54, 55, 56, 57, 58, 59, 60], [46, 52, 53, 54, 55, 56, 57, 58, 59, 60], [46, 47, 48, 49, 50, 51, 52, 53, 54, 55, 56, 57, 58, 59, 60], [46, 47, 48, 49, 50, 51, 52, 54, 55, 56, 57, 58, 59, 60], [46, 47, 48, 49, 50, 51, 52, 53, 54, 55, 56, 57, 58, 59, 60], [46, 47, 48, 49, 50, 51, 52, 53, 54, 56, 57, 58, 59, 60], [46, 57, 58, 59, 60], [46, 58, 59, 60], [46, 59, 60], [46, 60]] [[], [], [], [], [], [], [], [], [], [], [], [], [], [3328], [3776]] [[3328, 3776], [], [], [], [], [], [], [], [], [], [], [], [], [], []] [] [] (by decide) ?_
          rw [← List.take_append_drop 5 (List.take _ _)]
          generalize htl : List.drop 5 (List.take _ _) = tl
          simp
          refine ⟨hlt, fun r' hr'' => ?_⟩
          obtain rfl : r = r' := Option.some.inj (hr'.symm.trans hr'')
          subst htl
          simp
          refine DrC3.ok hF (by rfl) (by simp) c2 (by simp) (by simp) ?_
          simp [hw1]
          refine DrC3.ok hF (by rfl) (by simp) c3 (by simp) (by simp) ?_
          simp
          refine ⟨⟨by omega, by omega⟩, ?_⟩
          refine DrB3.move hF (by rfl) (e := 43) (es := [[oInts (r ++ [(-sm) % p])]]) (ks := [3776]) (by decide) rfl rfl rfl (by simp) (by simp) rfl (by decide) (by decide) (by simp) (by simp) ?_
          simp
          refine S 60 _ _ ?_
          simp [hal]
          refine ⟨⟨by omega, by omega⟩, ?_⟩
          have hst2 : List.take (i + 1) (List.map ((fun xs => [oInts xs]) ∘ extR p) rows) = acc.map (fun xs => [oInts xs]) ++ [[oInts (r ++ [(-sm) % p])]] := by
            rw [← List.map_take, ← List.map_map, hst]; simp
          exact Nxt.mk (i + 1) hlt (by simp [wrapS (i := i) (n := rows.length) hlt (by omega), hst2]) (by omega)
      · have e : rows.take i = rows := List.take_of_length_le hge
        rw [e] at hac
        subst hac
        refine S 60 _ _ ?_
        simp [hwn]
  · rw [decide_eq_false hg] at c1
    have e : extCR p l rows = ((0, 0, []), 1) := by unfold extCR; rw [if_neg hg]
    rw [e] at S ⊢
    simp
    refine CallW.ok (by decide) (by simp) c1 (by simp) (S 60 _ _ ?_)
    simp

end Go.Sm

namespace Go.Sm
open Go.RowKit

/-- The sum of two codes. -/
def addCR (p l : Int) (rows : List (List Int)) (q m : Int) (qows : List (List Int)) : (Int × Int × List (List Int)) × Int :=
  if GoodC p l rows ∧ GoodC q m qows then (if p = q then (if l + m ≤ 10 then ((p, l + m, addL l.toNat m.toNat rows qows), 0) else ((0, 0, []), 3)) else ((0, 0, []), 2)) else ((0, 0, []), 1)

theorem addCR_small (p l : Int) (rows : List (List Int)) (q m : Int) (qows : List (List Int)) : ∃ p' l' E e, addCR p l rows q m qows = ((p', l', E), e) ∧ E.length ≤ 100 ∧ total E ≤ 1000 ∧ ∀ r ∈ E, r.length ≤ 10 := by
  unfold addCR
  split
  · rename_i h
    obtain ⟨n, rfl, h1, h2, h3, h4⟩ := h.1.nat
    obtain ⟨n', rfl, g1, g2, g3, g4⟩ := h.2.nat
    split
    · rename_i e
      subst e
      split
      · rename_i h10
        have hd := ech_good h.1.1.1.1 h.1.1.rows h.1.2.2
        have hd' := ech_good h.2.1.1.1 h.2.1.rows h.2.2.2
        have ha := (add_id h.1.1.1.1 hd.1 hd.2 hd'.1 hd'.2).2
        have h3' : ∀ r ∈ addL (n : Int).toNat (n' : Int).toNat rows qows, r.length ≤ 10 := fun r hr => by rw [(ha r hr).1]; omega
        have hl : (addL (n : Int).toNat (n' : Int).toNat rows qows).length = rows.length + qows.length := by simp [addL]
        have := total_bound h3'
        exact ⟨_, _, _, _, rfl, by omega, by omega, h3'⟩
      · exact ⟨_, _, _, _, rfl, small_none⟩
    · exact ⟨_, _, _, _, rfl, small_none⟩
  · exact ⟨_, _, _, _, rfl, small_none⟩

theorem ints_zeros (r : List Int) (m : Nat) : ints r ++ List.replicate m [i64 0] = ints (r ++ List.replicate m 0) := by simp
theorem zeros_ints (r : List Int) (m : Nat) : List.replicate m [i64 0] ++ ints r = ints (List.replicate m 0 ++ r) := by simp

set_option maxHeartbeats 1000000 in
theorem AddCodes_ok (p l : Int) (rows : List (List Int)) (q m : Int) (qows : List (List Int)) (hl : rows.length ≤ 1048576) (hr : ∀ r ∈ rows, r.length ≤ 1048576) (hl' : qows.length ≤ 1048576) (hr' : ∀ r ∈ qows, r.length ≤ 1048576) : CallOK Go.Proofs.Tryz.prog 26 [vCode p l rows, vCode q m qows] (cres (addCR p l rows q m qows)) := by
  have hF := fnOk 78 [.cell 4 26, .tmp 5]
  refine callOK hF 60 Go.Proofs.Tryz.func26 rfl rfl rfl (by decide) (by simp) rfl ?_
  intro w0 hw
  have S := @vc_sound w0 _ hF ⟨(cres (addCR p l rows q m qows)), []⟩ Go.Proofs.Tryz.f26 rfl (by simp)
  have c1 := IsCode_ok p l rows hl hr
  have c1' := IsCode_ok q m qows hl' hr'
  by_cases hg : GoodC p l rows
  · rw [decide_eq_true hg] at c1
    by_cases hg' : GoodC q m qows
    · rw [decide_eq_true hg'] at c1'
      obtain ⟨n, rfl, h1, h2, h3, h4⟩ := hg.nat
      obtain ⟨n', rfl, g1, g2, g3, g4⟩ := hg'.nat
      have hpp := prPos hg.1.1.1
      have hwn : IntKind.i64.wrap ((n : Int) + (n' : Int)) = (n : Int) + (n' : Int) := wrap64 (by omega) (by omega)
      by_cases he : p = q
      · subst he
        by_cases h10 : (n : Int) + n' ≤ 10
        · have e : addCR p n rows p n' qows = ((p, (n : Int) + n', addL n n' rows qows), 0) := by unfold addCR; rw [if_pos ⟨hg, hg'⟩, if_pos rfl, if_pos h10]; simp
          have hgd := ech_good hg.1.1.1 hg.1.rows hg.2.2
          have hgd' := ech_good hg'.1.1.1 hg'.1.rows hg'.2.2
          have hid := add_id hg.1.1.1 hgd.1 hgd.2 hgd'.1 hgd'.2
          simp only [Int.toNat_natCast] at hid
          have hll : (addL n n' rows qows).length = rows.length + qows.length := by simp [addL]
          have c3 := code_ok p ((n : Int) + n') (addL n n' rows qows) (goodRows_of (n := n + n') hg.1.1.1 (by omega) (by omega) (by omega) hid.2) (by omega)
          rw [hid.1] at c3
          have hle : ¬ (10 : Int) < (n : Int) + n' := by omega
          rw [e] at S ⊢
          simp
          refine CallW.ok (by decide) (by simp) c1 (by simp) (S 60 _ _ ?_)
          simp
          refine CallW.ok (by decide) (by simp) c1' (by simp) (S 60 _ _ ?_)
          simp [hwn, hle]
          refine J.loop hw (fun i : Nat => ⟨[(2, .c (.ref 64002 0)), (3, .c (.ref 64003 0)), (4, .c (.ref 64004 0)), (6, .c (.ob 64006)), (38, .c (.d (vIntss rows))), (39, .c (.d (i64 rows.length))), (40, .c (.d (i64 i)))],
              [(64002, .var [.d (i64 p), .d (i64 n), .d (vIntss rows)]), (64003, .var [.d (i64 p), .d (i64 n'), .d (vIntss qows)]), (64004, .var [.d (i64 0), .d (i64 0), .ob 64024]), (64024, .arr 43 1 []), (64006, .arr 43 1 (((rows.take i).map (fun r => r ++ List.replicate n' 0)).map fun xs => [oInts xs]))]⟩)
            (fun i => i ≤ rows.length) (fun i => rows.length - i) 0 (by simp) (by simp) ?_
          intro i hi
          have hal : ((rows.take i).map (fun r => r ++ List.replicate n' 0)).length = i := by simp; omega
          have hst := fun r (h : rows[i]? = some r) => (show (rows.take (i + 1)).map (fun r => r ++ List.replicate n' 0) = (rows.take i).map (fun r => r ++ List.replicate n' 0) ++ [r ++ List.replicate n' 0] by rw [List.take_add_one, h]; simp)
          generalize hac : (rows.take i).map (fun r => r ++ List.replicate n' 0) = acc at hal hst
          refine S 8 _ _ ?_
          simp
          refine ⟨fun hlt => ?_, fun hge => ?_⟩
          · obtain ⟨r, hr'⟩ : ∃ r, rows[i]? = some r := ⟨rows[i], List.getElem?_eq_getElem hlt⟩
            have hrow := h4 r (List.mem_of_getElem? hr')
            have hrl := hrow.1
            have hst := hst r hr'
            have c2 := Clone_ok r (by omega)
            refine S 7 _ _ ?_
            simp
            refine ⟨hlt, fun r' hr'' => ?_⟩
            obtain rfl : r = r' := Option.some.inj (hr'.symm.trans hr'')
            refine S 60 _ _ ?_
            simp
            refine J.dr3 hF mixed 7 [[], [], [1], [], [3], [1, 2, 3, 4], [1, 2, 3, 4, 5], [0, 1, 2, 3, 4, 5, 6], [0, 1, 2, 3, 4, 5, 6, 7]] [[44, 45, 46, 47, 48, 49, 50], [44, 45, 46, 47, 48, 49, 50], [44, 46, 47, 48, 49, 50], [44, 45, 46, 47, 48, 49, 50], [44, 45, 46, 48, 49, 50], [44, 49, 50], [44, 50]] [[], [], [], [], [], [2944], [3136]] [[2944, 3136], [], [], [], [], [], []] [] [] (by decide) ?_
            simp
            refine DrC3.ok hF (by rfl) (by simp) c2 (by simp) (by simp) ?_
            simp
            refine ⟨⟨by omega, by omega⟩, ?_⟩
            refine DrB3.move hF (by rfl) (e := 43) (es := [[oInts (r ++ List.replicate n' 0)]]) (ks := [3136]) (by decide) rfl rfl rfl (by simp) (by simp) rfl (by decide) (by decide) (by simp) (by simp) ?_
            simp
            refine S 60 _ _ ?_
            simp [hal]
            refine ⟨⟨by omega, by omega⟩, ?_⟩
            have hst2 : List.take (i + 1) (List.map ((fun xs => [oInts xs]) ∘ fun r => r ++ List.replicate n' 0) rows) = acc.map (fun xs => [oInts xs]) ++ [[oInts (r ++ List.replicate n' 0)]] := by
              rw [← List.map_take, ← List.map_map, hst]; simp
            exact Nxt.mk (i + 1) hlt (by simp [wrapS (i := i) (n := rows.length) hlt (by omega), hst2]) (by omega)
          · have e : rows.take i = rows := List.take_of_length_le hge
            rw [e] at hac
            have hacl : acc.length = rows.length := by rw [← hac]; simp
            have hadd : addL n n' rows qows = acc ++ qows.map (fun r => List.replicate n 0 ++ r) := by unfold addL; rw [hac]
            rw [hadd] at S c3 ⊢
            clear hal hst
            refine S 60 _ _ ?_
            simp
            refine J.loop hw (fun j : Nat => ⟨[(2, .c (.ref 64002 0)), (3, .c (.ref 64003 0)), (4, .c (.ref 64004 0)), (6, .c (.ob 64006)), (54, .c (.d (vIntss qows))), (55, .c (.d (i64 qows.length))), (56, .c (.d (i64 j)))],
                [(64002, .var [.d (i64 p), .d (i64 n), .d (vIntss rows)]), (64003, .var [.d (i64 p), .d (i64 n'), .d (vIntss qows)]), (64004, .var [.d (i64 0), .d (i64 0), .ob 64024]), (64024, .arr 43 1 []), (64006, .arr 43 1 ((acc ++ (qows.take j).map (fun r => List.replicate n 0 ++ r)).map fun xs => [oInts xs]))]⟩)
              (fun j => j ≤ qows.length) (fun j => qows.length - j) 0 (by simp) (by simp) ?_
            intro j hj
            have hal : (acc ++ (qows.take j).map (fun r => List.replicate n 0 ++ r)).length = rows.length + j := by simp [hacl]; omega
            have hst := fun r (h : qows[j]? = some r) => (show acc ++ (qows.take (j + 1)).map (fun r => List.replicate n 0 ++ r) = acc ++ (qows.take j).map (fun r => List.replicate n 0 ++ r) ++ [List.replicate n 0 ++ r] by rw [List.take_add_one, h]; simp)
            have hen : qows.length ≤ j → acc ++ (qows.take j).map (fun r => List.replicate n 0 ++ r) = acc ++ qows.map (fun r => List.replicate n 0 ++ r) := fun h => by rw [List.take_of_length_le h]
            generalize acc ++ (qows.take j).map (fun r => List.replicate n 0 ++ r) = bcc at hal hst hen
            refine S 8 _ _ ?_
            simp
            refine ⟨fun hlt => ?_, fun hge => ?_⟩
            · obtain ⟨r, hr'⟩ : ∃ r, qows[j]? = some r := ⟨qows[j], List.getElem?_eq_getElem hlt⟩
              have hrow := g4 r (List.mem_of_getElem? hr')
              have hrl := hrow.1
              have hst := hst r hr'
              refine S 7 _ _ ?_
              simp
              refine ⟨hlt, fun r' hr'' => ?_⟩
              obtain rfl : r = r' := Option.some.inj (hr'.symm.trans hr'')
              refine S 60 _ _ ?_
              simp
              refine ⟨⟨by omega, by omega⟩, ⟨by omega, by omega⟩, ?_⟩
              refine BsW.move hF (e := 43) (es := [[oInts (List.replicate n 0 ++ r)]]) (ks := [4160]) (by decide) rfl rfl rfl (by simp) (by simp) rfl (by decide) (by decide) (by simp) ?_
              refine S 60 _ _ ?_
              simp [hal]
              refine ⟨⟨by omega, by omega⟩, ?_⟩
              have hst2 : List.map (fun xs => [oInts xs]) acc ++ List.take (j + 1) (List.map ((fun xs => [oInts xs]) ∘ fun r => List.replicate n 0 ++ r) qows) = bcc.map (fun xs => [oInts xs]) ++ [[oInts (List.replicate n 0 ++ r)]] := by
                rw [← List.map_take, ← List.map_map, ← List.map_append, hst]; simp
              exact Nxt.mk (j + 1) hlt (by simp [wrapS (i := j) (n := qows.length) hlt (by omega), hst2]) (by omega)
            · have hen := hen hge
              rw [← hen] at S c3 ⊢
              refine S 60 _ _ ?_
              simp [hwn]
              refine CallW.ok (by decide) (by simp) c3 (by simp) (S 60 _ _ ?_)
              simp
        · have e : addCR p n rows p n' qows = ((0, 0, []), 3) := by unfold addCR; rw [if_pos ⟨hg, hg'⟩, if_pos rfl, if_neg h10]
          have hle : (10 : Int) < (n : Int) + n' := by omega
          rw [e] at S ⊢
          simp
          refine CallW.ok (by decide) (by simp) c1 (by simp) (S 60 _ _ ?_)
          simp
          refine CallW.ok (by decide) (by simp) c1' (by simp) (S 60 _ _ ?_)
          simp [hwn, hle]
      · have e : addCR p n rows q n' qows = ((0, 0, []), 2) := by unfold addCR; rw [if_pos ⟨hg, hg'⟩, if_neg he]
        rw [e] at S ⊢
        simp
        refine CallW.ok (by decide) (by simp) c1 (by simp) (S 60 _ _ ?_)
        simp
        refine CallW.ok (by decide) (by simp) c1' (by simp) (S 60 _ _ ?_)
        simp [he]
    · rw [decide_eq_false hg'] at c1'
      have e : addCR p l rows q m qows = ((0, 0, []), 1) := by unfold addCR; rw [if_neg fun h => hg' h.2]
      rw [e] at S ⊢
      simp
      refine CallW.ok (by decide) (by simp) c1 (by simp) (S 60 _ _ ?_)
      simp
      refine CallW.ok (by decide) (by simp) c1' (by simp) (S 60 _ _ ?_)
      simp
  · rw [decide_eq_false hg] at c1
    have e : addCR p l rows q m qows = ((0, 0, []), 1) := by unfold addCR; rw [if_neg fun h => hg h.1]
    rw [e] at S ⊢
    simp
    refine CallW.ok (by decide) (by simp) c1 (by simp) (S 60 _ _ ?_)
    simp

set_option maxHeartbeats 1000000 in
theorem specAddCodes_ok (p l : Int) (rows : List (List Int)) (q m : Int) (qows : List (List Int)) (hl : rows.length ≤ 1048576) (hr : ∀ r ∈ rows, r.length ≤ 1048576) (hl' : qows.length ≤ 1048576) (hr' : ∀ r ∈ qows, r.length ≤ 1048576) : CallOK Go.Proofs.Tryz.prog 27 [vCode p l rows, vCode q m qows] (cres (addCR p l rows q m qows)) := by
  have hF := fnOk 82 [.cell 4 26, .tmp 5]
  refine callOK hF 60 Go.Proofs.Tryz.func27 rfl rfl rfl (by decide) (by simp) rfl ?_
  intro w0 hw
  have S := @vc_sound w0 _ hF ⟨(cres (addCR p l rows q m qows)), []⟩ Go.Proofs.Tryz.f27 rfl (by simp)
  have c1 := l10Is_ok p l rows hl hr
  have c1' := l10Is_ok q m qows hl' hr'
  by_cases hg : GoodC p l rows
  · rw [decide_eq_true hg] at c1
    by_cases hg' : GoodC q m qows
    · rw [decide_eq_true hg'] at c1'
      obtain ⟨n, rfl, h1, h2, h3, h4⟩ := hg.nat
      obtain ⟨n', rfl, g1, g2, g3, g4⟩ := hg'.nat
      have hpp := prPos hg.1.1.1
      have hwn : IntKind.i64.wrap ((n : Int) + (n' : Int)) = (n : Int) + (n' : Int) := wrap64 (by omega) (by omega)
      by_cases he : p = q
      · subst he
        by_cases h10 : (n : Int) + n' ≤ 10
        · have e : addCR p n rows p n' qows = ((p, (n : Int) + n', addL n n' rows qows), 0) := by unfold addCR; rw [if_pos ⟨hg, hg'⟩, if_pos rfl, if_pos h10]; simp
          have hle : ¬ (10 : Int) < (n : Int) + n' := by omega
          rw [e] at S ⊢
          simp
          refine CallW.ok (by decide) (by simp) c1 (by simp) (S 60 _ _ ?_)
          simp
          refine CallW.ok (by decide) (by simp) c1' (by simp) (S 60 _ _ ?_)
          simp [hwn, hle]
          refine J.loop hw (fun i : Nat => ⟨[(2, .c (.ref 64002 0)), (3, .c (.ref 64003 0)), (4, .c (.ref 64004 0)), (6, .c (.ob 64006)), (7, .c (.d (i64 i)))],
              [(64002, .var [.d (i64 p), .d (i64 n), .d (vIntss rows)]), (64003, .var [.d (i64 p), .d (i64 n'), .d (vIntss qows)]), (64004, .var [.d (i64 0), .d (i64 0), .ob 64024]), (64024, .arr 43 1 []), (64006, .arr 43 1 (((rows.take i).map (fun r => r ++ List.replicate n' 0)).map fun xs => [oInts xs]))]⟩)
            (fun i => i ≤ rows.length) (fun i => rows.length - i) 0 (by simp) (by simp) ?_
          intro i hi
          have hal : ((rows.take i).map (fun r => r ++ List.replicate n' 0)).length = i := by simp; omega
          have hst := fun r (h : rows[i]? = some r) => (show (rows.take (i + 1)).map (fun r => r ++ List.replicate n' 0) = (rows.take i).map (fun r => r ++ List.replicate n' 0) ++ [r ++ List.replicate n' 0] by rw [List.take_add_one, h]; simp)
          generalize hac : (rows.take i).map (fun r => r ++ List.replicate n' 0) = acc at hal hst
          refine S 12 _ _ ?_
          simp
          refine ⟨fun hlt => ?_, fun hge => ?_⟩
          · obtain ⟨r, hr'⟩ : ∃ r, rows[i]? = some r := ⟨rows[i], List.getElem?_eq_getElem hlt⟩
            have hrow := h4 r (List.mem_of_getElem? hr')
            have hrl := hrow.1
            have hst := hst r hr'
            have c2 := l01Own_ok r (by omega)
            refine S 60 _ _ ?_
            simp
            refine J.dr3 hF mixed 11 [[], [], [1], [], [1, 2, 3], [1, 2, 3, 4], [1, 2, 3, 4, 5], [], [7], [1, 2, 3, 4, 5, 6, 7, 8], [1, 2, 3, 4, 5, 6, 7, 8, 9], [0, 1, 2, 3, 4, 5, 6, 7, 8, 9, 10], [0, 1, 2, 3, 4, 5, 6, 7, 8, 9, 10, 11]] [[42, 43, 44, 45, 46, 47, 48, 49, 50, 51, 52], [42, 43, 44, 45, 46, 47, 48, 49, 50, 51, 52], [42, 44, 45, 46, 47, 48, 49, 50, 51, 52], [42, 43, 44, 45, 46, 47, 48, 49, 50, 51, 52], [42, 46, 47, 48, 49, 50, 51, 52], [42, 47, 48, 49, 50, 51, 52], [42, 48, 49, 50, 51, 52], [42, 43, 44, 45, 46, 47, 48, 49, 50, 51, 52], [42, 43, 44, 45, 46, 47, 48, 50, 51, 52], [42, 51, 52], [42, 52]] [[], [], [], [], [], [], [], [], [], [3072], [3264]] [[3072, 3264], [], [], [], [], [], [], [], [], [], []] [] [] (by decide) ?_
            rw [← List.take_append_drop 5 (List.take _ _)]
            generalize htl : List.drop 5 (List.take _ _) = tl
            simp
            refine ⟨hlt, fun r' hr'' => ?_⟩
            obtain rfl : r = r' := Option.some.inj (hr'.symm.trans hr'')
            subst htl
            simp
            refine DrC3.ok hF (by rfl) (by simp) c2 (by simp) (by simp) ?_
            simp
            refine ⟨⟨by omega, by omega⟩, ?_⟩
            refine DrB3.move hF (by rfl) (e := 43) (es := [[oInts (r ++ List.replicate n' 0)]]) (ks := [3264]) (by decide) rfl rfl rfl (by simp) (by simp) rfl (by decide) (by decide) (by simp) (by simp) ?_
            simp
            refine S 60 _ _ ?_
            simp [hal]
            refine ⟨⟨by omega, by omega⟩, ?_⟩
            have hst2 : List.take (i + 1) (List.map ((fun xs => [oInts xs]) ∘ fun r => r ++ List.replicate n' 0) rows) = acc.map (fun xs => [oInts xs]) ++ [[oInts (r ++ List.replicate n' 0)]] := by
              rw [← List.map_take, ← List.map_map, hst]; simp
            exact Nxt.mk (i + 1) hlt (by simp [wrapS (i := i) (n := rows.length) hlt (by omega), hst2]) (by omega)
          · have e : rows.take i = rows := List.take_of_length_le hge
            rw [e] at hac
            have hacl : acc.length = rows.length := by rw [← hac]; simp
            have hadd : addL n n' rows qows = acc ++ qows.map (fun r => List.replicate n 0 ++ r) := by unfold addL; rw [hac]
            rw [hadd] at S ⊢
            clear hal hst
            refine S 60 _ _ ?_
            simp
            refine J.loop hw (fun j : Nat => ⟨[(2, .c (.ref 64002 0)), (3, .c (.ref 64003 0)), (4, .c (.ref 64004 0)), (6, .c (.ob 64006)), (8, .c (.d (i64 j)))],
                [(64002, .var [.d (i64 p), .d (i64 n), .d (vIntss rows)]), (64003, .var [.d (i64 p), .d (i64 n'), .d (vIntss qows)]), (64004, .var [.d (i64 0), .d (i64 0), .ob 64024]), (64024, .arr 43 1 []), (64006, .arr 43 1 ((acc ++ (qows.take j).map (fun r => List.replicate n 0 ++ r)).map fun xs => [oInts xs]))]⟩)
              (fun j => j ≤ qows.length) (fun j => qows.length - j) 0 (by simp) (by simp) ?_
            intro j hj
            have hal : (acc ++ (qows.take j).map (fun r => List.replicate n 0 ++ r)).length = rows.length + j := by simp [hacl]; omega
            have hst := fun r (h : qows[j]? = some r) => (show acc ++ (qows.take (j + 1)).map (fun r => List.replicate n 0 ++ r) = acc ++ (qows.take j).map (fun r => List.replicate n 0 ++ r) ++ [List.replicate n 0 ++ r] by rw [List.take_add_one, h]; simp)
            have hen : qows.length ≤ j → acc ++ (qows.take j).map (fun r => List.replicate n 0 ++ r) = acc ++ qows.map (fun r => List.replicate n 0 ++ r) := fun h => by rw [List.take_of_length_le h]
            generalize acc ++ (qows.take j).map (fun r => List.replicate n 0 ++ r) = bcc at hal hst hen
            refine S 12 _ _ ?_
            simp
            refine ⟨fun hlt => ?_, fun hge => ?_⟩
            · obtain ⟨r, hr'⟩ : ∃ r, qows[j]? = some r := ⟨qows[j], List.getElem?_eq_getElem hlt⟩
              have hrow := g4 r (List.mem_of_getElem? hr')
              have hrl := hrow.1
              have hst := hst r hr'
              refine S 60 _ _ ?_
              simp
              refine J.dr3 hF mixed 11 [[], [], [1], [1, 2], [], [4], [], [4, 5, 6], [4, 5, 6, 7], [1, 2, 3, 4, 5, 6, 7, 8], [1, 2, 3, 4, 5, 6, 7, 8, 9], [0, 1, 2, 3, 4, 5, 6, 7, 8, 9, 10], [0, 1, 2, 3, 4, 5, 6, 7, 8, 9, 10, 11]] [[61, 62, 63, 64, 65, 66, 67, 68, 69, 70, 71], [61, 62, 63, 64, 65, 66, 67, 68, 69, 70, 71], [61, 63, 64, 65, 66, 67, 68, 69, 70, 71], [61, 64, 65, 66, 67, 68, 69, 70, 71], [61, 62, 63, 64, 65, 66, 67, 68, 69, 70, 71], [61, 62, 63, 64, 66, 67, 68, 69, 70, 71], [61, 62, 63, 64, 65, 66, 67, 68, 69, 70, 71], [61, 62, 63, 64, 68, 69, 70, 71], [61, 62, 63, 64, 69, 70, 71], [61, 70, 71], [61, 71]] [[], [], [], [], [], [], [], [], [], [4096], [4480]] [[4096, 4480], [], [], [], [], [], [], [], [], [], []] [] [] (by decide) ?_
              rw [← List.take_append_drop 8 (List.take _ _)]
              generalize htl : List.drop 8 (List.take _ _) = tl
              simp
              refine ⟨⟨by omega, by omega⟩, hlt, fun r' hr'' => ?_⟩
              obtain rfl : r = r' := Option.some.inj (hr'.symm.trans hr'')
              subst htl
              simp
              refine ⟨⟨by omega, by omega⟩, ?_⟩
              refine DrB3.move hF (by rfl) (e := 43) (es := [[oInts (List.replicate n 0 ++ r)]]) (ks := [4480]) (by decide) rfl rfl rfl (by simp) (by simp) rfl (by decide) (by decide) (by simp) (by simp) ?_
              simp
              refine S 60 _ _ ?_
              simp [hal]
              refine ⟨⟨by omega, by omega⟩, ?_⟩
              have hst2 : List.map (fun xs => [oInts xs]) acc ++ List.take (j + 1) (List.map ((fun xs => [oInts xs]) ∘ fun r => List.replicate n 0 ++ r) qows) = bcc.map (fun xs => [oInts xs]) ++ [[oInts (List.replicate n 0 ++ r)]] := by
                rw [← List.map_take, ← List.map_map, ← List.map_append, hst]; simp
              exact Nxt.mk (j + 1) hlt (by simp [wrapS (i := j) (n := qows.length) hlt (by omega), hst2]) (by omega)
            · have hen := hen hge
              rw [← hen] at S ⊢
              refine S 60 _ _ ?_
              simp [hwn]
        · have e : addCR p n rows p n' qows = ((0, 0, []), 3) := by unfold addCR; rw [if_pos ⟨hg, hg'⟩, if_pos rfl, if_neg h10]
          have hle : (10 : Int) < (n : Int) + n' := by omega
          rw [e] at S ⊢
          simp
          refine CallW.ok (by decide) (by simp) c1 (by simp) (S 60 _ _ ?_)
          simp
          refine CallW.ok (by decide) (by simp) c1' (by simp) (S 60 _ _ ?_)
          simp [hwn, hle]
      · have e : addCR p n rows q n' qows = ((0, 0, []), 2) := by unfold addCR; rw [if_pos ⟨hg, hg'⟩, if_neg he]
        rw [e] at S ⊢
        simp
        refine CallW.ok (by decide) (by simp) c1 (by simp) (S 60 _ _ ?_)
        simp
        refine CallW.ok (by decide) (by simp) c1' (by simp) (S 60 _ _ ?_)
        simp [he]
    · rw [decide_eq_false hg'] at c1'
      have e : addCR p l rows q m qows = ((0, 0, []), 1) := by unfold addCR; rw [if_neg fun h => hg' h.2]
      rw [e] at S ⊢
      simp
      refine CallW.ok (by decide) (by simp) c1 (by simp) (S 60 _ _ ?_)
      simp
      refine CallW.ok (by decide) (by simp) c1' (by simp) (S 60 _ _ ?_)
      simp
  · rw [decide_eq_false hg] at c1
    have e : addCR p l rows q m qows = ((0, 0, []), 1) := by unfold addCR; rw [if_neg fun h => hg h.1]
    rw [e] at S ⊢
    simp
    refine CallW.ok (by decide) (by simp) c1 (by simp) (S 60 _ _ ?_)
    simp

end Go.Sm
