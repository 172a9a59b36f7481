/- Towards the rows of this seat: what the functions do, as contracts over plain data. -/
import Derived.Test.YtemedeiolhgoeaaGreatPk5
import Derived.Test.YtemedeiolhgoeaaGreatPk2
namespace Go.Sm
open Go.RowKit

theorem longs_take (m : Nat) : ∀ {rows : List (List Int)} {s i : Nat} {r : List Int}, rows[i]? = some r → longs m s (rows.take (i + 1)) = longs m s (rows.take i) ++ [longR m (s + i) r]
  | [], _, _, _, h => by simp at h
  | q :: rows, s, 0, r, h => by simp at h; subst h; simp [longs]
  | q :: rows, s, i + 1, r, h => by
    have := longs_take m (rows := rows) (s := s + 1) (i := i) (r := r) (by simpa using h)
    simp only [List.take_succ_cons, longs, List.cons_append]
    rw [this, show s + (i + 1) = s + 1 + i by omega]

theorem longs_length (m : Nat) : ∀ (rows : List (List Int)) (s : Nat), (longs m s rows).length = rows.length
  | [], _ => rfl
  | r :: rows, s => by simp [longs, longs_length m rows]

theorem ints_set_unit (n i : Nat) : (List.replicate n [i64 0]).set i [i64 1] = ints (unitR n i) := by
  simp [unitR, List.map_set]

/-- The second part of the kernel. -/
def kerP (w : Nat) (E : List (List Int)) : List (List Int) := (E.filter fun r => decide (w ≤ leadN r)).map (List.drop w)
theorem kerP_take {w i : Nat} {E : List (List Int)} {r : List Int} (h : E[i]? = some r) : kerP w (E.take (i + 1)) = if w ≤ leadN r then kerP w (E.take i) ++ [r.drop w] else kerP w (E.take i) := by
  unfold kerP
  rw [List.take_add_one, h]
  by_cases hw : w ≤ leadN r
  · simp [hw]
  · simp [hw]
theorem kerP_length (w : Nat) (E : List (List Int)) : (kerP w E).length ≤ E.length := by unfold kerP; rw [List.length_map]; exact List.length_filter_le _ _

set_option maxHeartbeats 1000000 in
theorem l01Kernel_ok (p : Int) (w : Nat) (rows : List (List Int)) (hp : Pr p) (hwd : w ≤ 500000) (hl : rows.length ≤ 500000) (hr : ∀ r ∈ rows, RowOk p w r) : CallOK Go.Proofs.Tryz.prog 203 [.one (i64 p), .one (i64 rows.length), .one (vIntss rows)] (.one (oIntss (kerS p w rows))) := by
  have hF := fnOk 68 [.tmp 6]
  refine callOK hF 60 Go.Proofs.Tryz.func203 rfl rfl rfl (by decide) (by simp) rfl ?_
  intro w0 hw
  have S := @vc_sound w0 _ hF ⟨(.one (oIntss (kerS p w rows))), []⟩ Go.Proofs.Tryz.f203 rfl (by simp)
  have hpp := prPos hp
  simp
  refine J.loop hw (fun i : Nat => ⟨[(0, .c (.d (i64 p))), (1, .c (.d (i64 rows.length))), (2, .c (.d (vIntss rows))), (7, .c (.ob 64007)), (8, .c (.d (i64 (if i = 0 then 0 else w)))), (9, .c (.d (i64 i)))],
      [(64007, .arr 43 1 ((longs rows.length 0 (rows.take i)).map fun xs => [oInts xs]))]⟩)
    (fun i => i ≤ rows.length) (fun i => rows.length - i) 0 (by simp) (by simp [longs]) ?_
  intro i hi
  have hal := longs_length rows.length (rows.take i) 0
  have hst := fun r (h : rows[i]? = some r) => longs_take rows.length (s := 0) h
  generalize hac : longs rows.length 0 (rows.take i) = acc at hal hst
  generalize hWc : (if i = 0 then 0 else (w : Int)) = W
  refine S 12 _ _ ?_
  simp
  refine ⟨fun hlt => ?_, fun hge => ?_⟩
  · obtain ⟨r, hr'⟩ : ∃ r, rows[i]? = some r := ⟨rows[i], List.getElem?_eq_getElem hlt⟩
    have hrow := hr r (List.mem_of_getElem? hr')
    have hst := hst r hr'
    have c1 := l01Own_ok r (by rw [hrow.1]; omega)
    refine S 60 _ _ ?_
    simp
    refine ⟨⟨by omega, by omega⟩, hlt, fun r' hr'' => ?_⟩
    obtain rfl : r = r' := Option.some.inj (hr'.symm.trans hr'')
    refine ⟨hlt, fun r' hr'' => ?_⟩
    obtain rfl : r = r' := Option.some.inj (hr'.symm.trans hr'')
    refine CallW.ok (by decide) (by simp) c1 (by simp) (S 60 _ _ ?_)
    simp [ints_set_unit, unitR_length]
    refine ⟨⟨by rw [hrow.1]; omega, by rw [hrow.1]; omega⟩, ?_⟩
    refine BsW.move hF (e := 43) (es := [[oInts (longR rows.length i r)]]) (ks := [2368]) (by decide) rfl rfl rfl (by simp [longR]) (by simp) rfl (by decide) (by decide) (by simp) ?_
    refine S 60 _ _ ?_
    have hal2 : acc.length = i := by rw [hal, List.length_take]; omega
    simp [hal2]
    have hst2 : List.map (fun xs => [oInts xs]) (longs rows.length 0 (List.take (i + 1) rows)) = acc.map (fun xs => [oInts xs]) ++ [[oInts (longR rows.length i r)]] := by
      rw [hst]; simp
    have hrl : (r.length : Int) = w := by rw [hrow.1]
    exact ⟨⟨by omega, by omega⟩, Nxt.mk (i + 1) hlt (by simp [wrapS (i := i) (n := rows.length) hlt (by omega), hst2, hrl]) (by omega)⟩
  · have e : rows.take i = rows := List.take_of_length_le hge
    rw [e] at hac hal
    have hlr := longs_row (p := p) (m := rows.length) (i := 0) hpp.1 hr
    rw [hac] at hlr
    have c2 := l01Echelon_ok p (w + rows.length) acc hp (by omega) (by omega) hlr
    have hb := both_all hp hlr
    have hE : ∀ r ∈ echL p acc, r.length = w + rows.length ∧ Led r := fun r h => ⟨(hb.1.rws r (hb.2.1.subset h)).1.1, (hb.1.rws r (hb.2.1.subset h)).2⟩
    have hEl := (ech_facts hp hlr).1
    have hW : ∀ r ∈ echL p acc, W = w := fun r h => by
      by_cases h0 : rows = []
      · subst h0; simp [longs] at hac; subst hac; simp [echL] at h
      · rw [← hWc, if_neg (by intro h1; subst h1; exact h0 (List.eq_nil_of_length_eq_zero (by simpa using hge)))]
    have hk : kerS p w rows = kerP w (echL p acc) := by unfold kerS; rw [hac]; rfl
    rw [hk] at S ⊢
    generalize echL p acc = E at c2 hE hEl hW S ⊢
    refine S 60 _ _ ?_
    simp
    refine CallW.ok (by decide) (by simp) c2 (by simp) (S 60 _ _ ?_)
    simp
    refine J.loop hw (fun j : Nat => ⟨[(8, .c (.d (i64 W))), (11, .c (.ob 64011)), (12, .c (.ob 64012)), (13, .c (.d (i64 j)))],
        [(64011, .arr 43 1 (E.map fun xs => [oInts xs])), (64012, .arr 43 1 ((kerP w (E.take j)).map fun xs => [oInts xs]))]⟩)
      (fun j => j ≤ E.length) (fun j => E.length - j) 0 (by simp) (by simp [kerP]) ?_
    intro j hj
    have hkl := kerP_length w (E.take j)
    have hks := fun r (h : E[j]? = some r) => kerP_take (w := w) h
    generalize hkc : kerP w (E.take j) = out at hkl hks
    refine S 12 _ _ ?_
    simp
    refine ⟨fun hlt1 => ?_, fun hge1 => ?_⟩
    · obtain ⟨r, hr'⟩ : ∃ r, E[j]? = some r := ⟨E[j], List.getElem?_eq_getElem hlt1⟩
      obtain ⟨q1, q2⟩ := hE r (List.mem_of_getElem? hr')
      have hWr := hW r (List.mem_of_getElem? hr')
      have hks := hks r hr'
      have c3 := l01Lead_ok r (by omega)
      rw [led_leadZ q2] at c3
      have q3 : leadN r < r.length := q2
      refine S 60 _ _ ?_
      simp
      refine ⟨hlt1, fun r' hr'' => ?_⟩
      obtain rfl : r = r' := Option.some.inj (hr'.symm.trans hr'')
      refine CallW.ok (by decide) (by simp) c3 (by simp) (S 60 _ _ ?_)
      have c4 := l01Own_ok (r.drop w) (by simp; omega)
      have a1 : argEs (List.take (r.length - w) (List.drop w (List.map (fun x => [D.v (Value.int IntKind.i64 x)]) r))) = ints (r.drop w) := by
        rw [argEs_takeN, argEs_dropN, List.take_of_length_le (by simp)]; simp
      subst hWr
      simp
      refine ⟨fun hle => ⟨hlt1, fun r' hr'' => ?_⟩, fun hgt => ?_⟩
      · obtain rfl : r = r' := Option.some.inj (hr'.symm.trans hr'')
        rw [if_pos (by omega)] at hks
        refine ⟨by omega, CallW.ok (by decide) (by simp [a1]) c4 (by simp) (S 60 _ _ ?_)⟩
        simp
        refine BsW.move hF (e := 43) (es := [[oInts (r.drop w)]]) (ks := [4096]) (by decide) rfl rfl rfl (by simp) (by simp) rfl (by decide) (by decide) (by simp) ?_
        refine S 60 _ _ ?_
        simp
        have hks2 : List.map (fun xs => [oInts xs]) (kerP w (List.take (j + 1) E)) = out.map (fun xs => [oInts xs]) ++ [[oInts (r.drop w)]] := by rw [hks]; simp
        have hol : out.length ≤ j := by rw [List.length_take] at hkl; omega
        exact ⟨⟨by omega, by omega⟩, Nxt.mk (j + 1) hlt1 (by simp [wrapS (i := j) (n := E.length) hlt1 (by omega), hks2]) (by omega)⟩
      · rw [if_neg (by omega)] at hks
        exact Nxt.mk (j + 1) hlt1 (by simp [wrapS (i := j) (n := E.length) hlt1 (by omega), hks]) (by omega)
    · have e : E.take j = E := List.take_of_length_le hge1
      rw [e] at hkc
      subst hkc
      refine S 60 _ _ ?_
      simp

end Go.Sm

namespace Go.Sm
open Go.RowKit

theorem goodRows_of {p l : Int} {n : Nat} {rows : List (List Int)} (hp : Pr p) (hn : l = n) (h1 : 1 ≤ n) (h2 : n ≤ 10) (h : ∀ r ∈ rows, RowOk p n r) : GoodRows p l rows :=
  ⟨⟨hp, by omega, by omega⟩, fun r hr => ⟨by rw [(h r hr).1, hn], (h r hr).2⟩⟩

/-- The rows of the dual code. -/
def dualL (p : Int) (n : Nat) (rows : List (List Int)) : List (List Int) := echL p (kerS p rows.length (colsR n rows))

theorem dual_rows {p : Int} {n : Nat} (hp : Pr p) {rows : List (List Int)} (hr : ∀ r ∈ rows, RowOk p n r) : (∀ r ∈ kerI p rows.length (colsR n rows), RowOk p n r) ∧ (∀ r ∈ kerS p rows.length (colsR n rows), RowOk p n r) ∧
    dualL p n rows = echL p (kerI p rows.length (colsR n rows)) := by
  have hpp := prPos hp
  obtain ⟨k1, k2, k3⟩ := ker_same hp (colsR_row (by omega) hr)
  rw [colsR_length] at k2 k3
  exact ⟨k2, k3, k1.symm⟩

set_option maxHeartbeats 1000000 in
theorem l10Dual_ok (p : Int) (n : Nat) (rows : List (List Int)) (hp : Pr p) (h1 : 1 ≤ n) (h2 : n ≤ 11) (hl : rows.length ≤ 100000) (hr : ∀ r ∈ rows, RowOk p n r) : CallOK Go.Proofs.Tryz.prog 94 [vCode p n rows] (oCode p n (dualL p n rows)) := by
  have hF := fnOk 48 [.cell 2 26]
  refine callOK hF 60 Go.Proofs.Tryz.func94 rfl rfl rfl (by decide) (by simp) rfl ?_
  intro w0 hw
  have S := @vc_sound w0 _ hF ⟨(oCode p n (dualL p n rows)), []⟩ Go.Proofs.Tryz.f94 rfl (by simp)
  have hpp := prPos hp
  simp
  refine J.loop hw (fun k : Nat => ⟨[(1, .c (.ref 64001 0)), (2, .c (.ref 64002 0)), (3, .c (.ob 64003)), (4, .c (.d (i64 k)))],
      [(64001, .var [.d (i64 p), .d (i64 n), .d (vIntss rows)]), (64002, .var [.d (i64 0), .d (i64 0), .ob 64022]), (64022, .arr 43 1 []), (64003, .arr 43 1 (((colsR n rows).take k).map fun xs => [oInts xs]))]⟩)
    (fun k => k ≤ n) (fun k => n - k) 0 (by simp) (by simp) ?_
  intro k hk
  have hal : ((colsR n rows).take k).length = k := by rw [List.length_take, colsR_length]; omega
  have hst := fun h : k < n => colsR_take (rows := rows) h
  generalize hac : (colsR n rows).take k = acc at hal hst
  refine S 12 _ _ ?_
  simp
  refine ⟨fun hlt => ?_, fun hge => ?_⟩
  · have hst := hst hlt
    refine S 60 _ _ ?_
    simp
    refine J.loop hw (fun j : Nat => ⟨[(1, .c (.ref 64001 0)), (2, .c (.ref 64002 0)), (3, .c (.ob 64003)), (4, .c (.d (i64 k))), (5, .c (.ob 64005)), (6, .c (.d (i64 j)))],
        [(64001, .var [.d (i64 p), .d (i64 n), .d (vIntss rows)]), (64002, .var [.d (i64 0), .d (i64 0), .ob 64022]), (64022, .arr 43 1 []), (64003, .arr 43 1 (acc.map fun xs => [oInts xs])), (64005, .arr 2 1 (ints ((rows.take j).map fun r => gt r k)))]⟩)
      (fun j => j ≤ rows.length) (fun j => rows.length - j) 0 (by simp) (by simp) ?_
    intro j hj
    have hcl : ((rows.take j).map fun r => gt r k).length = j := by simp; omega
    have hcs := fun r (h : rows[j]? = some r) => (show (rows.take (j + 1)).map (fun r => gt r k) = (rows.take j).map (fun r => gt r k) ++ [gt r k] by rw [List.take_add_one, h]; simp)
    generalize hcc : (rows.take j).map (fun r => gt r k) = col at hcl hcs
    refine S 12 _ _ ?_
    simp
    refine ⟨fun hlt1 => ?_, fun hge1 => ?_⟩
    · obtain ⟨r, hr'⟩ : ∃ r, rows[j]? = some r := ⟨rows[j], List.getElem?_eq_getElem hlt1⟩
      have hrl := (hr r (List.mem_of_getElem? hr')).1
      have g1 := gt_get (r := r) (i := k) (by omega)
      have hcs := hcs r hr'
      generalize gt r k = x at g1 hcs
      refine S 10 _ _ ?_
      simp
      refine ⟨hlt1, fun r' hr'' => ?_⟩
      obtain rfl : r = r' := Option.some.inj (hr'.symm.trans hr'')
      refine ⟨by omega, fun x' hx => ?_⟩
      obtain rfl : x = x' := Option.some.inj (g1.symm.trans hx)
      refine S 60 _ _ ?_
      simp [hcl]
      have hcs2 : List.take (j + 1) (List.map ((fun i => [D.v (Value.int IntKind.i64 i)]) ∘ fun r => gt r k) rows) = ints col ++ [[i64 x]] := by
        rw [← List.map_take, ← List.map_map, hcs]; simp
      exact ⟨⟨by omega, by omega⟩, Nxt.mk (j + 1) hlt1 (by simp [wrapS (i := j) (n := rows.length) hlt1 (by omega), hcs2]) (by omega)⟩
    · have e : rows.take j = rows := List.take_of_length_le hge1
      rw [e] at hcc
      rw [hcc] at hst
      refine S 60 _ _ ?_
      simp
      refine BsW.move hF (e := 43) (es := [[oInts col]]) (ks := [64005]) (by decide) rfl rfl rfl (by simp) (by simp) rfl (by decide) (by decide) (by simp) ?_
      refine S 60 _ _ ?_
      simp [hal]
      have hst2 : List.take (k + 1) (List.map (fun xs => [oInts xs]) (colsR n rows)) = acc.map (fun xs => [oInts xs]) ++ [[oInts col]] := by
        rw [← List.map_take, hst]; simp
      exact ⟨⟨by omega, by omega⟩, Nxt.mk (k + 1) hlt (by simp [wrapS (i := k) (n := n) hlt (by omega), hst2]) (by omega)⟩
  · have e : (colsR n rows).take k = colsR n rows := List.take_of_length_le (by rw [colsR_length]; omega)
    rw [e] at hac
    obtain ⟨-, k3, -⟩ := dual_rows hp hr
    have c1 := l01Kernel_ok p rows.length (colsR n rows) hp (by omega) (by rw [colsR_length]; omega) (colsR_row (by omega) hr)
    have hkl : (kerS p rows.length (colsR n rows)).length ≤ 1000 := by
      have h1 := kerP_length rows.length (echL p (longs (colsR n rows).length 0 (colsR n rows)))
      have h2 := (ech_facts hp (longs_row (p := p) (m := (colsR n rows).length) (i := 0) hpp.1 (colsR_row (by omega) hr))).1
      rw [longs_length, colsR_length] at h2
      unfold kerP at h1
      unfold kerS
      rw [colsR_length] at h1 ⊢
      omega
    have c2 := l10OfN_ok p n (kerS p rows.length (colsR n rows)) hp (by omega) (by omega) k3
    rw [colsR_length] at c1
    unfold dualL at S ⊢
    generalize echL p (kerS p rows.length (colsR n rows)) = E at c2 S ⊢
    generalize kerS p rows.length (colsR n rows) = K at c1 c2
    rw [hac] at c1
    refine S 60 _ _ ?_
    simp
    refine J.dr hF mixed 10 [[], [0], [], [2], [], [4], [], [6], [], [4, 5, 6, 7, 8], [0, 1, 2, 3, 4, 5, 6, 7, 8, 9], [0, 1, 2, 3, 4, 5, 6, 7, 8, 9, 10]] [[37, 38, 39, 40, 41, 42, 43, 44, 45, 46], [38, 39, 40, 41, 42, 43, 44, 45, 46], [37, 38, 39, 40, 41, 42, 43, 44, 45, 46], [37, 38, 40, 41, 42, 43, 44, 45, 46], [37, 38, 39, 40, 41, 42, 43, 44, 45, 46], [37, 38, 39, 40, 42, 43, 44, 45, 46], [37, 38, 39, 40, 41, 42, 43, 44, 45, 46], [37, 38, 39, 40, 41, 42, 44, 45, 46], [37, 38, 39, 40, 41, 42, 43, 44, 45, 46], [37, 38, 39, 40, 46]] (by decide) ?_
    simp
    refine DrC.ok hF (by rfl) (by simp) c1 (by simp) (by simp) ?_
    simp
    refine S 60 _ _ ?_
    simp
    refine CallW.ok (by decide) (by simp) c2 (by simp) (S 60 _ _ ?_)
    simp

end Go.Sm

namespace Go.Sm
open Go.RowKit

/-- One row more. -/
def kStep (p : Int) (w : Nat) (x : List Int) (q : List (List Int) × List (List Int)) : List (List Int) × List (List Int) :=
  if w ≤ leadN (lessL p q.1 x) then (q.1, q.2 ++ [lessL p q.1 x]) else (takeL p q.1 x, q.2)
theorem kGo_take {p : Int} {w m : Nat} : ∀ {rows : List (List Int)} {s i : Nat} {K O : List (List Int)} {r : List Int}, rows[i]? = some r →
    kGo p w m s (rows.take (i + 1)) K O = kStep p w (longR m (s + i) r) (kGo p w m s (rows.take i) K O)
  | [], _, _, _, _, _, h => by simp at h
  | q :: rows, s, 0, K, O, r, h => by
    simp at h; subst h
    simp only [List.take_succ_cons, List.take_zero, kGo, kStep, Nat.add_zero]
  | q :: rows, s, i + 1, K, O, r, h => by
    simp only [List.take_succ_cons, kGo]
    have e : s + (i + 1) = s + 1 + i := by omega
    rw [e]
    split
    · exact kGo_take (by simpa using h)
    · exact kGo_take (by simpa using h)

def kAt (p : Int) (w : Nat) (rows : List (List Int)) (i : Nat) : List (List Int) × List (List Int) := kGo p w rows.length 0 (rows.take i) [] []
theorem kAt_step {p : Int} {w i : Nat} {rows : List (List Int)} {r : List Int} (h : rows[i]? = some r) : kAt p w rows (i + 1) = kStep p w (longR rows.length i r) (kAt p w rows i) := by
  unfold kAt; rw [kGo_take h, Nat.zero_add]
theorem take_len {p : Int} {L : List (List Int)} {row : List Int} : (takeL p L row).length ≤ L.length + 1 := by
  unfold takeL; split <;> simp
theorem kAt_facts {p : Int} (hp : Pr p) {w : Nat} {rows : List (List Int)} (hr : ∀ r ∈ rows, RowOk p w r) : ∀ i, i ≤ rows.length →
    (∃ D, KInv p w rows.length i (kAt p w rows i).1 (kAt p w rows i).2 D) ∧ (kAt p w rows i).1.length + (kAt p w rows i).2.length ≤ i
  | 0, _ => ⟨⟨[], kInv0 p w rows.length⟩, by simp [kAt, kGo]⟩
  | i + 1, h => by
    obtain ⟨⟨D, hI⟩, hL⟩ := kAt_facts hp hr i (by omega)
    have hx : rows[i]? = some rows[i] := List.getElem?_eq_getElem (by omega)
    have hrow := hr _ (List.mem_of_getElem? hx)
    obtain ⟨s1, s2⟩ := hI.step hp hrow (by omega)
    rw [kAt_step hx]
    generalize kAt p w rows i = q at *
    unfold kStep
    by_cases hw : w ≤ leadN (lessL p q.1 (longR rows.length i rows[i]))
    · rw [if_pos hw]
      exact ⟨⟨_, s1 hw⟩, by simp; omega⟩
    · rw [if_neg hw]
      have := take_len (p := p) (L := q.1) (row := longR rows.length i rows[i])
      refine ⟨⟨_, s2 hw⟩, ?_⟩
      show (takeL p q.1 _).length + q.2.length ≤ i + 1
      omega

theorem set_long (r : List Int) (m i : Nat) : (ints r ++ List.replicate m [i64 0]).set (r.length + i) [i64 1] = ints (longR m i r) := by
  rw [List.set_append, if_neg (by simp), show r.length + i - (ints r).length = i by simp, ints_set_unit]
  simp [longR]

theorem argEs_fz : ∀ (O : List (List Int)), argEs (O.map fun o => [D.vw false 1 (ints o)]) = O.map fun o => [vInts o]
  | [] => rfl
  | o :: O => by
    have := argEs_fz O
    simp only [List.map_cons, argEs, argCs, D.arg] at this ⊢
    rw [this]
    congr 2
    simp

set_option maxHeartbeats 2000000 in
theorem kernel_ok (p : Int) (w : Nat) (rows : List (List Int)) (hp : Pr p) (hwd : w ≤ 500000) (hl : rows.length ≤ 500000) (hr : ∀ r ∈ rows, RowOk p w r) : CallOK Go.Proofs.Tryz.prog 201 [.one (i64 p), .one (vIntss rows)] (.one (oIntss (echL p (kerI p w rows)))) := by
  have hF := fnOk 101 [.tmp 4]
  refine callOK hF 60 Go.Proofs.Tryz.func201 rfl rfl rfl (by decide) (by simp) rfl ?_
  intro w0 hw
  have S := @vc_sound w0 _ hF ⟨(.one (oIntss (echL p (kerI p w rows)))), []⟩ Go.Proofs.Tryz.f201 rfl (by simp)
  have hpp := prPos hp
  simp
  refine J.loop hw (fun i : Nat => ⟨[(0, .c (.d (i64 p))), (5, .c (.d (i64 rows.length))), (6, .c (.ob 64006)), (7, .c (.ob 64007)), (19, .c (.d (vIntss rows))), (20, .c (.d (i64 rows.length))), (21, .c (.d (i64 i)))],
      [(64006, .arr 43 1 (((kAt p w rows i).2.map (List.drop w)).map fun o => [.vw false 1 (ints o)])), (64007, .arr 43 1 ((kAt p w rows i).1.map fun xs => [oInts xs]))]⟩)
    (fun i => i ≤ rows.length) (fun i => rows.length - i) 0 (by simp) (by simp [kAt, kGo]) ?_
  intro i hi
  obtain ⟨⟨D0, hI⟩, hL⟩ := kAt_facts hp hr i hi
  have hst := fun r (h : rows[i]? = some r) => kAt_step (p := p) (w := w) h
  have hend : kerI p w rows = if i = rows.length then (kAt p w rows i).2.map (List.drop w) else kerI p w rows := by
    split
    · rename_i e; unfold kAt kerI; rw [e, List.take_length]
    · rfl
  generalize kAt p w rows i = KO at hI hL hst hend ⊢
  obtain ⟨K, O⟩ := KO
  simp only at hI hL hend ⊢
  have hOl : (O.map (List.drop w)).length = O.length := List.length_map ..
  have hOD : ∀ y, (O ++ [y]).map (List.drop w) = O.map (List.drop w) ++ [y.drop w] := fun y => by simp
  generalize O.map (List.drop w) = OD at hend hOl hOD ⊢
  refine S 8 _ _ ?_
  simp
  refine ⟨fun hlt => ?_, fun hge => ?_⟩
  · obtain ⟨r, hr'⟩ : ∃ r, rows[i]? = some r := ⟨rows[i], List.getElem?_eq_getElem hlt⟩
    have hrow := hr r (List.mem_of_getElem? hr')
    have hrl := hrow.1
    have hst := hst r hr'
    have hlong := longR_row (p := p) (m := rows.length) (i := i) hpp.1 hrow
    obtain ⟨w1, -, -, w4⟩ := hI.wide hp hrow hlt
    have c1 := Clone_ok r (by omega)
    have c2 := less_ok' p (w + rows.length) K (longR rows.length i r) hp (by omega) (by omega) hI.red.rws hlong
    have c3 := lead_ok (lessL p K (longR rows.length i r)) (by rw [w1.1]; omega)
    rw [led_leadZ w4] at c3
    have htk : takeL p K (longR rows.length i r) = K.map (fun q => subR p q (nrm p (lessL p K (longR rows.length i r))) (gt q (leadN (lessL p K (longR rows.length i r))))) ++ [nrm p (lessL p K (longR rows.length i r))] := by
      unfold takeL; rw [if_pos w4]
    unfold kStep at hst
    generalize hx : longR rows.length i r = x at *
    generalize hwdd : lessL p K x = wd at *
    have hwdl := w1.1
    have hsl := set_long r rows.length i
    rw [hx] at hsl
    have hwi : IntKind.i64.wrap ((r.length : Int) + (i : Int)) = ((r.length + i : Nat) : Int) := by rw [wrap64] <;> omega
    refine S 7 _ _ ?_
    simp
    refine ⟨hlt, fun r' hr'' => ?_⟩
    obtain rfl : r = r' := Option.some.inj (hr'.symm.trans hr'')
    refine S 60 _ _ ?_
    simp
    refine CallW.ok (by decide) (by simp) c1 (by simp) (S 60 _ _ ?_)
    have ht : ((r.length : Int) + (i : Int)).toNat = r.length + i := by omega
    simp [hwi, ht, hsl]
    refine ⟨⟨by omega, by omega⟩, ⟨by omega, hlt⟩, hlt, ?_⟩
    refine CallW.ok (by decide) (by simp) c2 (by simp) (S 60 _ _ ?_)
    simp
    refine CallW.ok (by decide) (by simp) c3 (by simp) (S 12 _ _ ?_)
    simp
    refine ⟨fun hge => ?_, fun hlt2 => ?_⟩
    · rw [if_pos (by omega)] at hst
      refine S 4 _ _ ?_
      simp
      refine ⟨by omega, ?_⟩
      refine J.freezeW (d := 50) (K := 2496) (e := 2) (z := 1) (lo := r.length) (n := wd.length - r.length) (xs := ints wd) (by simp) (by simp) (by simp; omega) ?_
      have hv : List.take (wd.length - r.length) (List.drop r.length (locEs (ints wd))) = ints (wd.drop w) := by
        rw [show locEs (ints wd) = ints wd by simp, hrl, List.take_of_length_le (by simp)]
        simp
      rw [hv]
      have hwl : (wd.drop w).length = rows.length := by simp; omega
      have hO2 : List.map ((fun o => [D.vw false 1 (ints o)]) ∘ List.drop w) (kAt p w rows (i + 1)).2 = OD.map (fun o => [D.vw false 1 (ints o)]) ++ [[D.vw false 1 (ints (wd.drop w))]] := by
        rw [hst, ← List.map_map, hOD]; simp
      have hK2 : (kAt p w rows (i + 1)).1 = K := by rw [hst]
      generalize wd.drop w = wv at hwl hO2
      refine S 60 _ _ ?_
      simp
      exact ⟨⟨by omega, by omega⟩, Nxt.mk (i + 1) hlt (by simp [wrapS (i := i) (n := rows.length) hlt (by omega), hO2, hK2]) (by omega)⟩
    · rw [if_neg (by omega), htk] at hst
      have hld' : leadN wd < wd.length := w4
      have g1 := gt_get hld'
      have g2 := gt_range (by omega) w1 (leadN wd)
      have g3 := gt_lead w4
      have c4 := inverse_ok (gt wd (leadN wd)) p hp g2.1 g2.2
      obtain ⟨_, v1, v2⟩ := inv_ok hp (n := gt wd (leadN wd)) (by omega) g2.2
      obtain ⟨n1, n2, n3, _⟩ := nrm_ok hp w1 w4
      have hnt : ∀ i, i < wd.length → (nrm p wd).take (i + 1) = (nrm p wd).take i ++ [gt wd i * invN (gt wd (leadN wd)) p % p] := fun i hi => nrm_take hi
      generalize hwn : nrm p wd = wn at hst n1 n2 n3 hnt
      generalize hvi : invN (gt wd (leadN wd)) p = vi at c4 v1 v2 hnt
      have hp0 : p ≠ 0 := by omega
      refine S 60 _ _ ?_
      simp
      refine ⟨hld', fun a ha => ?_⟩
      obtain rfl := Option.some.inj (g1.symm.trans ha)
      refine CallW.ok (by decide) (by simp) c4 (by simp) (S 60 _ _ ?_)
      simp
      have hO2 : List.map ((fun o => [D.vw false 1 (ints o)]) ∘ List.drop w) (kAt p w rows (i + 1)).2 = OD.map (fun o => [D.vw false 1 (ints o)]) := by
        rw [hst]
        have := hOD []
        simp at this
        rw [← List.map_map, this]
      have hK2 : (kAt p w rows (i + 1)).1 = K.map (fun q => subR p q wn (gt q (leadN wd))) ++ [wn] := by rw [hst]
      clear hst htk hOD hwdd hx hsl
      refine J.loop hw (fun j : Nat => ⟨[(0, .c (.d (i64 p))), (5, .c (.d (i64 rows.length))), (6, .c (.ob 64006)), (7, .c (.ob 64007)), (10, .c (.ob 64010)), (12, .c (.d (i64 vi))), (19, .c (.d (vIntss rows))), (20, .c (.d (i64 rows.length))), (21, .c (.d (i64 i))), (60, .c (.d (i64 wd.length))), (61, .c (.d (i64 j)))],
          [(64006, .arr 43 1 (OD.map fun o => [.vw false 1 (ints o)])), (64007, .arr 43 1 (K.map fun xs => [oInts xs])), (64010, .arr 2 1 (ints (wn.take j ++ wd.drop j)))]⟩)
        (fun j => j ≤ wd.length) (fun j => wd.length - j) 0 (by simp) (by simp) ?_
      intro j hj
      have hwl : (wn.take j).length = j := by rw [List.length_take, n1.1]; omega
      have hnt2 := hnt j
      generalize hcr : wn.take j ++ wd.drop j = cur
      have hcl : cur.length = wd.length := by rw [← hcr]; simp [n1.1]; omega
      refine S 8 _ _ ?_
      simp
      refine ⟨fun hlt1 => ?_, fun hge1 => ?_⟩
      · have q1 := gt_get hlt1
        have q2 := gt_range (by omega) w1 j
        have q3 := hnt2 hlt1
        generalize gt wd j = y at q1 q2 q3
        have m1 : 0 ≤ y * vi := Int.mul_nonneg q2.1 (by omega)
        have m2 : y * vi ≤ 13 * 13 := Int.mul_le_mul (by omega) (by omega) (by omega) (by omega)
        have w1' : IntKind.i64.wrap (y * vi) = y * vi := wrap64 (by omega) (by omega)
        have hmod : (y * vi).tmod p = y * vi % p := Int.tmod_eq_emod_of_nonneg m1
        have gc : cur[j]? = some y := by
          rw [← hcr, List.getElem?_append_right (by omega), hwl, Nat.sub_self, List.getElem?_drop]; simpa using q1
        have hs : cur.set j (y * vi % p) = wn.take (j + 1) ++ wd.drop (j + 1) := by
          rw [← hcr, List.set_append, if_neg (by omega), hwl, Nat.sub_self, q3, drop_cons q1]
          simp
        have hs2 : List.take (j + 1) (List.map (fun i => [D.v (Value.int IntKind.i64 i)]) wn) ++ List.drop (j + 1) (List.map (fun i => [D.v (Value.int IntKind.i64 i)]) wd) = (ints cur).set j [i64 (y * vi % p)] := by
          rw [← List.map_take, ← List.map_drop, ← List.map_append, ← hs, List.map_set]
        refine S 60 _ _ ?_
        simp
        refine ⟨by omega, fun x' hx' => ?_⟩
        obtain rfl : y = x' := Option.some.inj (gc.symm.trans hx')
        simp [w1', hmod, hp0]
        exact ⟨by omega, Nxt.mk (j + 1) hlt1 (by simp [wrapS (i := j) (n := wd.length) hlt1 (by omega), hs2]) (by omega)⟩
      · have e : cur = wn := by
          have hin : j = wd.length := by omega
          rw [← hcr, hin, List.drop_of_length_le (Nat.le_refl _), List.append_nil, List.take_of_length_le (by rw [n1.1]; omega)]
        subst e
        clear hj hwl hnt2 hcr hcl hge1
        have hlead : leadN cur < cur.length := by rw [n2, n1.1]; omega
        have hKl : K.length ≤ 500000 := by omega
        have hKr := hI.red.rws
        refine S 60 _ _ ?_
        simp
        refine J.loop hw (fun j : Nat => ⟨[(0, .c (.d (i64 p))), (5, .c (.d (i64 rows.length))), (6, .c (.ob 64006)), (7, .c (.ob 64007)), (10, .c (.ob 64010)), (19, .c (.d (vIntss rows))), (20, .c (.d (i64 rows.length))), (21, .c (.d (i64 i))), (77, .c (.d (i64 K.length))), (78, .c (.d (i64 j)))],
            [(64006, .arr 43 1 (OD.map fun o => [.vw false 1 (ints o)])), (64007, .arr 43 1 (((K.take j).map (fun q => subR p q cur (gt q (leadN wd))) ++ K.drop j).map fun xs => [oInts xs])), (64010, .arr 2 1 (ints cur))]⟩)
          (fun j => j ≤ K.length) (fun j => K.length - j) 0 (by simp) (by simp) ?_
        intro j hj
        have hml : ((K.take j).map (fun q => subR p q cur (gt q (leadN wd)))).length = j := by simp; omega
        generalize hmd : (K.take j).map (fun q => subR p q cur (gt q (leadN wd))) ++ K.drop j = mid
        have hmdl : mid.length = K.length := by rw [← hmd]; simp; omega
        refine S 8 _ _ ?_
        simp
        refine ⟨fun hlt => ?_, fun hge => ?_⟩
        · obtain ⟨q, hq⟩ : ∃ q, K[j]? = some q := ⟨K[j], List.getElem?_eq_getElem hlt⟩
          obtain ⟨b1, b2⟩ := hKr q (List.mem_of_getElem? hq)
          have hmr : mid[j]? = some q := by
            rw [← hmd, List.getElem?_append_right (by omega), hml, Nat.sub_self, List.getElem?_drop]; simpa using hq
          have hms : mid.set j (subR p q cur (gt q (leadN wd))) = (K.take (j + 1)).map (fun q => subR p q cur (gt q (leadN wd))) ++ K.drop (j + 1) := by
            rw [← hmd, List.set_append, if_neg (by omega), hml, Nat.sub_self, List.take_add_one, hq, drop_cons hq]
            simp
          have c5 := less_ok' p (w + rows.length) [cur] q hp (by omega) (by simp) (by simpa using ⟨n1, hlead⟩) b1
          have e5 : lessL p [cur] q = subR p q cur (gt q (leadN wd)) := by simp [lessL, n2]
          rw [e5] at c5
          generalize subR p q cur (gt q (leadN wd)) = q' at c5 hms
          have hjm : j < mid.length := by omega
          refine J.name (F := ⟨Go.Proofs.Tryz.prog, tab, [], 101, [.tmp 4]⟩) (r := ⟨.one (oIntss (echL p (kerI p w rows))), []⟩) (fn := Go.Proofs.Tryz.f201)
            (K := 64010) (fix_none hw (by decide)) (by simp) (by simp) ?_
          intro c2'
          refine J.reV (d := 10) (K := 64010) (c := c2') (by simp) (by simp) ?_
          have S2 := @vc_sound (w0.named 64010 c2') _ hF ⟨.one (oIntss (echL p (kerI p w rows))), []⟩ Go.Proofs.Tryz.f201 rfl (by simp)
          refine S2 60 _ _ ?_
          simp
          refine ⟨hjm, fun q2 hq2 => ?_⟩
          obtain rfl : q = q2 := Option.some.inj (hmr.symm.trans hq2)
          refine CallW.okA (by decide) (ArgsOK.cons (ArgOK.of (r := .one (i64 p)) (by simp)) (ArgsOK.cons (ArgOK.lend (K := 64010) (e := 43) (e' := 2) (z' := 1) (c := c2') (xs := ints cur) (by simp) (by simp) (by simp)) (ArgsOK.cons (ArgOK.of (r := .one (vInts q)) (by simp)) ArgsOK.nil))) (by simp; exact c5) (by simp) ?_
          simp
          refine J.name (F := ⟨Go.Proofs.Tryz.prog, tab, [], 101, [.tmp 4]⟩) (r := ⟨.one (oIntss (echL p (kerI p w rows))), []⟩) (fn := Go.Proofs.Tryz.f201)
            (K := 5760) (by rw [named_ne _ _ (by decide)]; exact fix_none hw (by decide)) (by simp) (by simp) ?_
          intro c3'
          refine J.reV (d := 90) (K := 5760) (c := c3') (by simp) (by simp) ?_
          have S3 := @vc_sound ((w0.named 64010 c2').named 5760 c3') _ hF ⟨.one (oIntss (echL p (kerI p w rows))), []⟩ Go.Proofs.Tryz.f201 rfl (by simp)
          refine S3 3 _ _ ?_
          simp [hjm]
          refine J.in' (ky := 64007) (K := 5760) (i := j) (j := 0) (e := 43) (z := 1) (xs := (mid.map fun xs => [oInts xs]).set j [.v c3']) (E := [.v c3']) (e' := 2) (z' := 1) (ys := ints q') (c := c3')
            (by simp) (by simp) (by simp) (by simp [hjm]) (by simp) (by decide) (by simp) ?_
          refine J.reOb (d := 10) (K := 64010) (c := c2') (by rw [named_ne _ _ (by decide)]; simp) (by simp) ?_
          have hms2 : List.take (j + 1) (List.map ((fun xs => [oInts xs]) ∘ fun q => subR p q cur (gt q (leadN wd))) K) ++ List.drop (j + 1) (List.map (fun xs => [oInts xs]) K) = (mid.map fun xs => [oInts xs]).set j [oInts q'] := by
            rw [show [oInts q'] = (fun xs => [oInts xs]) q' from rfl, ← List.map_set, hms]; simp
          refine S3 60 _ _ ?_
          simp
          exact Nxt.mk (j + 1) hlt (by simp [wrapS (i := j) (n := K.length) hlt (by omega), hms2]) (by omega)
        · have e : mid = K.map (fun q => subR p q cur (gt q (leadN wd))) := by
            have hin : j = K.length := by omega
            rw [← hmd, hin, List.drop_of_length_le (Nat.le_refl _), List.append_nil, List.take_of_length_le (Nat.le_refl _)]
          rw [← e] at hK2
          refine S 60 _ _ ?_
          simp
          refine BsW.move hF (e := 43) (es := [[oInts cur]]) (ks := [64010]) (by decide) rfl rfl rfl (by simp) (by simp) rfl (by decide) (by decide) (by simp) ?_
          refine S 60 _ _ ?_
          simp
          exact ⟨⟨by omega, by omega⟩, Nxt.mk (i + 1) hlt (by simp [wrapS (i := i) (n := rows.length) hlt (by omega), hO2, hK2]) (by omega)⟩
  · have hin : i = rows.length := by omega
    rw [if_pos hin] at hend
    have hk := (ker_same hp hr).2.1
    rw [hend] at hk S ⊢
    have c1 := reduce_ok p rows.length OD hp (by omega) (by omega) hk
    refine S 60 _ _ ?_
    simp
    refine CallW.ok (by decide) (by simp) c1 (by simp) (S 60 _ _ ?_)
    simp

end Go.Sm

namespace Go.Sm
open Go.RowKit

theorem dual_ok (p : Int) (n : Nat) (rows : List (List Int)) (hp : Pr p) (h1 : 1 ≤ n) (h2 : n ≤ 10) (hl : rows.length ≤ 100000) (hr : ∀ r ∈ rows, RowOk p n r) : CallOK Go.Proofs.Tryz.prog 92 [vCode p n rows] (oCode p n (dualL p n rows)) := by
  have hF := fnOk 13 [.cell 2 26]
  refine callOK hF 60 Go.Proofs.Tryz.func92 rfl rfl rfl (by decide) (by simp) rfl ?_
  intro w0 hw
  have S := @vc_sound w0 _ hF ⟨(oCode p n (dualL p n rows)), []⟩ Go.Proofs.Tryz.f92 rfl (by simp)
  have hpp := prPos hp
  have c1 := columns_ok p n rows (by omega) (by omega) (fun r h => (hr r h).1)
  have c2 := kernel_ok p rows.length (colsR n rows) hp (by omega) (by rw [colsR_length]; omega) (colsR_row (by omega) hr)
  rw [← (dual_rows hp hr).2.2] at c2
  generalize dualL p n rows = E at c2 S ⊢
  simp
  refine J.dr hF mixed 9 [[], [0], [], [2], [], [4], [], [6], [4, 5, 6, 7], [0, 1, 2, 3, 4, 5, 6, 7, 8], [0, 1, 2, 3, 4, 5, 6, 7, 8, 9]] [[3, 4, 5, 6, 7, 8, 9, 10, 11], [4, 5, 6, 7, 8, 9, 10, 11], [3, 4, 5, 6, 7, 8, 9, 10, 11], [3, 4, 6, 7, 8, 9, 10, 11], [3, 4, 5, 6, 7, 8, 9, 10, 11], [3, 4, 5, 6, 8, 9, 10, 11], [3, 4, 5, 6, 7, 8, 9, 10, 11], [3, 4, 5, 6, 7, 8, 10, 11], [3, 4, 5, 6, 11]] (by decide) ?_
  simp
  refine DrC.ok hF (by rfl) (by simp) c1 (by simp) (by simp) ?_
  simp
  refine DrC.ok hF (by rfl) (by simp) c2 (by simp) (by simp) ?_
  simp
  refine S 60 _ _ ?_
  simp

theorem GoodC.nat {p l : Int} {rows : List (List Int)} (h : GoodC p l rows) : ∃ n : Nat, l = n ∧ 1 ≤ n ∧ n ≤ 10 ∧ rows.length ≤ 10 ∧ ∀ r ∈ rows, RowOk p n r := by
  have h10 := h.1.1.2
  have hl := h.2.1
  have hr := h.1.rows
  obtain ⟨n, rfl⟩ : ∃ n : Nat, l = n := ⟨l.toNat, by omega⟩
  rw [Int.toNat_natCast] at hr
  exact ⟨n, rfl, by omega, by omega, by omega, hr⟩

/-- The dual code. -/
def dualR (p l : Int) (rows : List (List Int)) : (Int × Int × List (List Int)) × Int := if GoodC p l rows then ((p, l, dualL p l.toNat rows), 0) else ((0, 0, []), 1)

theorem dual_small {p : Int} {n : Nat} {rows : List (List Int)} (hp : Pr p) (h1 : 1 ≤ n) (h2 : n ≤ 10) (hr : ∀ r ∈ rows, RowOk p n r) : (dualL p n rows).length ≤ 100 ∧ total (dualL p n rows) ≤ 1000 ∧ ∀ r ∈ dualL p n rows, r.length ≤ 10 := by
  have hpp := prPos hp
  obtain ⟨-, k3, -⟩ := dual_rows hp hr
  have hkl : (kerS p rows.length (colsR n rows)).length ≤ 100 := by
    have h1 := kerP_length rows.length (echL p (longs (colsR n rows).length 0 (colsR n rows)))
    have h2 := (ech_facts hp (longs_row (p := p) (m := (colsR n rows).length) (i := 0) hpp.1 (colsR_row (by omega) hr))).1
    rw [longs_length, colsR_length] at h2
    unfold kerP at h1
    unfold kerS
    rw [colsR_length] at h1 ⊢
    omega
  exact small_ech (goodRows_of (l := n) hp rfl h1 h2 k3) hkl

theorem dualR_small (p l : Int) (rows : List (List Int)) : ∃ p' l' E e, dualR p l rows = ((p', l', E), e) ∧ E.length ≤ 100 ∧ total E ≤ 1000 ∧ ∀ r ∈ E, r.length ≤ 10 := by
  unfold dualR
  split
  · rename_i h
    obtain ⟨n, rfl, h1, h2, h3, h4⟩ := h.nat
    rw [Int.toNat_natCast]
    exact ⟨_, _, _, _, rfl, dual_small h.1.1.1 h1 h2 h4⟩
  · exact ⟨_, _, _, _, rfl, small_none⟩

theorem DualCode_ok (p l : Int) (rows : List (List Int)) (hl : rows.length ≤ 1048576) (hr : ∀ r ∈ rows, r.length ≤ 1048576) : CallOK Go.Proofs.Tryz.prog 9 [vCode p l rows] (cres (dualR p l rows)) := by
  have hF := fnOk 10 [.cell 2 26, .tmp 3]
  refine callOK hF 60 Go.Proofs.Tryz.func9 rfl rfl rfl (by decide) (by simp) rfl ?_
  intro w0 hw
  have S := @vc_sound w0 _ hF ⟨(cres (dualR p l rows)), []⟩ Go.Proofs.Tryz.f9 rfl (by simp)
  have c1 := IsCode_ok p l rows hl hr
  by_cases hg : GoodC p l rows
  · rw [decide_eq_true hg] at c1
    obtain ⟨n, rfl, h1, h2, h3, h4⟩ := hg.nat
    have c2 := dual_ok p n rows hg.1.1.1 h1 h2 (by omega) h4
    have e : dualR p n rows = ((p, (n : Int), dualL p n rows), 0) := by unfold dualR; rw [if_pos hg]; simp
    rw [e] at S ⊢
    simp
    refine CallW.ok (by decide) (by simp) c1 (by simp) (S 60 _ _ ?_)
    simp
    refine CallW.ok (by decide) (by simp) c2 (by simp) (S 60 _ _ ?_)
    simp
  · rw [decide_eq_false hg] at c1
    have e : dualR p l rows = ((0, 0, []), 1) := by unfold dualR; rw [if_neg hg]
    rw [e] at S ⊢
    simp
    refine CallW.ok (by decide) (by simp) c1 (by simp) (S 60 _ _ ?_)
    simp

theorem specDualCode_ok (p l : Int) (rows : List (List Int)) (hl : rows.length ≤ 1048576) (hr : ∀ r ∈ rows, r.length ≤ 1048576) : CallOK Go.Proofs.Tryz.prog 10 [vCode p l rows] (cres (dualR p l rows)) := by
  have hF := fnOk 10 [.cell 2 26, .tmp 3]
  refine callOK hF 60 Go.Proofs.Tryz.func10 rfl rfl rfl (by decide) (by simp) rfl ?_
  intro w0 hw
  have S := @vc_sound w0 _ hF ⟨(cres (dualR p l rows)), []⟩ Go.Proofs.Tryz.f10 rfl (by simp)
  have c1 := l10Is_ok p l rows hl hr
  by_cases hg : GoodC p l rows
  · rw [decide_eq_true hg] at c1
    obtain ⟨n, rfl, h1, h2, h3, h4⟩ := hg.nat
    have c2 := l10Dual_ok p n rows hg.1.1.1 h1 (by omega) (by omega) h4
    have e : dualR p n rows = ((p, (n : Int), dualL p n rows), 0) := by unfold dualR; rw [if_pos hg]; simp
    rw [e] at S ⊢
    simp
    refine CallW.ok (by decide) (by simp) c1 (by simp) (S 60 _ _ ?_)
    simp
    refine CallW.ok (by decide) (by simp) c2 (by simp) (S 60 _ _ ?_)
    simp
  · rw [decide_eq_false hg] at c1
    have e : dualR p l rows = ((0, 0, []), 1) := by unfold dualR; rw [if_neg hg]
    rw [e] at S ⊢
    simp
    refine CallW.ok (by decide) (by simp) c1 (by simp) (S 60 _ _ ?_)
    simp

theorem sameCode_ok (p l p' l' : Int) (xs ys : List (List Int)) (hl : xs.length ≤ 2000000) (hr : ∀ r ∈ xs, r.length ≤ 2000000) : CallOK Go.Proofs.Tryz.prog 127 [vCode p l xs, vCode p' l' ys] (.one (bo (decide (p = p' ∧ l = l' ∧ xs = ys)))) := by
  have hF := fnOk 24 [.tmp 4]
  refine callOK hF 60 Go.Proofs.Tryz.func127 rfl rfl rfl (by decide) (by simp) rfl ?_
  intro w0 hw
  have S := @vc_sound w0 _ hF ⟨(.one (bo (decide (p = p' ∧ l = l' ∧ xs = ys)))), []⟩ Go.Proofs.Tryz.f127 rfl (by simp)
  have c1 := sameRows_ok xs ys hl hr
  by_cases e1 : p = p'
  · subst e1
    by_cases e2 : l = l'
    · subst e2
      rw [show decide (p = p ∧ l = l ∧ xs = ys) = decide (xs = ys) by simp] at S ⊢
      generalize decide (xs = ys) = b at c1 S ⊢
      simp
      refine CallW.ok (by decide) (by simp) c1 (by simp) (S 60 _ _ ?_)
      simp
    · rw [decide_eq_false fun h => e2 h.2.1] at S ⊢
      simp [e2]
  · rw [decide_eq_false fun h => e1 h.1] at S ⊢
    simp [e1]

theorem dual_rowsL {p : Int} {n : Nat} (hp : Pr p) {rows : List (List Int)} (hr : ∀ r ∈ rows, RowOk p n r) : ∀ r ∈ dualL p n rows, RowOk p n r := (ech_facts hp (dual_rows hp hr).2.1).2

/-- Is it its own dual. -/
def selfR (p l : Int) (rows : List (List Int)) : Bool × Int := if GoodC p l rows then (decide (dualL p l.toNat rows = rows), 0) else (false, 1)

theorem IsSelfDual_ok (p l : Int) (rows : List (List Int)) (hl : rows.length ≤ 1048576) (hr : ∀ r ∈ rows, r.length ≤ 1048576) : CallOK Go.Proofs.Tryz.prog 35 [vCode p l rows] (wres (selfR p l rows)) := by
  have hF := fnOk 11 [.tmp 2, .tmp 3]
  refine callOK hF 60 Go.Proofs.Tryz.func35 rfl rfl rfl (by decide) (by simp) rfl ?_
  intro w0 hw
  have S := @vc_sound w0 _ hF ⟨(wres (selfR p l rows)), []⟩ Go.Proofs.Tryz.f35 rfl (by simp)
  have c1 := IsCode_ok p l rows hl hr
  by_cases hg : GoodC p l rows
  · rw [decide_eq_true hg] at c1
    obtain ⟨n, rfl, h1, h2, h3, h4⟩ := hg.nat
    have c2 := dual_ok p n rows hg.1.1.1 h1 h2 (by omega) h4
    have c3 := sameCode_ok p n p n rows (dualL p n rows) (by omega) (fun r h => by have := hr r h; omega)
    have e : selfR p n rows = (decide (dualL p n rows = rows), 0) := by unfold selfR; rw [if_pos hg]; simp
    rw [e] at S ⊢
    rw [show decide (p = p ∧ (n : Int) = n ∧ rows = dualL p n rows) = decide (dualL p n rows = rows) by simp [eq_comm]] at c3
    generalize decide (dualL p n rows = rows) = b at c3 S ⊢
    generalize dualL p n rows = E at c2 c3
    simp
    refine CallW.ok (by decide) (by simp) c1 (by simp) (S 60 _ _ ?_)
    simp
    refine J.dr hF mixed 3 [[], [], [1], [0, 1, 2], [0, 1, 2, 3], [0, 1, 2, 3, 4]] [[7, 8, 9], [7, 8, 9], [7, 9]] (by decide) ?_
    simp
    refine DrC.ok hF (by rfl) (by simp) c2 (by simp) (by simp) ?_
    simp
    refine S 60 _ _ ?_
    simp
    refine CallW.ok (by decide) (by simp) c3 (by simp) (S 60 _ _ ?_)
    simp
  · rw [decide_eq_false hg] at c1
    have e : selfR p l rows = (false, 1) := by unfold selfR; rw [if_neg hg]
    rw [e] at S ⊢
    simp
    refine CallW.ok (by decide) (by simp) c1 (by simp) (S 60 _ _ ?_)
    simp

theorem specIsSelfDual_ok (p l : Int) (rows : List (List Int)) (hl : rows.length ≤ 1048576) (hr : ∀ r ∈ rows, r.length ≤ 1048576) : CallOK Go.Proofs.Tryz.prog 36 [vCode p l rows] (wres (selfR p l rows)) := by
  have hF := fnOk 13 [.tmp 2, .tmp 3]
  refine callOK hF 60 Go.Proofs.Tryz.func36 rfl rfl rfl (by decide) (by simp) rfl ?_
  intro w0 hw
  have S := @vc_sound w0 _ hF ⟨(wres (selfR p l rows)), []⟩ Go.Proofs.Tryz.f36 rfl (by simp)
  have c1 := l10Is_ok p l rows hl hr
  by_cases hg : GoodC p l rows
  · rw [decide_eq_true hg] at c1
    obtain ⟨n, rfl, h1, h2, h3, h4⟩ := hg.nat
    have c2 := l10Dual_ok p n rows hg.1.1.1 h1 (by omega) (by omega) h4
    have hs := dual_small hg.1.1.1 h1 h2 h4
    have c3 := l10Same_ok n (dualL p n rows) rows (by omega) (by omega) (fun r h => (dual_rowsL hg.1.1.1 h4 r h).1) (fun r h => (h4 r h).1)
    have e : selfR p n rows = (decide (dualL p n rows = rows), 0) := by unfold selfR; rw [if_pos hg]; simp
    rw [e] at S ⊢
    generalize decide (dualL p n rows = rows) = b at c3 S ⊢
    generalize dualL p n rows = E at c2 c3
    simp
    refine CallW.ok (by decide) (by simp) c1 (by simp) (S 60 _ _ ?_)
    simp
    refine J.dr3 hF mixed 5 [[], [0], [0, 1], [], [3], [0, 1, 2, 3, 4], [0, 1, 2, 3, 4, 5], [0, 1, 2, 3, 4, 5, 6]] [[7, 8, 9, 10, 11], [8, 9, 10, 11], [9, 10, 11], [7, 8, 9, 10, 11], [7, 8, 9, 11]] [[], [], [], [], []] [[], [], [], [], []] [] [] (by decide) ?_
    simp
    refine DrC3.ok hF (by rfl) (by simp) c2 (by simp) (by simp) ?_
    trace_state
    simp
    refine S 60 _ _ ?_
    simp
    refine CallW.ok (by decide) (by simp) c3 (by simp) (S 60 _ _ ?_)
    simp
  · rw [decide_eq_false hg] at c1
    have e : selfR p l rows = (false, 1) := by unfold selfR; rw [if_neg hg]
    rw [e] at S ⊢
    simp
    refine CallW.ok (by decide) (by simp) c1 (by simp) (S 60 _ _ ?_)
    simp

end Go.Sm
