/- Towards the rows of this seat: what the functions do, as contracts over plain data. -/
import Derived.Test.YtemedeiolhgoeaaGreatPk7
import Derived.Test.YtemedeiolhgoeaaGreatPk8
namespace Go.Sm
open Go.RowKit

theorem shI_step {p : Int} {i : Nat} : ∀ {rows : List (List Int)} {fo : Option (List Int)} {k : Nat} {r : List Int}, rows[k]? = some r →
    shI p i (rows.take (k + 1)) fo = shI p i (rows.take k) fo ++ (if gt r i = 0 then [r] else match fstI i (rows.take k) fo with
      | none => []
      | some f => [addR p r f (byI p i f r)]) ∧
    fstI i (rows.take (k + 1)) fo = match fstI i (rows.take k) fo with
      | some f => some f
      | none => if gt r i = 0 then none else some r
  | [], _, _, _, h => by simp at h
  | q :: rows, fo, 0, r, h => by
    simp at h; subst h
    cases fo with
    | none => by_cases h0 : gt q i = 0 <;> simp [shI, fstI, h0]
    | some f => by_cases h0 : gt q i = 0 <;> simp [shI, fstI, h0]
  | q :: rows, fo, k + 1, r, h => by
    have h' : rows[k]? = some r := by simpa using h
    cases fo with
    | some f =>
      obtain ⟨s1, s2⟩ := shI_step (p := p) (i := i) (fo := some f) h'
      simp only [fstI] at s1 s2
      by_cases h0 : gt q i = 0 <;> simp [shI, fstI, h0, s1]
    | none =>
      by_cases h0 : gt q i = 0
      · obtain ⟨s1, s2⟩ := shI_step (p := p) (i := i) (fo := none) h'
        refine ⟨by simp only [fstI] at s1; simp [shI, fstI, h0, s1], ?_⟩
        simp only [List.take_succ_cons]
        have e1 : ∀ l : List (List Int), fstI i (q :: l) none = fstI i l none := fun l => by simp [fstI, h0]
        rw [e1, e1, s2]
      · obtain ⟨s1, s2⟩ := shI_step (p := p) (i := i) (fo := some q) h'
        simp only [fstI] at s1 s2
        simp [shI, fstI, h0, s1]

theorem fstI_mem {i : Nat} {rows : List (List Int)} {f : List Int} (h : fstI i rows none = some f) : f ∈ rows ∧ gt f i ≠ 0 := by
  unfold fstI at h
  exact ⟨List.mem_of_find?_eq_some h, by simpa using List.find?_some h⟩

theorem shI_len {p : Int} {i : Nat} : ∀ {rows : List (List Int)} {fo : Option (List Int)}, (shI p i rows fo).length ≤ rows.length
  | [], fo => by simp [shI]
  | r :: rows, fo => by
    unfold shI
    split
    · have := shI_len (p := p) (i := i) (rows := rows) (fo := fo); simp; omega
    · split
      · have := shI_len (p := p) (i := i) (rows := rows) (fo := some r); simp; omega
      · rename_i f; have := shI_len (p := p) (i := i) (rows := rows) (fo := some f); simp; omega

theorem addR_take {p : Int} {row r : List Int} {c : Int} {i : Nat} (h1 : i < row.length) (h : r.length = row.length) : (addR p row r c).take (i + 1) = (addR p row r c).take i ++ [(gt row i + c * gt r i) % p] := by
  rw [List.take_add_one, List.getElem?_eq_getElem (by simp [addR, h]; exact h1), gt_lt h1, gt_lt (by omega)]
  simp [addR]
theorem addR_length {p : Int} {row r : List Int} {c : Int} (h : r.length = row.length) : (addR p row r c).length = row.length := by simp [addR, h]

/-- The shortened code. -/
def shoR (p l : Int) (rows : List (List Int)) (i : Int) : (Int × Int × List (List Int)) × Int := if placeN p l rows i = 0 then ((p, l - 1, echL p ((shI p i.toNat rows none).map (cutR i.toNat))), 0) else ((0, 0, []), placeN p l rows i)

theorem shoR_small (p l : Int) (rows : List (List Int)) (i : Int) : ∃ p' l' E e, shoR p l rows i = ((p', l', E), e) ∧ E.length ≤ 100 ∧ total E ≤ 1000 ∧ ∀ r ∈ E, r.length ≤ 10 := by
  unfold shoR
  split
  · rename_i h
    obtain ⟨hg, h0, h1, h2⟩ := placeN_zero h
    obtain ⟨n, rfl, g1, g2, g3, g4⟩ := hg.nat
    have hs := (sh_same hg.1.1.1 (i := i.toNat) (n := n) (by omega) g4).2.1
    have hl := shI_len (p := p) (i := i.toNat) (rows := rows) (fo := none)
    exact ⟨_, _, _, _, rfl, small_ech (goodRows_of (l := (n : Int) - 1) (n := n - 1) hg.1.1.1 (by omega) (by omega) (by omega) hs) (by simp; omega)⟩
  · exact ⟨_, _, _, _, rfl, small_none⟩

/-- The first row that is kept aside: nil or a row. -/
def fsC : Option (List Int) → C
  | none => .d (.v nilV)
  | some f => .d (vInts f)
@[simp] theorem fsC_none : fsC none = .d (.v nilV) := rfl
@[simp] theorem fsC_some (f : List Int) : fsC (some f) = .d (vInts f) := rfl

set_option maxHeartbeats 2000000 in
theorem ShortenCode_ok (p l : Int) (rows : List (List Int)) (i : Int) (hl : rows.length ≤ 1048576) (hr : ∀ r ∈ rows, r.length ≤ 1048576) : CallOK Go.Proofs.Tryz.prog 18 [vCode p l rows, .one (i64 i)] (cres (shoR p l rows i)) := by
  have hF := fnOk 101 [.cell 4 26, .tmp 5]
  refine callOK hF 60 Go.Proofs.Tryz.func18 rfl rfl rfl (by decide) (by simp) rfl ?_
  intro w0 hw
  have S := @vc_sound w0 _ hF ⟨(cres (shoR p l rows i)), []⟩ Go.Proofs.Tryz.f18 rfl (by simp)
  have c1 := placeCode_ok p l rows i hl hr
  have hR := placeN_range p l rows i
  by_cases h : placeN p l rows i = 0
  · obtain ⟨hg, h0, h1, h2⟩ := placeN_zero h
    obtain ⟨n, rfl, g1, g2, g3, g4⟩ := hg.nat
    obtain ⟨q, rfl⟩ : ∃ q : Nat, i = q := ⟨i.toNat, by omega⟩
    have hq : q < n := by omega
    have hpp := prPos hg.1.1.1
    have hp := hg.1.1.1
    have e : shoR p n rows q = ((p, (n : Int) - 1, echL p ((shI p q rows none).map (cutR q))), 0) := by unfold shoR; rw [if_pos h]; simp
    rw [e] at S ⊢
    rw [h] at c1
    have hp0 : p ≠ 0 := by omega
    have hwl : IntKind.i64.wrap ((n : Int) - 1) = (n : Int) - 1 := wrap64 (by omega) (by omega)
    simp
    refine CallW.ok (by decide) (by simp) c1 (by simp) (S 16 _ _ ?_)
    simp
    refine J.nil rfl rfl rfl (by decide) (S 60 _ _ ?_)
    simp
    refine J.loop hw (fun k : Nat => ⟨[(1, .c (.d (i64 q))), (2, .c (.ref 64002 0)), (4, .c (.ref 64004 0)), (7, .c (.ob 64007)), (8, .c (fsC (fstI q (rows.take k) none))), (24, .c (.d (vIntss rows))), (25, .c (.d (i64 rows.length))), (26, .c (.d (i64 k)))],
        [(64002, .var [.d (i64 p), .d (i64 n), .d (vIntss rows)]), (64004, .var [.d (i64 0), .d (i64 0), .ob 64024]), (64024, .arr 43 1 []), (64007, .arr 43 1 ((shI p q (rows.take k) none).map fun xs => [oInts xs]))]⟩)
      (fun k => k ≤ rows.length) (fun k => rows.length - k) 0 (by simp) (by simp [shI, fstI]) ?_
    intro k hk
    have hal := shI_len (p := p) (i := q) (rows := rows.take k) (fo := none)
    rw [List.length_take] at hal
    have hst := fun r (h : rows[k]? = some r) => shI_step (p := p) (i := q) (fo := none) h
    have hfm := fun f (h : fstI q (rows.take k) none = some f) => fstI_mem h
    have hend : rows.length ≤ k → shI p q (rows.take k) none = shI p q rows none := fun h => by rw [List.take_of_length_le h]
    generalize shI p q (rows.take k) none = acc at hal hst hend
    generalize fstI q (rows.take k) none = fo at hst hfm
    refine S 8 _ _ ?_
    simp
    refine ⟨fun hlt => ?_, fun hge => ?_⟩
    · obtain ⟨r, hr'⟩ : ∃ r, rows[k]? = some r := ⟨rows[k], List.getElem?_eq_getElem hlt⟩
      have hrow := g4 r (List.mem_of_getElem? hr')
      have hrl := hrow.1
      obtain ⟨hs1, hs2⟩ := hst r hr'
      have c2 := Clone_ok r (by omega)
      have gr := gt_get (r := r) (i := q) (by omega)
      have gr2 := gt_range (by omega) hrow q
      refine S 7 _ _ ?_
      simp
      refine ⟨hlt, fun r' hr'' => ?_⟩
      obtain rfl : r = r' := Option.some.inj (hr'.symm.trans hr'')
      refine S 9 _ _ ?_
      simp
      refine ⟨by omega, fun x hx => ?_⟩
      obtain rfl : gt r q = x := Option.some.inj (gr.symm.trans hx)
      by_cases hz : gt r q = 0
      · rw [if_pos hz] at hs1
        have hs2' : fstI q (rows.take (k + 1)) none = fo := by rw [hs2, if_pos hz]; cases fo <;> rfl
        refine S 60 _ _ ?_
        simp [hz]
        refine CallW.ok (by decide) (by simp) c2 (by simp) (S 60 _ _ ?_)
        simp
        refine BsW.move hF (e := 43) (es := [[oInts r]]) (ks := [5376]) (by decide) rfl rfl rfl (by simp) (by simp) rfl (by decide) (by decide) (by simp) ?_
        refine S 60 _ _ ?_
        simp
        refine ⟨⟨by omega, by omega⟩, ?_⟩
        cases fo <;> exact Nxt.mk (k + 1) hlt (by simp [wrapS (i := k) (n := rows.length) hlt (by omega), hs1, hs2']) (by omega)
      · rw [if_neg hz] at hs1
        cases fo with
        | none =>
          rw [if_neg hz] at hs2
          simp only [List.append_nil] at hs1
          refine S 60 _ _ ?_
          simp [hz]
          refine OpW.nilNil (t := 43) (e := 2) rfl rfl (by decide) (by kernel_rfl) (by simp) ?_
          refine S 60 _ _ ?_
          simp
          exact Nxt.mk (k + 1) hlt (by simp [wrapS (i := k) (n := rows.length) hlt (by omega), hs1, hs2]) (by omega)
        | some f =>
          simp only at hs1 hs2
          obtain ⟨hf1, hf2⟩ := hfm f rfl
          have hfrow := g4 f (List.take_subset _ _ hf1)
          have hfl := hfrow.1
          have gf := gt_get (r := f) (i := q) (by omega)
          have gf2 := gt_range (by omega) hfrow q
          have c4 := inverse_ok (gt f q) p hp gf2.1 gf2.2
          obtain ⟨_, v1, v2⟩ := inv_ok hp (n := gt f q) (by omega) gf2.2
          have hby : byI p q f r = (p - gt r q) * invN (gt f q) p % p := rfl
          have hbr : 0 ≤ byI p q f r ∧ byI p q f r < p := ⟨Int.emod_nonneg _ hp0, Int.emod_lt_of_pos _ (by omega)⟩
          generalize byI p q f r = by' at hby hbr hs1
          generalize gt r q = x at gr gr2 hz hby
          generalize gt f q = y at gf gf2 c4 hby hf2 v1 v2
          generalize invN y p = vi at c4 v1 v2 hby
          have m1 : 0 ≤ (p - x) * vi := Int.mul_nonneg (by omega) (by omega)
          have m2 : (p - x) * vi ≤ 13 * 13 := Int.mul_le_mul (by omega) (by omega) (by omega) (by omega)
          have w1 : IntKind.i64.wrap (p - x) = p - x := wrap64 (by omega) (by omega)
          have w2 : IntKind.i64.wrap ((p - x) * vi) = (p - x) * vi := wrap64 (by omega) (by omega)
          have w3 : ((p - x) * vi).tmod p = by' := by rw [Int.tmod_eq_emod_of_nonneg m1, hby]
          refine S 60 _ _ ?_
          simp [hz]
          refine OpW.eqNil (t := 43) (e := 2) (b := true) (z := 1) (xs := ints f) rfl rfl (by decide) (by kernel_rfl) (by simp) fun c hc => ?_
          obtain rfl : c = false := by
            cases c with
            | false => rfl
            | true =>
              have e := hc rfl
              have e : f = [] := by simpa using e
              subst e; simp at hfl; omega
          refine S 60 _ _ ?_
          simp
          refine J.dr hF mixed 17 [[], [0], [], [], [2, 3], [2, 3, 4], [0, 1, 2, 3, 4, 5], [], [], [7, 8], [7, 8, 9], [], [11], [7, 8, 9, 10, 11, 12], [0, 1, 2, 3, 4, 5, 6, 7, 8, 9, 10, 11, 12, 13], [], [15], [0, 1, 2, 3, 4, 5, 6, 7, 8, 9, 10, 11, 12, 13, 14, 15, 16], [0, 1, 2, 3, 4, 5, 6, 7, 8, 9, 10, 11, 12, 13, 14, 15, 16, 17]] [[30, 31, 32, 33, 34, 35, 36, 37, 38, 39, 40, 41, 42, 43, 44, 45, 46], [31, 32, 33, 34, 35, 36, 37, 38, 39, 40, 41, 42, 43, 44, 45, 46], [30, 31, 32, 33, 34, 35, 36, 37, 38, 39, 40, 41, 42, 43, 44, 45, 46], [30, 31, 32, 33, 34, 35, 36, 37, 38, 39, 40, 41, 42, 43, 44, 45, 46], [30, 31, 34, 35, 36, 37, 38, 39, 40, 41, 42, 43, 44, 45, 46], [30, 31, 35, 36, 37, 38, 39, 40, 41, 42, 43, 44, 45, 46], [36, 37, 38, 39, 40, 41, 42, 43, 44, 45, 46], [30, 31, 32, 33, 34, 35, 36, 37, 38, 39, 40, 41, 42, 43, 44, 45, 46], [30, 31, 32, 33, 34, 35, 36, 37, 38, 39, 40, 41, 42, 43, 44, 45, 46], [30, 31, 32, 33, 34, 35, 36, 39, 40, 41, 42, 43, 44, 45, 46], [30, 31, 32, 33, 34, 35, 36, 40, 41, 42, 43, 44, 45, 46], [30, 31, 32, 33, 34, 35, 36, 37, 38, 39, 40, 41, 42, 43, 44, 45, 46], [30, 31, 32, 33, 34, 35, 36, 37, 38, 39, 40, 42, 43, 44, 45, 46], [30, 31, 32, 33, 34, 35, 36, 43, 44, 45, 46], [44, 45, 46], [30, 31, 32, 33, 34, 35, 36, 37, 38, 39, 40, 41, 42, 43, 44, 45, 46], [30, 31, 32, 33, 34, 35, 36, 37, 38, 39, 40, 41, 42, 43, 44, 46]] (by decide) ?_
          rw [← List.take_append_drop 5 (List.take _ _)]
          generalize htl : List.drop 5 (List.take _ _) = tl
          simp
          refine ⟨by omega, fun x' hx => ?_⟩
          obtain rfl : x = x' := Option.some.inj (gr.symm.trans hx)
          subst htl
          rw [← List.take_append_drop 5 (List.drop 5 _)]
          generalize htl : List.drop 5 (List.drop 5 _) = tl
          simp [w1]
          refine ⟨by omega, fun y' hy => ?_⟩
          obtain rfl : y = y' := Option.some.inj (gf.symm.trans hy)
          subst htl
          simp
          refine DrC.ok hF (by rfl) (by simp) c4 (by simp) (by simp) ?_
          simp [w2]
          refine S 60 _ _ ?_
          simp [w3, hp0]
          refine CallW.ok (by decide) (by simp) c2 (by simp) (S 60 _ _ ?_)
          simp
          have hal2 := addR_length (p := p) (c := by') (show f.length = r.length by omega)
          have hat := fun j (h : j < r.length) => addR_take (p := p) (row := r) (r := f) (c := by') (i := j) h (by omega)
          generalize hadd : addR p r f by' = ad at hs1 hal2 hat
          refine J.loop hw (fun j : Nat => ⟨[(1, .c (.d (i64 q))), (2, .c (.ref 64002 0)), (4, .c (.ref 64004 0)), (7, .c (.ob 64007)), (8, .c (.d (vInts f))), (11, .c (.d (i64 by'))), (12, .c (.ob 64012)), (24, .c (.d (vIntss rows))), (25, .c (.d (i64 rows.length))), (26, .c (.d (i64 k))), (50, .c (.d (vInts f))), (51, .c (.d (i64 f.length))), (52, .c (.d (i64 j)))],
              [(64002, .var [.d (i64 p), .d (i64 n), .d (vIntss rows)]), (64004, .var [.d (i64 0), .d (i64 0), .ob 64024]), (64024, .arr 43 1 []), (64007, .arr 43 1 (acc.map fun xs => [oInts xs])), (64012, .arr 2 1 (ints (ad.take j ++ r.drop j)))]⟩)
            (fun j => j ≤ f.length) (fun j => f.length - j) 0 (by simp) (by simp) ?_
          intro j hj
          have hdl : (ad.take j).length = j := by rw [List.length_take]; omega
          have hat2 := hat j
          have hcend : j = f.length → ad.take j ++ r.drop j = ad := fun e => by rw [List.take_of_length_le (by omega), List.drop_of_length_le (by omega), List.append_nil]
          generalize hcr : ad.take j ++ r.drop j = cur at hcend ⊢
          have hcl : cur.length = r.length := by rw [← hcr]; simp; omega
          refine S 8 _ _ ?_
          simp
          refine ⟨fun hlt1 => ?_, fun hge1 => ?_⟩
          · have g1' := gt_get (r := r) (i := j) (by omega)
            have g2' := gt_get (r := f) (i := j) (by omega)
            have q1 := gt_range (by omega) hrow j
            have q2 := gt_range (by omega) hfrow j
            have hat3 := hat2 (by omega)
            generalize gt r j = u at g1' q1 hat3
            generalize gt f j = v at g2' q2 hat3
            have n1 : 0 ≤ by' * v := Int.mul_nonneg hbr.1 q2.1
            have n2 : by' * v ≤ 13 * 13 := Int.mul_le_mul (by omega) (by omega) (by omega) (by omega)
            have u1 : IntKind.i64.wrap (by' * v) = by' * v := wrap64 (by omega) (by omega)
            have u2 : IntKind.i64.wrap (u + by' * v) = u + by' * v := wrap64 (by omega) (by omega)
            have u3 : (u + by' * v).tmod p = (u + by' * v) % p := Int.tmod_eq_emod_of_nonneg (by omega)
            have gc : cur[j]? = some u := by
              rw [← hcr, List.getElem?_append_right (by omega), hdl, Nat.sub_self, List.getElem?_drop]; simpa using g1'
            have hs : cur.set j ((u + by' * v) % p) = ad.take (j + 1) ++ r.drop (j + 1) := by
              rw [← hcr, List.set_append, if_neg (by omega), hdl, Nat.sub_self, hat3, drop_cons g1']
              simp
            refine S 9 _ _ ?_
            simp
            refine ⟨hlt1, fun v' hv => ?_⟩
            obtain rfl : v = v' := Option.some.inj (g2'.symm.trans hv)
            refine S 60 _ _ ?_
            simp
            refine J.dr hF mixed 13 [[], [], [], [], [2, 3], [2, 3, 4], [], [], [6, 7], [2, 3, 4, 5, 6, 7, 8], [], [10], [2, 3, 4, 5, 6, 7, 8, 9, 10, 11], [0, 1, 2, 3, 4, 5, 6, 7, 8, 9, 10, 11, 12], [0, 1, 2, 3, 4, 5, 6, 7, 8, 9, 10, 11, 12, 13]] [[57, 58, 59, 60, 61, 62, 63, 64, 65, 66, 67, 68, 69], [57, 58, 59, 60, 61, 62, 63, 64, 65, 66, 67, 68, 69], [57, 58, 59, 60, 61, 62, 63, 64, 65, 66, 67, 68, 69], [57, 58, 59, 60, 61, 62, 63, 64, 65, 66, 67, 68, 69], [57, 58, 61, 62, 63, 64, 65, 66, 67, 68, 69], [57, 58, 62, 63, 64, 65, 66, 67, 68, 69], [57, 58, 59, 60, 61, 62, 63, 64, 65, 66, 67, 68, 69], [57, 58, 59, 60, 61, 62, 63, 64, 65, 66, 67, 68, 69], [57, 58, 59, 60, 61, 62, 65, 66, 67, 68, 69], [57, 58, 66, 67, 68, 69], [57, 58, 59, 60, 61, 62, 63, 64, 65, 66, 67, 68, 69], [57, 58, 59, 60, 61, 62, 63, 64, 65, 66, 68, 69], [57, 58, 69]] (by decide) ?_
            simp
            refine ⟨by omega, fun u' hu => ?_⟩
            obtain rfl : u = u' := Option.some.inj (gc.symm.trans hu)
            refine ⟨hp0, S 60 _ _ ?_⟩
            simp [u1, u2, u3]
            have hs2' : List.take (j + 1) (List.map (fun i => [D.v (Value.int IntKind.i64 i)]) ad) ++ List.drop (j + 1) (List.map (fun i => [D.v (Value.int IntKind.i64 i)]) r) = (ints cur).set j [i64 ((u + by' * v) % p)] := by
              rw [← List.map_take, ← List.map_drop, ← List.map_append, ← hs, List.map_set]
            exact ⟨by omega, Nxt.mk (j + 1) hlt1 (by simp [wrapS (i := j) (n := f.length) hlt1 (by omega), hs2']) (by omega)⟩
          · have e := hcend (by omega)
            subst e
            refine S 60 _ _ ?_
            simp
            refine BsW.move hF (e := 43) (es := [[oInts cur]]) (ks := [64012]) (by decide) rfl rfl rfl (by simp) (by simp) rfl (by decide) (by decide) (by simp) ?_
            refine S 60 _ _ ?_
            simp
            exact ⟨⟨by omega, by omega⟩, Nxt.mk (k + 1) hlt (by simp [wrapS (i := k) (n := rows.length) hlt (by omega), hs1, hs2]) (by omega)⟩
    · have e := hend hge
      obtain ⟨k1, k2, -⟩ := sh_same hp hq g4
      have c2 := without_ok n q acc (by omega) (by omega) hq (fun r hr => by rw [e] at hr; exact (shI_mem hp hq g4 (fun f e => by cases e) r hr).1.1)
      have c3 := code_ok p ((n : Int) - 1) (acc.map (cutR q)) (goodRows_of (n := n - 1) hp (by omega) (by omega) (by omega) (by rw [e]; exact k2)) (by simp; omega)
      rw [← e] at S ⊢
      refine S 60 _ _ ?_
      simp
      refine J.dr hF mixed 8 [[], [0], [], [2], [2, 3], [], [], [5, 6], [0, 1, 2, 3, 4, 5, 6, 7], [0, 1, 2, 3, 4, 5, 6, 7, 8], [0, 1, 2, 3, 4, 5, 6, 7, 8, 9]] [[92, 93, 94, 95, 96, 97, 98, 99], [93, 94, 95, 96, 97, 98, 99], [92, 93, 94, 95, 96, 97, 98, 99], [92, 93, 95, 96, 97, 98, 99], [92, 93, 96, 97, 98, 99], [92, 93, 94, 95, 96, 97, 98, 99], [92, 93, 94, 95, 96, 97, 98, 99], [92, 93, 94, 95, 96, 99]] (by decide) ?_
      simp [hwl]
      refine DrC.ok hF (by rfl) (by simp) c2 (by simp) (by simp) ?_
      simp
      refine S 60 _ _ ?_
      simp
      refine CallW.ok (by decide) (by simp) c3 (by simp) (S 60 _ _ ?_)
      simp
  · have e : shoR p l rows i = ((0, 0, []), placeN p l rows i) := by unfold shoR; rw [if_neg h]
    rw [e] at S ⊢
    generalize placeN p l rows i = n at h hR c1 S ⊢
    simp
    refine CallW.ok (by decide) (by simp) c1 (by simp) (S 60 _ _ ?_)
    simp [h]

end Go.Sm

namespace Go.Sm
open Go.RowKit

theorem comb_take : ∀ {rows : List (List Int)} {m : Nat} {r : List Int} {c : Nat → Int} {k : Nat}, rows[m]? = some r → comb (rows.take (m + 1)) c k = comb (rows.take m) c k + c m * gt r k
  | [], _, _, _, _, h => by simp at h
  | q :: rows, 0, r, c, k, h => by simp at h; subst h; simp [comb]
  | q :: rows, m + 1, r, c, k, h => by
    have := comb_take (rows := rows) (m := m) (r := r) (c := fun j => c (j + 1)) (k := k) (by simpa using h)
    simp only [List.take_succ_cons, comb]
    rw [this]; omega

/-- A word in the making. -/
def wordM (p : Int) (n : Nat) (rows : List (List Int)) (c : List Int) (m : Nat) : List Int := (List.range n).map fun k => comb (rows.take m) (gt c) k % p
theorem wordM_length (p : Int) (n : Nat) (rows : List (List Int)) (c : List Int) (m : Nat) : (wordM p n rows c m).length = n := by simp [wordM]
theorem wordM_zero (p : Int) (n : Nat) (rows : List (List Int)) (c : List Int) : wordM p n rows c 0 = List.replicate n 0 := by
  apply List.ext_getElem
  · simp [wordM]
  · intro i h1 h2; simp [wordM, comb]
theorem wordM_end (p : Int) (n : Nat) (rows : List (List Int)) (c : List Int) {m : Nat} (h : rows.length ≤ m) : wordM p n rows c m = wordR p n rows c := by
  unfold wordM wordR; rw [List.take_of_length_le h]
theorem wordM_get {p : Int} {n : Nat} {rows : List (List Int)} {c : List Int} {m j : Nat} (h : j < n) : (wordM p n rows c m)[j]? = some (comb (rows.take m) (gt c) j % p) := by
  simp [wordM, h]
theorem wordM_take {p : Int} {n : Nat} {rows : List (List Int)} {c : List Int} {m j : Nat} (h : j < n) : (wordM p n rows c m).take (j + 1) = (wordM p n rows c m).take j ++ [comb (rows.take m) (gt c) j % p] := by
  rw [List.take_add_one, wordM_get h]; rfl
theorem word_step {p a c x : Int} (h0 : 0 ≤ a % p + c * x) : (a % p + c * x).tmod p = (a + c * x) % p := by
  rw [Int.tmod_eq_emod_of_nonneg h0, Int.emod_add_emod]

theorem locEs_own (L : List (List Int)) : locEs (L.map fun xs => [oInts xs]) = L.map fun xs => [D.vw false 1 (ints xs)] := by
  rw [locEs_map]; simp [locCs, D.loc]

set_option maxHeartbeats 2000000 in
theorem l10CutT_ok (p : Int) (n i : Nat) (rows : List (List Int)) (hp : Pr p) (hn : n ≤ 10) (hl : rows.length ≤ 10) (hr : ∀ r ∈ rows, RowOk p n r) (hi : i < n) (h2 : 2 ≤ n) : CallOK Go.Proofs.Tryz.prog 114 [vCode p n rows, .one (i64 i), .one (bo true)] (oCode p ((n : Int) - 1) (echL p ((shS p n i rows).map (cutR i)))) := by
  have hF := fnOk 130 [.cell 6 26]
  refine callOK hF 60 Go.Proofs.Tryz.func114 rfl rfl rfl (by decide) (by simp) rfl ?_
  intro w0 hw
  have S := @vc_sound w0 _ hF ⟨(oCode p ((n : Int) - 1) (echL p ((shS p n i rows).map (cutR i)))), []⟩ Go.Proofs.Tryz.f114 rfl (by simp)
  have hpp := prPos hp
  have hwl : IntKind.i64.wrap ((n : Int) - 1) = (n : Int) - 1 := wrap64 (by omega) (by omega)
  simp
  refine J.loop hw (fun k : Nat => ⟨[(1, .c (.d (i64 i))), (3, .c (.ref 64003 0)), (6, .c (.ref 64006 0)), (7, .c (.d (vIntss rows))), (8, .c (.ob 64008)), (9, .c (.ob 64009)), (10, .c (.d (i64 k)))],
      [(64003, .var [.d (i64 p), .d (i64 n), .d (vIntss rows)]), (64006, .var [.d (i64 0), .d (i64 0), .ob 64007]), (64007, .arr 43 1 []), (64008, .arr 43 1 ((onesR i (rows.take k)).map fun xs => [oInts xs])), (64009, .arr 43 1 [])]⟩)
    (fun k => k ≤ rows.length) (fun k => rows.length - k) 0 (by simp) (by simp [onesR]) ?_
  intro k hk
  have hal : (onesR i (rows.take k)).length = k := by rw [onesR_length, List.length_take]; omega
  have hst := fun r (h : rows[k]? = some r) => (show onesR i (rows.take (k + 1)) = onesR i (rows.take k) ++ [[gt r i]] by unfold onesR; rw [List.take_add_one, h]; simp)
  have hen : rows.length ≤ k → onesR i (rows.take k) = onesR i rows := fun h => by rw [List.take_of_length_le h]
  generalize onesR i (rows.take k) = acc at hal hst hen
  refine S 12 _ _ ?_
  simp
  refine ⟨fun hlt => ?_, fun hge => ?_⟩
  · obtain ⟨r, hr'⟩ : ∃ r, rows[k]? = some r := ⟨rows[k], List.getElem?_eq_getElem hlt⟩
    have hrow := hr r (List.mem_of_getElem? hr')
    have hrl := hrow.1
    have hst := hst r hr'
    have gr := gt_get (r := r) (i := i) (by omega)
    generalize gt r i = x at gr hst
    refine S 8 _ _ ?_
    simp
    refine ⟨hlt, fun r' hr'' => ?_⟩
    obtain rfl : r = r' := Option.some.inj (hr'.symm.trans hr'')
    refine ⟨by omega, fun x' hx => ?_⟩
    obtain rfl : x = x' := Option.some.inj (gr.symm.trans hx)
    refine S 60 _ _ ?_
    simp
    refine BsW.move hF (e := 43) (es := [[oInts [x]]]) (ks := [2368]) (by decide) rfl rfl rfl (by simp) (by simp) rfl (by decide) (by decide) (by simp) ?_
    refine S 60 _ _ ?_
    simp [hal]
    have hst2 : List.map (fun xs => [oInts xs]) (onesR i (List.take (k + 1) rows)) = acc.map (fun xs => [oInts xs]) ++ [[oInts [x]]] := by rw [hst]; simp
    exact ⟨⟨by omega, by omega⟩, Nxt.mk (k + 1) hlt (by simp [wrapS (i := k) (n := rows.length) hlt (by omega), hst2]) (by omega)⟩
  · obtain rfl := hen hge
    have c1 := l01Kernel_ok p 1 (onesR i rows) hp (by omega) (by rw [onesR_length]; omega) (onesR_row (n := n) (by omega) hr)
    rw [onesR_length] at c1
    have hkr := (ker_same hp (onesR_row (i := i) (n := n) (by omega) hr)).2.2
    rw [onesR_length] at hkr
    have hkl : (kerS p 1 (onesR i rows)).length ≤ 10 := by
      have h1 := kerP_length 1 (echL p (longs (onesR i rows).length 0 (onesR i rows)))
      have h2 := (ech_facts hp (longs_row (p := p) (m := (onesR i rows).length) (i := 0) hpp.1 (onesR_row (n := n) (i := i) (by omega) hr))).1
      rw [longs_length, onesR_length] at h2
      unfold kerP at h1
      unfold kerS
      rw [onesR_length] at h1 ⊢
      omega
    have hsh := (sh_same hp hi hr).2.2
    have c9 := l10Of_ok p ((n : Int) - 1) ((shS p n i rows).map (cutR i)) (goodRows_of (n := n - 1) hp (by omega) (by omega) (by omega) hsh) (by unfold shS; simp; omega)
    have hmade : ∀ r ∈ shS p n i rows, r.length = n := fun r h => (shS_mem hp hi hr r h).1.1
    have hmdl : (shS p n i rows).length ≤ 10 := by unfold shS; rw [List.length_map]; exact hkl
    have hsS : shS p n i rows = (kerS p 1 (onesR i rows)).map (wordR p n rows) := rfl
    generalize shS p n i rows = made at c9 hmade hmdl hsS S ⊢
    generalize echL p (made.map (cutR i)) = E at c9 S ⊢
    generalize kerS p 1 (onesR i rows) = ker at c1 hkr hkl hsS
    clear hal hst
    refine S 60 _ _ ?_
    simp
    refine CallW.ok (by decide) (by simp) c1 (by simp) (S 3 _ _ ?_)
    simp
    refine J.freeze (d := 11) (K := 2880) (e := 43) (z := 1) (xs := ker.map fun xs => [oInts xs]) (by simp) (by simp) ?_
    rw [locEs_own]
    refine S 60 _ _ ?_
    simp
    refine J.loop hw (fun k : Nat => ⟨[(1, .c (.d (i64 i))), (3, .c (.ref 64003 0)), (6, .c (.ref 64006 0)), (7, .c (.d (vIntss rows))), (9, .c (.ob 64009)), (11, .c (.d (.vw false 1 (ker.map fun xs => [.vw false 1 (ints xs)])))), (12, .c (.d (i64 k)))],
        [(64003, .var [.d (i64 p), .d (i64 n), .d (vIntss rows)]), (64006, .var [.d (i64 0), .d (i64 0), .ob 64007]), (64007, .arr 43 1 []), (64009, .arr 43 1 (((ker.take k).map (wordR p n rows)).map fun xs => [oInts xs]))]⟩)
      (fun k => k ≤ ker.length) (fun k => ker.length - k) 0 (by simp) (by simp) ?_
    intro k hk
    have hal : ((ker.take k).map (wordR p n rows)).length = k := by simp; omega
    have hst := fun c (h : ker[k]? = some c) => (show (ker.take (k + 1)).map (wordR p n rows) = (ker.take k).map (wordR p n rows) ++ [wordR p n rows c] by rw [List.take_add_one, h]; simp)
    have hen : ker.length ≤ k → (ker.take k).map (wordR p n rows) = made := fun h => by rw [List.take_of_length_le h, hsS]
    generalize (ker.take k).map (wordR p n rows) = acc at hal hst hen
    refine S 12 _ _ ?_
    simp
    refine ⟨fun hlt => ?_, fun hge => ?_⟩
    · obtain ⟨c, hc⟩ : ∃ c, ker[k]? = some c := ⟨ker[k], List.getElem?_eq_getElem hlt⟩
      have hcrow := hkr c (List.mem_of_getElem? hc)
      have hcl := hcrow.1
      have hst := hst c hc
      refine S 60 _ _ ?_
      simp
      refine ⟨⟨by omega, by omega⟩, ?_⟩
      refine J.loop hw (fun m : Nat => ⟨[(1, .c (.d (i64 i))), (3, .c (.ref 64003 0)), (6, .c (.ref 64006 0)), (7, .c (.d (vIntss rows))), (9, .c (.ob 64009)), (11, .c (.d (.vw false 1 (ker.map fun xs => [.vw false 1 (ints xs)])))), (12, .c (.d (i64 k))), (13, .c (.ob 64013)), (14, .c (.d (i64 m)))],
          [(64003, .var [.d (i64 p), .d (i64 n), .d (vIntss rows)]), (64006, .var [.d (i64 0), .d (i64 0), .ob 64007]), (64007, .arr 43 1 []), (64009, .arr 43 1 (acc.map fun xs => [oInts xs])), (64013, .arr 2 1 (ints (wordM p n rows c m)))]⟩)
        (fun m => m ≤ rows.length) (fun m => rows.length - m) 0 (by simp) (by simp [wordM_zero]) ?_
      intro m hm
      refine S 12 _ _ ?_
      simp
      refine ⟨fun hlt1 => ?_, fun hge1 => ?_⟩
      · obtain ⟨r, hr'⟩ : ∃ r, rows[m]? = some r := ⟨rows[m], List.getElem?_eq_getElem hlt1⟩
        have hrow := hr r (List.mem_of_getElem? hr')
        have hrl := hrow.1
        refine S 60 _ _ ?_
        simp
        refine J.loop hw (fun j : Nat => ⟨[(1, .c (.d (i64 i))), (3, .c (.ref 64003 0)), (6, .c (.ref 64006 0)), (7, .c (.d (vIntss rows))), (9, .c (.ob 64009)), (11, .c (.d (.vw false 1 (ker.map fun xs => [.vw false 1 (ints xs)])))), (12, .c (.d (i64 k))), (13, .c (.ob 64013)), (14, .c (.d (i64 m))), (15, .c (.d (i64 j)))],
            [(64003, .var [.d (i64 p), .d (i64 n), .d (vIntss rows)]), (64006, .var [.d (i64 0), .d (i64 0), .ob 64007]), (64007, .arr 43 1 []), (64009, .arr 43 1 (acc.map fun xs => [oInts xs])), (64013, .arr 2 1 (ints ((wordM p n rows c (m + 1)).take j ++ (wordM p n rows c m).drop j)))]⟩)
          (fun j => j ≤ n) (fun j => n - j) 0 (by simp) (by simp) ?_
        intro j hj
        have hdl : ((wordM p n rows c (m + 1)).take j).length = j := by rw [List.length_take, wordM_length]; omega
        have hwm := wordM_length p n rows c m
        have hwn := wordM_length p n rows c (m + 1)
        generalize hcr : (wordM p n rows c (m + 1)).take j ++ (wordM p n rows c m).drop j = cur
        have hcul : cur.length = n := by rw [← hcr]; simp; omega
        refine S 12 _ _ ?_
        simp
        refine ⟨fun hlt2 => ?_, fun hge2 => ?_⟩
        · have gm := wordM_get (p := p) (n := n) (rows := rows) (c := c) (m := m) hlt2
          have gc : cur[j]? = some (comb (rows.take m) (gt c) j % p) := by
            rw [← hcr, List.getElem?_append_right (by omega), hdl, Nat.sub_self, List.getElem?_drop]; simpa using gm
          have gr := gt_get (r := r) (i := j) (by omega)
          have gk := gt_get (r := c) (i := m) (by omega)
          have qr := gt_range (by omega) hrow j
          have qk := gt_range (by omega) hcrow m
          have hs : cur.set j (comb (rows.take (m + 1)) (gt c) j % p) = (wordM p n rows c (m + 1)).take (j + 1) ++ (wordM p n rows c m).drop (j + 1) := by
            rw [← hcr, List.set_append, if_neg (by omega), hdl, Nat.sub_self, wordM_take hlt2, drop_cons gm]
            simp
          have hcm := comb_take (c := gt c) (k := j) hr'
          rw [hcm] at hs
          have qm : 0 ≤ comb (rows.take m) (gt c) j % p ∧ comb (rows.take m) (gt c) j % p < p := ⟨Int.emod_nonneg _ (by omega), Int.emod_lt_of_pos _ (by omega)⟩
          have hws := fun h => word_step (p := p) (a := comb (rows.take m) (gt c) j) (c := gt c m) (x := gt r j) h
          generalize comb (rows.take m) (gt c) j = a at gc hs qm hws
          generalize hx0 : a % p = a' at gc qm hws
          generalize gt r j = x at gr qr hs hws
          generalize gt c m = y at gk qk hs hws
          have n1 : 0 ≤ y * x := Int.mul_nonneg qk.1 qr.1
          have n2 : y * x ≤ 13 * 13 := Int.mul_le_mul (by omega) (by omega) (by omega) (by omega)
          have u1 : IntKind.i64.wrap (y * x) = y * x := wrap64 (by omega) (by omega)
          have u2 : IntKind.i64.wrap (a' + y * x) = a' + y * x := wrap64 (by omega) (by omega)
          have u3 := hws (by omega)
          have hp0 : p ≠ 0 := by omega
          refine S 60 _ _ ?_
          simp
          refine J.dr hF mixed 25 [[], [], [], [], [2, 3], [2, 3, 4], [], [], [6, 7], [6, 7, 8], [], [6, 7, 8, 9, 10], [6, 7, 8, 9, 10, 11], [], [], [13, 14], [13, 14, 15], [], [13, 14, 15, 16, 17], [13, 14, 15, 16, 17, 18], [6, 7, 8, 9, 10, 11, 12, 13, 14, 15, 16, 17, 18, 19], [2, 3, 4, 5, 6, 7, 8, 9, 10, 11, 12, 13, 14, 15, 16, 17, 18, 19, 20], [], [22], [2, 3, 4, 5, 6, 7, 8, 9, 10, 11, 12, 13, 14, 15, 16, 17, 18, 19, 20, 21, 22, 23], [0, 1, 2, 3, 4, 5, 6, 7, 8, 9, 10, 11, 12, 13, 14, 15, 16, 17, 18, 19, 20, 21, 22, 23, 24], [0, 1, 2, 3, 4, 5, 6, 7, 8, 9, 10, 11, 12, 13, 14, 15, 16, 17, 18, 19, 20, 21, 22, 23, 24, 25]] [[67, 68, 69, 70, 71, 72, 73, 74, 75, 76, 77, 78, 79, 80, 81, 82, 83, 84, 85, 86, 87, 88, 89, 90, 91], [67, 68, 69, 70, 71, 72, 73, 74, 75, 76, 77, 78, 79, 80, 81, 82, 83, 84, 85, 86, 87, 88, 89, 90, 91], [67, 68, 69, 70, 71, 72, 73, 74, 75, 76, 77, 78, 79, 80, 81, 82, 83, 84, 85, 86, 87, 88, 89, 90, 91], [67, 68, 69, 70, 71, 72, 73, 74, 75, 76, 77, 78, 79, 80, 81, 82, 83, 84, 85, 86, 87, 88, 89, 90, 91], [67, 68, 71, 72, 73, 74, 75, 76, 77, 78, 79, 80, 81, 82, 83, 84, 85, 86, 87, 88, 89, 90, 91], [67, 68, 72, 73, 74, 75, 76, 77, 78, 79, 80, 81, 82, 83, 84, 85, 86, 87, 88, 89, 90, 91], [67, 68, 69, 70, 71, 72, 73, 74, 75, 76, 77, 78, 79, 80, 81, 82, 83, 84, 85, 86, 87, 88, 89, 90, 91], [67, 68, 69, 70, 71, 72, 73, 74, 75, 76, 77, 78, 79, 80, 81, 82, 83, 84, 85, 86, 87, 88, 89, 90, 91], [67, 68, 69, 70, 71, 72, 75, 76, 77, 78, 79, 80, 81, 82, 83, 84, 85, 86, 87, 88, 89, 90, 91], [67, 68, 69, 70, 71, 72, 76, 77, 78, 79, 80, 81, 82, 83, 84, 85, 86, 87, 88, 89, 90, 91], [67, 68, 69, 70, 71, 72, 73, 74, 75, 76, 77, 78, 79, 80, 81, 82, 83, 84, 85, 86, 87, 88, 89, 90, 91], [67, 68, 69, 70, 71, 72, 78, 79, 80, 81, 82, 83, 84, 85, 86, 87, 88, 89, 90, 91], [67, 68, 69, 70, 71, 72, 79, 80, 81, 82, 83, 84, 85, 86, 87, 88, 89, 90, 91], [67, 68, 69, 70, 71, 72, 73, 74, 75, 76, 77, 78, 79, 80, 81, 82, 83, 84, 85, 86, 87, 88, 89, 90, 91], [67, 68, 69, 70, 71, 72, 73, 74, 75, 76, 77, 78, 79, 80, 81, 82, 83, 84, 85, 86, 87, 88, 89, 90, 91], [67, 68, 69, 70, 71, 72, 73, 74, 75, 76, 77, 78, 79, 82, 83, 84, 85, 86, 87, 88, 89, 90, 91], [67, 68, 69, 70, 71, 72, 73, 74, 75, 76, 77, 78, 79, 83, 84, 85, 86, 87, 88, 89, 90, 91], [67, 68, 69, 70, 71, 72, 73, 74, 75, 76, 77, 78, 79, 80, 81, 82, 83, 84, 85, 86, 87, 88, 89, 90, 91], [67, 68, 69, 70, 71, 72, 73, 74, 75, 76, 77, 78, 79, 85, 86, 87, 88, 89, 90, 91], [67, 68, 69, 70, 71, 72, 73, 74, 75, 76, 77, 78, 79, 86, 87, 88, 89, 90, 91], [67, 68, 69, 70, 71, 72, 87, 88, 89, 90, 91], [67, 68, 88, 89, 90, 91], [67, 68, 69, 70, 71, 72, 73, 74, 75, 76, 77, 78, 79, 80, 81, 82, 83, 84, 85, 86, 87, 88, 89, 90, 91], [67, 68, 69, 70, 71, 72, 73, 74, 75, 76, 77, 78, 79, 80, 81, 82, 83, 84, 85, 86, 87, 88, 90, 91], [67, 68, 91]] (by decide) ?_
          rw [← List.take_append_drop 6 (List.take _ _)]
          generalize htl : List.drop 6 (List.take _ _) = tl
          simp
          refine ⟨by omega, fun a2 ha2 => ?_⟩
          obtain rfl : a' = a2 := Option.some.inj (gc.symm.trans ha2)
          subst htl
          rw [← List.take_append_drop 3 (List.drop 6 _)]
          generalize htl : List.drop 3 (List.drop 6 _) = tl
          simp
          refine ⟨hlt, fun c2 hc2 => ?_⟩
          obtain rfl : c = c2 := Option.some.inj (hc.symm.trans hc2)
          subst htl
          rw [← List.take_append_drop 3 (List.drop 3 _)]
          generalize htl : List.drop 3 (List.drop 3 _) = tl
          simp
          refine ⟨by omega, fun y2 hy2 => ?_⟩
          obtain rfl : y = y2 := Option.some.inj (gk.symm.trans hy2)
          subst htl
          rw [← List.take_append_drop 4 (List.drop 3 (List.drop 3 _))]
          generalize htl : List.drop 4 (List.drop 3 (List.drop 3 _)) = tl
          simp
          refine ⟨hlt1, fun r2 hr2 => ?_⟩
          obtain rfl : r = r2 := Option.some.inj (hr'.symm.trans hr2)
          subst htl
          rw [← List.take_append_drop 3 (List.drop 4 _)]
          generalize htl : List.drop 3 (List.drop 4 _) = tl
          simp
          refine ⟨by omega, fun x2 hx2 => ?_⟩
          obtain rfl : x = x2 := Option.some.inj (gr.symm.trans hx2)
          subst htl
          simp [u1, u2, u3, hp0]
          have hs2 : List.take (j + 1) (List.map (fun i => [D.v (Value.int IntKind.i64 i)]) (wordM p n rows c (m + 1))) ++ List.drop (j + 1) (List.map (fun i => [D.v (Value.int IntKind.i64 i)]) (wordM p n rows c m)) = (ints cur).set j [i64 ((a + y * x) % p)] := by
            rw [← List.map_take, ← List.map_drop, ← List.map_append, ← hs, List.map_set]
          refine S 60 _ _ ?_
          simp
          exact ⟨by omega, Nxt.mk (j + 1) hlt2 (by simp [wrapS (i := j) (n := n) hlt2 (by omega), hs2]) (by omega)⟩
        · have e : cur = wordM p n rows c (m + 1) := by
            have hin : j = n := by omega
            rw [← hcr, hin, List.drop_of_length_le (by omega), List.append_nil, List.take_of_length_le (by omega)]
          subst e
          refine S 60 _ _ ?_
          simp
          exact Nxt.mk (m + 1) hlt1 (by simp [wrapS (i := m) (n := rows.length) hlt1 (by omega)]) (by omega)
      · have e := wordM_end p n rows c hge1
        rw [e]
        generalize wordR p n rows c = wd at hst
        refine S 60 _ _ ?_
        simp
        refine BsW.move hF (e := 43) (es := [[oInts wd]]) (ks := [64013]) (by decide) rfl rfl rfl (by simp) (by simp) rfl (by decide) (by decide) (by simp) ?_
        refine S 60 _ _ ?_
        simp [hal]
        have hst2 : List.take (k + 1) (List.map ((fun xs => [oInts xs]) ∘ wordR p n rows) ker) = acc.map (fun xs => [oInts xs]) ++ [[oInts wd]] := by
          rw [← List.map_take, ← List.map_map, hst]; simp
        exact ⟨⟨by omega, by omega⟩, Nxt.mk (k + 1) hlt (by simp [wrapS (i := k) (n := ker.length) hlt (by omega), hst2]) (by omega)⟩
    · obtain rfl := hen hge
      refine S 2 _ _ ?_
      simp
      refine J.freeze (d := 7) (K := 64009) (e := 43) (z := 1) (xs := acc.map fun xs => [oInts xs]) (by simp) (by simp) ?_
      rw [locEs_own]
      refine S 60 _ _ ?_
      simp
      refine J.loop hw (fun k : Nat => ⟨[(1, .c (.d (i64 i))), (3, .c (.ref 64003 0)), (6, .c (.ref 64006 0)), (7, .c (.d (.vw false 1 (acc.map fun xs => [.vw false 1 (ints xs)])))), (16, .c (.ob 64016)), (17, .c (.d (i64 k)))],
          [(64003, .var [.d (i64 p), .d (i64 n), .d (vIntss rows)]), (64006, .var [.d (i64 0), .d (i64 0), .ob 64007]), (64007, .arr 43 1 []), (64016, .arr 43 1 (((acc.take k).map (cutR i)).map fun xs => [oInts xs]))]⟩)
        (fun k => k ≤ acc.length) (fun k => acc.length - k) 0 (by simp) (by simp) ?_
      intro k hk
      have hal : ((acc.take k).map (cutR i)).length = k := by simp; omega
      have hst := fun r (h : acc[k]? = some r) => (show (acc.take (k + 1)).map (cutR i) = (acc.take k).map (cutR i) ++ [cutR i r] by rw [List.take_add_one, h]; simp)
      have hen2 : acc.length ≤ k → (acc.take k).map (cutR i) = acc.map (cutR i) := fun h => by rw [List.take_of_length_le h]
      generalize (acc.take k).map (cutR i) = bcc at hal hst hen2
      refine S 12 _ _ ?_
      simp
      refine ⟨fun hlt => ?_, fun hge => ?_⟩
      · obtain ⟨r, hr'⟩ : ∃ r, acc[k]? = some r := ⟨acc[k], List.getElem?_eq_getElem hlt⟩
        have hrl := hmade r (List.mem_of_getElem? hr')
        have hst := hst r hr'
        have c1 := l01Own_ok (r.take i) (by simp; omega)
        have hwi : IntKind.i64.wrap ((i : Int) + 1) = ((i + 1 : Nat) : Int) := by rw [wrap64] <;> omega
        have a1 : argEs (List.take i (ints r)) = ints (r.take i) := by rw [argEs_takeN]; simp
        have a3 : okNo (List.drop (i + 1) (List.map (fun i => [D.v (Value.int IntKind.i64 i)]) r)) = true := okNo_dropN _ _ (by simp)
        refine S 60 _ _ ?_
        simp
        refine J.dr3 hF mixed 17 [[], [], [], [1, 2], [1, 2, 3], [], [1, 2, 3, 4, 5], [1, 2, 3, 4, 5, 6], [], [], [8, 9], [8, 9, 10], [], [12], [8, 9, 10, 11, 12, 13], [1, 2, 3, 4, 5, 6, 7, 8, 9, 10, 11, 12, 13, 14], [1, 2, 3, 4, 5, 6, 7, 8, 9, 10, 11, 12, 13, 14, 15], [0, 1, 2, 3, 4, 5, 6, 7, 8, 9, 10, 11, 12, 13, 14, 15, 16], [0, 1, 2, 3, 4, 5, 6, 7, 8, 9, 10, 11, 12, 13, 14, 15, 16, 17]] [[105, 106, 107, 108, 109, 110, 111, 112, 113, 114, 115, 116, 117, 118, 119, 120, 121], [105, 106, 107, 108, 109, 110, 111, 112, 113, 114, 115, 116, 117, 118, 119, 120, 121], [105, 106, 107, 108, 109, 110, 111, 112, 113, 114, 115, 116, 117, 118, 119, 120, 121], [105, 108, 109, 110, 111, 112, 113, 114, 115, 116, 117, 118, 119, 120, 121], [105, 109, 110, 111, 112, 113, 114, 115, 116, 117, 118, 119, 120, 121], [105, 106, 107, 108, 109, 110, 111, 112, 113, 114, 115, 116, 117, 118, 119, 120, 121], [105, 111, 112, 113, 114, 115, 116, 117, 118, 119, 120, 121], [105, 112, 113, 114, 115, 116, 117, 118, 119, 120, 121], [105, 106, 107, 108, 109, 110, 111, 112, 113, 114, 115, 116, 117, 118, 119, 120, 121], [105, 106, 107, 108, 109, 110, 111, 112, 113, 114, 115, 116, 117, 118, 119, 120, 121], [105, 106, 107, 108, 109, 110, 111, 112, 115, 116, 117, 118, 119, 120, 121], [105, 106, 107, 108, 109, 110, 111, 112, 116, 117, 118, 119, 120, 121], [105, 106, 107, 108, 109, 110, 111, 112, 113, 114, 115, 116, 117, 118, 119, 120, 121], [105, 106, 107, 108, 109, 110, 111, 112, 113, 114, 115, 116, 118, 119, 120, 121], [105, 106, 107, 108, 109, 110, 111, 112, 119, 120, 121], [105, 120, 121], [105, 121]] [[], [], [], [], [], [], [], [], [], [], [], [], [], [], [], [7168], [7680]] [[7168, 7680], [], [], [], [], [], [], [], [], [], [], [], [], [], [], [], []] [] [] (by decide) ?_
        rw [← List.take_append_drop 5 (List.take _ _)]
        generalize htl : List.drop 5 (List.take _ _) = tl
        simp
        refine ⟨hlt, fun r' hr'' => ?_⟩
        obtain rfl : r = r' := Option.some.inj (hr'.symm.trans hr'')
        subst htl
        simp
        refine ⟨by omega, DrC3.ok hF (by rfl) (by simp [a1]) c1 (by simp) (by simp) ?_⟩
        simp [hwi, a3]
        refine ⟨hlt, fun r' hr'' => ?_⟩
        obtain rfl : r = r' := Option.some.inj (hr'.symm.trans hr'')
        have a2 : List.take (r.length - (i + 1)) (List.drop (i + 1) (ints r)) = ints (r.drop (i + 1)) := by
          rw [show List.drop (i + 1) (ints r) = ints (r.drop (i + 1)) by simp, List.take_of_length_le (by simp)]
        simp [a2, a3]
        refine ⟨⟨by omega, by omega⟩, ⟨by omega, by omega⟩, ?_, ?_⟩
        · rintro a b (⟨rfl, -⟩ | ⟨rfl, -⟩) <;> simp
        refine DrB3.move hF (by rfl) (e := 43) (es := [[oInts (cutR i r)]]) (ks := [7680]) (by decide) rfl rfl rfl (by simp [cutR]) (by simp) rfl (by decide) (by decide) (by simp) (by simp) ?_
        simp
        refine S 60 _ _ ?_
        simp [hal]
        refine ⟨⟨by omega, by omega⟩, ?_⟩
        have hst2 : List.take (k + 1) (List.map ((fun xs => [oInts xs]) ∘ cutR i) acc) = bcc.map (fun xs => [oInts xs]) ++ [[oInts (cutR i r)]] := by
          rw [← List.map_take, ← List.map_map, hst]; simp
        exact Nxt.mk (k + 1) hlt (by simp [wrapS (i := k) (n := acc.length) hlt (by omega), hst2]) (by omega)
      · have e := hen2 hge
        subst e
        refine S 60 _ _ ?_
        simp [hwl]
        refine CallW.ok (by decide) (by simp) c9 (by simp) (S 60 _ _ ?_)
        simp

theorem specShortenCode_ok (p l : Int) (rows : List (List Int)) (i : Int) (hl : rows.length ≤ 1048576) (hr : ∀ r ∈ rows, r.length ≤ 1048576) : CallOK Go.Proofs.Tryz.prog 19 [vCode p l rows, .one (i64 i)] (cres (shoR p l rows i)) := by
  have hF := fnOk 17 [.cell 4 26, .tmp 5]
  refine callOK hF 60 Go.Proofs.Tryz.func19 rfl rfl rfl (by decide) (by simp) rfl ?_
  intro w0 hw
  have S := @vc_sound w0 _ hF ⟨(cres (shoR p l rows i)), []⟩ Go.Proofs.Tryz.f19 rfl (by simp)
  have c1 := l10Place_ok p l rows i hl hr
  have hR := placeN_range p l rows i
  by_cases h : placeN p l rows i = 0
  · obtain ⟨hg, h0, h1, h2⟩ := placeN_zero h
    obtain ⟨n, rfl, g1, g2, g3, g4⟩ := hg.nat
    obtain ⟨q, rfl⟩ : ∃ q : Nat, i = q := ⟨i.toNat, by omega⟩
    have e : shoR p n rows q = ((p, (n : Int) - 1, echL p ((shI p q rows none).map (cutR q))), 0) := by unfold shoR; rw [if_pos h]; simp
    rw [e] at S ⊢
    rw [h] at c1
    have c2 := l10CutT_ok p n q rows hg.1.1.1 g2 g3 g4 (by omega) (by omega)
    rw [← (sh_same hg.1.1.1 (i := q) (n := n) (by omega) g4).1] at c2
    generalize echL p ((shI p q rows none).map (cutR q)) = E at c2 S ⊢
    simp
    refine CallW.ok (by decide) (by simp) c1 (by simp) (S 60 _ _ ?_)
    simp
    refine CallW.ok (by decide) (by simp) c2 (by simp) (S 60 _ _ ?_)
    simp
  · have e : shoR p l rows i = ((0, 0, []), placeN p l rows i) := by unfold shoR; rw [if_neg h]
    rw [e] at S ⊢
    generalize placeN p l rows i = n at h hR c1 S ⊢
    simp
    refine CallW.ok (by decide) (by simp) c1 (by simp) (S 60 _ _ ?_)
    simp [h]

end Go.Sm
