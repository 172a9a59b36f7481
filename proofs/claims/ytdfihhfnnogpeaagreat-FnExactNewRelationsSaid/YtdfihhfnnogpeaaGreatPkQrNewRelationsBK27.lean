/- Towards the rows of this seat: what the functions do, as contracts over plain data. -/
import Derived.Test.YtdfihhfnnogpeaaGreatPkQrNewRelationsBK25
import Derived.Test.YtdfihhfnnogpeaaGreatPkQrNewRelationsBK4
import Derived.Test.YtdfihhfnnogpeaaGreatPkQrNewRelationsBK6
import Derived.Test.YtdfihhfnnogpeaaGreatPkQrNewRelationsBK20
import Derived.Test.YtdfihhfnnogpeaaGreatPkQrNewRelationsBK21
import Derived.Test.YtdfihhfnnogpeaaGreatPkQrNewRelationsBK10
namespace Go.Sm
open Go.RowKit

set_option maxHeartbeats 1000000 in
set_option maxRecDepth 4000 in
theorem polyOfRow_ok (p d : Int) (n : Nat) (r : List Int) (hp : Pr p) (hd : 1 ≤ d ∧ d ≤ 3) (hn : n ≤ 12) (hr : RowOk p (mons d n).length r) : CallOK Go.Proofs.Tryz.prog 104 [.one (i64 p), .one (i64 d), .one (i64 n), .one (vInts r)] (po p d (ofRow p d n r)) := by
  have hF := fnOk 33 [.cell 8 44]
  refine callOK hF 60 Go.Proofs.Tryz.func104 rfl rfl rfl (by decide) (by simp) rfl ?_
  intro w0 hw
  have S := @vc_sound w0 _ hF ⟨(po p d (ofRow p d n r)), []⟩ Go.Proofs.Tryz.f104 rfl (by simp)
  have hpp := hp.pos
  have c1 := monomials_ok d n hd hn
  have hml := mons_len d n hn
  have hnd := mons_nodup d n hn
  unfold ofRow at S ⊢
  have hrl := hr.1
  generalize mons d n = es at c1 hml hnd hrl S ⊢
  simp
  refine CallW.ok (by decide) (by simp) c1 (by simp) (S 60 _ _ ?_)
  simp
  refine J.loop hw (fun i : Nat => ⟨[(0, .c (.d (i64 p))), (1, .c (.d (i64 d))), (3, .c (.d (vInts r))), (8, .c (.ref 64008 0)), (9, .c (.ob 64009)), (15, .c (.ob 64015)), (16, .c (.d (i64 es.length))), (17, .c (.d (i64 i)))],
      [(64008, .var [.d (i64 0), .d (i64 0), .ob 64007]), (64007, .arr 70 4 []), (64009, .mp (sumM (rowG es r i))), (64015, .arr 68 3 (exs es))]⟩)
    (fun i => i ≤ es.length) (fun i => es.length - i) 0 (by simp) (by simp [rowG]) ?_
  intro i hi
  refine S 8 _ _ ?_
  simp
  refine ⟨fun hlt => ?_, fun hge => ?_⟩
  · obtain ⟨e, he⟩ : ∃ e, es[i]? = some e := ⟨es[i], List.getElem?_eq_getElem hlt⟩
    have hir : i < r.length := by omega
    obtain ⟨v, hv⟩ : ∃ v, r[i]? = some v := ⟨r[i], List.getElem?_eq_getElem hir⟩
    have hst := rowG_step (r := r) he
    have hgv : gt r i = v := by unfold gt; rw [List.getD_eq_getElem?_getD, hv]; rfl
    rw [hgv] at hst
    have hput := mpPut_sum (rowG es r i) e v
    refine S 6 _ _ ?_
    simp
    refine ⟨hlt, fun x hx => ?_⟩
    obtain rfl : e = x := Option.some.inj (he.symm.trans hx)
    refine S 4 _ _ ?_
    simp
    refine J.dr hF mixed 6 [[], [], [], [], [2, 3], [2, 3, 4], [0, 1, 2, 3, 4, 5]] [[22, 23, 24, 25, 26, 27], [22, 23, 24, 25, 26, 27], [22, 23, 24, 25, 26, 27], [22, 23, 24, 25, 26, 27], [22, 23, 26, 27], [22, 23, 27]] (by decide) ?_
    simp
    refine ⟨hir, fun x hx => ?_⟩
    obtain rfl : v = x := Option.some.inj (hv.symm.trans hx)
    refine S 60 _ _ ?_
    simp only [exK] at hput
    simp [hput]
    exact Nxt.mk (i + 1) (by omega) (by simp [wrapS (i := i) (n := es.length) hlt (by omega), hst]) (by omega)
  · obtain ⟨g1, g2, _⟩ := rowG_ok hnd r es.length (Nat.le_refl _)
    rw [show i = es.length by omega]
    refine S 60 _ _ ?_
    simp
    refine CallW.ok (by decide) (by simp) (poly_ok p d (rowG es r es.length) (by omega) g1 (by omega) (by omega)) (by simp) (S 60 _ _ ?_)
    simp

set_option maxHeartbeats 1000000 in
theorem polysOf_ok (p d : Int) (n : Nat) (rows : List (List Int)) (hp : Pr p) (hd : 1 ≤ d ∧ d ≤ 3) (hn : n ≤ 12) (hr : ∀ r ∈ rows, RowOk p (mons d n).length r) (hl : rows.length ≤ 1048576) : CallOK Go.Proofs.Tryz.prog 91 [.one (i64 p), .one (i64 d), .one (i64 n), .one (vIntss rows)] (.one (oPolys (rows.map fun r => ⟨p, d, ofRow p d n r⟩))) := by
  have hF := fnOk 29 [.tmp 8]
  refine callOK hF 60 Go.Proofs.Tryz.func91 rfl rfl rfl (by decide) (by simp) rfl ?_
  intro w0 hw
  have S := @vc_sound w0 _ hF ⟨(.one (oPolys (rows.map fun r => ⟨p, d, ofRow p d n r⟩))), []⟩ Go.Proofs.Tryz.f91 rfl (by simp)
  have hal := fun i (hi : i ≤ rows.length) => (show (((rows.take i).map fun r => (⟨p, d, ofRow p d n r⟩ : Pl)).map plO).length = i by rw [List.length_map, List.length_map, List.length_take]; omega)
  have hst := fun i r (h : rows[i]? = some r) => (show (((rows.take (i + 1)).map fun r => (⟨p, d, ofRow p d n r⟩ : Pl)).map plO) = (((rows.take i).map fun r => (⟨p, d, ofRow p d n r⟩ : Pl)).map plO) ++ [[i64 p, i64 d, oTerms (ofRow p d n r)]] by rw [List.take_add_one, h]; simp [plO])
  simp
  refine J.loop hw (fun i : Nat => ⟨[(0, .c (.d (i64 p))), (1, .c (.d (i64 d))), (2, .c (.d (i64 n))), (9, .c (.ob 64009)), (13, .c (.d (vIntss rows))), (14, .c (.d (i64 rows.length))), (15, .c (.d (i64 i)))],
      [(64009, .arr 44 3 (((rows.take i).map fun r => (⟨p, d, ofRow p d n r⟩ : Pl)).map plO))]⟩)
    (fun i => i ≤ rows.length) (fun i => rows.length - i) 0 (by simp) (by simp) ?_
  intro i hi
  have hal := hal i hi
  have hst := hst i
  generalize hac : ((rows.take i).map fun r => (⟨p, d, ofRow p d n r⟩ : Pl)).map plO = acc at hal hst ⊢
  refine S 8 _ _ ?_
  simp
  refine ⟨fun hlt => ?_, fun hge => ?_⟩
  · obtain ⟨r, he⟩ : ∃ r, rows[i]? = some r := ⟨rows[i], List.getElem?_eq_getElem hlt⟩
    have hst := hst r he
    have c1 := polyOfRow_ok p d n r hp hd hn (hr r (List.mem_of_getElem? he))
    generalize ofRow p d n r = T at c1 hst
    refine S 6 _ _ ?_
    simp
    refine ⟨hlt, fun x hx => ?_⟩
    obtain rfl : r = x := Option.some.inj (he.symm.trans hx)
    refine S 60 _ _ ?_
    simp
    refine CallW.ok (by decide) (by simp) c1 (by simp) (S 60 _ _ ?_)
    simp
    refine BsW.move hF (e := 44) (es := [[i64 p, i64 d, oTerms T]]) (ks := [1538]) (by decide) rfl rfl rfl (by simp) (by simp) rfl (by decide) (by decide) (by simp) ?_
    refine S 60 _ _ ?_
    simp [hal]
    exact ⟨⟨by omega, by omega⟩, Nxt.mk (i + 1) (by omega) (by simp [wrapS (i := i) (n := rows.length) hlt (by omega)]; rw [← hst]; simp) (by omega)⟩
  · rw [show i = rows.length by omega, List.take_length] at hac
    subst hac
    refine S 60 _ _ ?_
    simp
end Go.Sm

namespace Go.Sm
open Go.RowKit

/-- The polynomials that are generated, for the degrees up to k. -/
def spO (p d : Int) (ys : List Pl) (k : Nat) : List (List D) := (List.range (k + 1)).map fun j => [oPolys (genP p d ys j)]
theorem spO_len (p d : Int) (ys : List Pl) (k : Nat) : (spO p d ys k).length = k + 1 := by simp [spO]
theorem spO_at {p d : Int} {ys : List Pl} {k j : Nat} (h : j ≤ k) : (spO p d ys k)[j]? = some [oPolys (genP p d ys j)] := by
  unfold spO
  rw [List.getElem?_map, List.getElem?_range (by omega)]; rfl
theorem spO_step (p d : Int) (ys : List Pl) (k : Nat) : spO p d ys (k + 1) = spO p d ys k ++ [[oPolys (genP p d ys (k + 1))]] := by
  unfold spO
  rw [List.range_succ (n := k + 1), List.map_append]; rfl
theorem spO_zero (p d : Int) (ys : List Pl) : spO p d ys 0 = [[oPolys (genP p d ys 0)]] := rfl

set_option maxHeartbeats 2000000 in
set_option maxRecDepth 4000 in
theorem generated_ok (p d : Int) (ys : List Pl) (n : Nat) (hp : Pr p) (hd : 1 ≤ d ∧ d ≤ 3) (hg : GL p d ys) (hh : HL d ys) (hl : ys.length ≤ 8) (hd1 : ∀ y ∈ ys, 1 ≤ dgP y) (hn : n ≤ 12) : CallOK Go.Proofs.Tryz.prog 72 [.one (i64 p), .one (i64 d), .one (vPolys ys), .one (i64 n)] (.one (oIntss (genAt p d ys n))) := by
  have hF := fnOk 74 [.tmp 8]
  refine callOK hF 60 Go.Proofs.Tryz.func72 rfl rfl rfl (by decide) (by simp) rfl ?_
  intro w0 hw
  have S := @vc_sound w0 _ hF ⟨(.one (oIntss (genAt p d ys n))), []⟩ Go.Proofs.Tryz.f72 rfl (by simp)
  have hpp := hp.pos
  have c1 := constant_ok p d 1 (by omega) (by omega)
  have h0 := genP_zero p d ys
  have hG := fun k (hk : k ≤ 12) => gen_row hp hg hh hd1 hk
  have hRl := fun k (hk : k ≤ 12) i (hi : i ≤ ys.length) => genRows_le hp hg hh hd1 hk hi
  have hsu := fun k => genAt_succ p d ys hd1 k
  have hst := fun k i x (h : ys[i]? = some x) => genRows_step (p := p) (d := d) (G := genAt p d ys) (k := k) h
  have hpl := fun k => genP_len p d ys k
  have hpa := fun k j r (h : (genAt p d ys k)[j]? = some r) => genP_at h
  simp
  refine CallW.ok (by decide) (by simp) c1 (by simp) (S 60 _ _ ?_)
  generalize ofSum p [(⟨0, 0, 0⟩, 1)] = T0 at c1 h0
  simp
  refine BsW.move hF (e := 44) (es := [[i64 p, i64 d, oTerms T0]]) (ks := [1218]) (by decide) rfl rfl rfl (by simp) (by simp) rfl (by decide) (by decide) (by simp) ?_
  refine S 60 _ _ ?_
  simp
  refine BsW.move hF (e := 26) (es := [[oPolys [⟨p, d, T0⟩]]]) (ks := [1280]) (by decide) rfl rfl rfl (by simp) (by simp) rfl (by decide) (by decide) (by simp) ?_
  refine S 60 _ _ ?_
  simp
  refine BsW.move hF (e := 48) (es := [[oInts [1]]]) (ks := [1408]) (by decide) rfl rfl rfl (by simp) (by simp) rfl (by decide) (by decide) (by simp) ?_
  refine S 60 _ _ ?_
  simp
  refine J.loop hw (fun i : Nat => ⟨[(0, .c (.d (i64 p))), (1, .c (.d (i64 d))), (2, .c (.d (vPolys ys))), (3, .c (.d (i64 n))), (9, .c (.ob 64009)), (10, .c (.ob 64010)), (11, .c (.d (i64 ((i + 1 : Nat) : Int))))],
      [(64009, .arr 26 1 (spO p d ys i)), (64010, .arr 48 1 ((genAt p d ys i).map fun x => [oInts x]))]⟩)
    (fun i => i ≤ n) (fun i => n - i) 0 (by simp) (by simp [spO_zero, h0, genAt, genS, ints]) ?_
  intro k hk
  refine S 8 _ _ ?_
  simp
  refine ⟨fun hlt => ?_, fun hge => ?_⟩
  · have hlt : k < n := by omega
    have hsl := spO_len p d ys k
    have hsa := fun j (hj : j ≤ k) => spO_at (p := p) (d := d) (ys := ys) hj
    have hss := spO_step p d ys k
    generalize spO p d ys k = SP at hsl hsa hss ⊢
    have hsu := hsu k
    have hRl := hRl (k + 1) (by omega)
    have hst := hst (k + 1)
    refine S 60 _ _ ?_
    simp
    refine J.loop hw (fun i : Nat => ⟨[(0, .c (.d (i64 p))), (1, .c (.d (i64 d))), (2, .c (.d (vPolys ys))), (3, .c (.d (i64 n))), (9, .c (.ob 64009)), (10, .c (.ob 64010)), (11, .c (.d (i64 ((k + 1 : Nat) : Int)))), (12, .c (.ob 64012)), (30, .c (.d (vPolys ys))), (31, .c (.d (i64 ys.length))), (32, .c (.d (i64 i)))],
      [(64009, .arr 26 1 SP), (64010, .arr 48 1 ((genAt p d ys k).map fun x => [oInts x])), (64012, .arr 48 1 ((genRows p d (ys.take i) (genAt p d ys) (k + 1)).map fun x => [oInts x]))]⟩)
      (fun i => i ≤ ys.length) (fun i => ys.length - i) 0 (by simp) (by simp [genRows]) ?_
    intro i hi
    refine S 8 _ _ ?_
    simp
    refine ⟨fun hlt1 => ?_, fun hge => ?_⟩
    · obtain ⟨x, hx⟩ : ∃ x, ys[i]? = some x := ⟨ys[i], List.getElem?_eq_getElem hlt1⟩
      obtain ⟨ex, ed, hgx⟩ := hg x (List.mem_of_getElem? hx)
      have hd1x := hd1 x (List.mem_of_getElem? hx)
      have hdx : degT x.ts = (dgP x : Int) := degT_dg hd1x
      have hxl := goodP_len hgx
      have hcx : Can p x.ts := ⟨hgx.2.2.2, fun t ht => (hgx.2.2.1 t ht).2⟩
      have c2 := polyDegree_ok p d x.ts (by omega)
      have hst := hst i x hx
      obtain ⟨hRl1, hRl2⟩ := hRl i hi
      rw [hdx] at c2
      refine S 6 _ _ ?_
      simp
      refine ⟨hlt1, fun y hy => ?_⟩
      obtain rfl : x = y := Option.some.inj (hx.symm.trans hy)
      simp only [ex, ed]
      refine S 60 _ _ ?_
      simp
      refine CallW.ok (by decide) (by simp) c2 (by simp) (S 60 _ _ ?_)
      simp
      refine ⟨fun hgt => ?_, fun hle => ?_⟩
      · have hc : k + 1 < dgP x := by omega
        rw [if_pos hc, List.append_nil] at hst
        exact Nxt.mk (i + 1) (by omega) (by simp [wrapS (i := i) (n := ys.length) hlt1 (by omega), hst]) (by omega)
      · have hc : dgP x ≤ k + 1 := by omega
        have hj : dgP x ≤ k + 1 ∧ k + 1 - dgP x ≤ k := by omega
        rw [if_neg (by omega)] at hst
        have hwd : IntKind.i64.wrap ((k : Int) + 1 - (dgP x : Int)) = ((k + 1 - dgP x : Nat) : Int) := by rw [wrap64] <;> omega
        have hsa1 := hsa _ hj.2
        refine CallW.ok (by decide) (by simp) c2 (by simp) (S 60 _ _ ?_)
        have hpl := hpl (k + 1 - dgP x)
        have hpa := hpa (k + 1 - dgP x)
        obtain ⟨hg1, hg2⟩ := hG (k + 1 - dgP x) (by omega)
        generalize hAA : genAt p d ys (k + 1 - dgP x) = AA at hpl hpa hg1 hg2 hst
        generalize genP p d ys (k + 1 - dgP x) = PA at hpl hpa hsa1
        generalize hm : k + 1 - dgP x = m at *
        simp [hwd]
        refine ⟨by omega, fun e he => ?_⟩
        obtain rfl := Option.some.inj (hsa1.symm.trans he)
        simp
        refine S 60 _ _ ?_
        simp
        refine J.loop hw (fun q : Nat => ⟨[(0, .c (.d (i64 p))), (1, .c (.d (i64 d))), (2, .c (.d (vPolys ys))), (3, .c (.d (i64 n))), (9, .c (.ob 64009)), (10, .c (.ob 64010)), (11, .c (.d (i64 ((k + 1 : Nat) : Int)))), (12, .c (.ob 64012)), (14, .c (.ref 64014 0)), (30, .c (.d (vPolys ys))), (31, .c (.d (i64 ys.length))), (32, .c (.d (i64 i))),
              (46, .c (.d (.vw false 3 (PA.map fun x => [i64 x.p, i64 x.d, .vw false 4 (terms x.ts)])))), (47, .c (.d (i64 PA.length))), (48, .c (.d (i64 q)))],
            [(64009, .arr 26 1 SP), (64010, .arr 48 1 ((genAt p d ys k).map fun x => [oInts x])), (64012, .arr 48 1 ((genRows p d (ys.take i) (genAt p d ys) (k + 1) ++ genOne p d x (AA.take q) (k + 1)).map fun x => [oInts x])), (64014, .var [.d (i64 p), .d (i64 d), .d (vTerms x.ts)])]⟩)
          (fun q => q ≤ PA.length) (fun q => PA.length - q) 0 (by simp) (by simp [genOne]) ?_
        intro q hq
        have hol : (genOne p d x (AA.take q) (k + 1)).length = q := by rw [genOne, List.length_map, List.length_take]; omega
        have hos := fun r (h : AA[q]? = some r) => genOne_step (p := p) (d := d) (x := x) (k := k + 1) h
        have hm9 := mons_len d m (by omega)
        have hXl : (genRows p d (ys.take i) (genAt p d ys) (k + 1) ++ genOne p d x (AA.take q) (k + 1)).length ≤ 2000 := by rw [List.length_append]; omega
        refine S 8 _ _ ?_
        simp
        refine ⟨fun hlt2 => ?_, fun hge => ?_⟩
        · obtain ⟨r, hr⟩ : ∃ r, AA[q]? = some r := ⟨AA[q], List.getElem?_eq_getElem (by omega)⟩
          have hpq := hpa q r hr
          have hrow := hg2 r (List.mem_of_getElem? hr)
          obtain ⟨o1, o2, _⟩ := ofRow_ok (d := d) (show 0 < p by omega) (show m ≤ 12 by omega) hrow
          have hos := hos r hr
          rw [hm] at hos
          have hol1 := can_len o1 (hom_deg o2) (by omega)
          have c3 := mul_ok p d p d x.ts (ofRow p d m r) (by omega) (by omega) hcx o1 (by omega) (by omega)
          have hmh := mulT_hom (p := p) (hh x (List.mem_of_getElem? hx)) o2 (by omega)
          have hmc := mulT_can (show 0 < p by omega) x.ts (ofRow p d m r)
          have hme : dgP x + m = k + 1 := by omega
          rw [hme] at hmh
          have hml := can_len hmc (hom_deg hmh) (by omega)
          have c4 := row_ok p d (mulT p x.ts (ofRow p d m r)) (k + 1) hd (by omega) (by omega)
          generalize mulT p x.ts (ofRow p d m r) = MT at c3 c4 hos
          generalize rowT d (k + 1) MT = RT at c4 hos
          generalize ofRow p d m r = OT at c3 hpq
          have c4 : CallOK Go.Proofs.Tryz.prog 50 [pv p d MT, .one (i64 ((k : Int) + 1))] (.one (oInts RT)) := c4
          refine S 6 _ _ ?_
          simp
          refine ⟨hlt2, fun z hz => ?_⟩
          obtain rfl := Option.some.inj (hpq.symm.trans hz)
          simp
          refine S 60 _ _ ?_
          simp
          refine CallW.ok (by decide) (by simp) c3 (by simp) (S 60 _ _ ?_)
          simp
          refine CallW.ok (by decide) (by simp) c4 (by simp) (S 60 _ _ ?_)
          simp
          refine BsW.move hF (e := 48) (es := [[oInts RT]]) (ks := [3648]) (by decide) rfl rfl rfl (by simp) (by simp) rfl (by decide) (by decide) (by simp) ?_
          refine S 60 _ _ ?_
          simp
          refine ⟨⟨by omega, by omega⟩, ?_⟩
          exact Nxt.mk (q + 1) (by omega) (by simp [wrapS (i := q) (n := PA.length) hlt2 (by omega), hos]) (by omega)
        · have hq2 : q = AA.length := by omega
          rw [hq2, List.take_length]
          refine S 60 _ _ ?_
          simp
          exact Nxt.mk (i + 1) (by omega) (by simp [wrapS (i := i) (n := ys.length) hlt1 (by omega), hst]) (by omega)
    · rw [show i = ys.length by omega, List.take_length]
      have hR := hRl ys.length (Nat.le_refl _)
      rw [List.take_length] at hR
      obtain ⟨hg1, hg2⟩ := hG (k + 1) (by omega)
      have hml := mons_len d (k + 1) (by omega)
      have c3 := reduce_ok p (mons d (k + 1)).length (genRows p d ys (genAt p d ys) (k + 1)) hp (by omega) (by omega) hR.2
      have c4 := polysOf_ok p d (k + 1) (genAt p d ys (k + 1)) hp hd (by omega) hg2 (by omega)
      rw [← hsu] at c3
      have hgp : genP p d ys (k + 1) = (genAt p d ys (k + 1)).map fun r => ⟨p, d, ofRow p d (k + 1) r⟩ := rfl
      rw [← hgp] at c4
      clear hgp
      generalize genRows p d ys (genAt p d ys) (k + 1) = R at c3 ⊢
      generalize hGA : genAt p d ys (k + 1) = GA at c3 c4
      generalize genP p d ys (k + 1) = PA at c4 hss
      have c4 : CallOK Go.Proofs.Tryz.prog 91 [.one (i64 p), .one (i64 d), .one (i64 ((k : Int) + 1)), .one (vIntss GA)] (.one (oPolys PA)) := c4
      refine S 60 _ _ ?_
      simp
      refine CallW.ok (by decide) (by simp) c3 (by simp) (S 60 _ _ ?_)
      simp
      refine CallW.ok (by decide) (by simp) c4 (by simp) (S 60 _ _ ?_)
      simp
      refine BsW.move hF (e := 26) (es := [[oPolys PA]]) (ks := [4480]) (by decide) rfl rfl rfl (by simp) (by simp) rfl (by decide) (by decide) (by simp) ?_
      refine S 60 _ _ ?_
      simp [hsl]
      have hwk : IntKind.i64.wrap ((k : Int) + 1 + 1) = (k : Int) + 1 + 1 := wrap64 (by omega) (by omega)
      refine ⟨⟨by omega, by omega⟩, ?_⟩
      exact Nxt.mk (k + 1) (by omega) (by simp [hwk, hss, hGA]) (by omega)
  · have : k = n := by omega
    subst this
    refine S 60 _ _ ?_
    simp
end Go.Sm
