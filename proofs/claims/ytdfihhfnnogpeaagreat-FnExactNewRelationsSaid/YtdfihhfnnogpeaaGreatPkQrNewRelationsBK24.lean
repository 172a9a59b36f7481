/- Towards the rows of this seat: what the functions do, as contracts over plain data. -/
import Derived.Test.YtdfihhfnnogpeaaGreatPkQrNewRelationsBK4
import Derived.Test.YtdfihhfnnogpeaaGreatPkQrNewRelationsBK6
import Derived.Test.YtdfihhfnnogpeaaGreatPkQrNewRelationsBK3
import Derived.Test.YtdfihhfnnogpeaaGreatPkQrNewRelationsBK19
import Derived.Test.YtdfihhfnnogpeaaGreatPkQrNewRelationsBK20
import Derived.Test.YtdfihhfnnogpeaaGreatPkQrNewRelationsBK7
import Derived.Test.YtdfihhfnnogpeaaGreatPkQrNewRelationsBK23
namespace Go.Sm
open Go.RowKit

theorem coefficient_ok (p d : Int) (ts : List Tm) (e : Ex) (hl : ts.length ≤ 1048576) : CallOK Go.Proofs.Tryz.prog 75 [pv p d ts, .agg e.ds] (.one (i64 (coef ts e))) := by
  have hF := fnOk 21 [.tmp 4]
  refine callOK hF 60 Go.Proofs.Tryz.func75 rfl rfl rfl (by decide) (by simp) rfl ?_
  intro w0 hw
  have S := @vc_sound w0 _ hF ⟨(.one (i64 (coef ts e))), []⟩ Go.Proofs.Tryz.f75 rfl (by simp)
  generalize hC : coef ts e = C at S ⊢
  simp
  refine J.loop hw (fun i : Nat => ⟨[(3, .c (.ref 64003 0)), (8, .c (.d (vTerms ts))), (9, .c (.d (i64 ts.length))), (10, .c (.d (i64 i)))],
      [(64003, .var [.d (u8 e.a), .d (u8 e.b), .d (u8 e.c)])]⟩)
    (fun i => i ≤ ts.length ∧ coef (ts.drop i) e = C) (fun i => ts.length - i) 0 (by simp [hC]) (by simp) ?_
  rintro i ⟨hi, hc⟩
  refine S 8 _ _ ?_
  simp
  refine ⟨fun hlt => ?_, fun hge => ?_⟩
  · obtain ⟨t, ht⟩ : ∃ t, ts[i]? = some t := ⟨ts[i], List.getElem?_eq_getElem hlt⟩
    rw [drop_cons ht, coef] at hc
    refine S 6 _ _ ?_
    simp
    refine ⟨hlt, fun x hx => ?_⟩
    obtain rfl : t = x := Option.some.inj (ht.symm.trans hx)
    refine S 60 _ _ ?_
    simp
    refine ⟨fun h => by rw [if_pos h] at hc; exact hc, fun h => ?_⟩
    rw [if_neg h] at hc
    exact Nxt.mk (i + 1) ⟨by omega, hc⟩ (by simp [wrapS (i := i) (n := ts.length) hlt (by omega)]) (by omega)
  · rw [List.drop_eq_nil_of_le hge] at hc
    subst hc
    refine S 60 _ _ ?_
    simp [coef]

/-- The coefficients of the monomials of a degree. -/
def rowT (d : Int) (n : Nat) (ts : List Tm) : List Int := (mons d n).map (coef ts)
theorem rowT_ok {p d : Int} (hp : 0 < p) (n : Nat) {ts : List Tm} (h : Can p ts) : RowOk p (mons d n).length (rowT d n ts) := by
  refine ⟨by simp [rowT], fun x hx => ?_⟩
  obtain ⟨e, _, rfl⟩ := List.mem_map.1 hx
  exact coef_bound hp h e
/-- The first coefficients, and zeros. -/
def midR (L : List Ex) (ts : List Tm) (i : Nat) : List Int := (L.take i).map (coef ts) ++ List.replicate (L.length - i) 0
theorem midR_len (L : List Ex) (ts : List Tm) (i : Nat) (h : i ≤ L.length) : (midR L ts i).length = L.length := by simp [midR]; omega
theorem midR_set {L : List Ex} {ts : List Tm} {i : Nat} {e : Ex} (he : L[i]? = some e) : (midR L ts i).set i (coef ts e) = midR L ts (i + 1) := by
  have hi : i < L.length := (List.getElem?_eq_some_iff.1 he).1
  unfold midR
  rw [List.take_add_one, he, show L.length - i = (L.length - (i + 1)) + 1 by omega, List.replicate_succ]
  have hl : ((L.take i).map (coef ts)).length = i := by rw [List.length_map, List.length_take]; omega
  rw [List.set_append_right _ _ (by omega), hl, Nat.sub_self]
  simp
/-- The first coefficients. -/
def preR (L : List Ex) (ts : List Tm) (i : Nat) : List Int := (L.take i).map (coef ts)
theorem preR_step {L : List Ex} {ts : List Tm} {i : Nat} {e : Ex} (he : L[i]? = some e) : ints (preR L ts i) ++ [[i64 (coef ts e)]] = ints (preR L ts (i + 1)) := by
  simp [preR, List.take_add_one, he, ints]
theorem preR_len {L : List Ex} {ts : List Tm} {i : Nat} (h : i ≤ L.length) : (preR L ts i).length = i := by rw [preR, List.length_map, List.length_take]; omega
theorem preR_all {L : List Ex} {ts : List Tm} {i : Nat} (h : L.length ≤ i) : preR L ts i = L.map (coef ts) := by rw [preR, List.take_of_length_le h]
theorem midR_all (L : List Ex) (ts : List Tm) : midR L ts L.length = L.map (coef ts) := by simp [midR]

set_option maxHeartbeats 1000000 in
theorem row_ok (p d : Int) (ts : List Tm) (n : Nat) (hd : 1 ≤ d ∧ d ≤ 3) (hn : n ≤ 12) (hl : ts.length ≤ 1048576) : CallOK Go.Proofs.Tryz.prog 50 [pv p d ts, .one (i64 n)] (.one (oInts (rowT d n ts))) := by
  have hF := fnOk 31 [.tmp 4]
  refine callOK hF 60 Go.Proofs.Tryz.func50 rfl rfl rfl (by decide) (by simp) rfl ?_
  intro w0 hw
  have S := @vc_sound w0 _ hF ⟨(.one (oInts (rowT d n ts))), []⟩ Go.Proofs.Tryz.f50 rfl (by simp)
  have c1 := monomials_ok d n hd hn
  have hml := mons_len d n hn
  have hc := fun e => coefficient_ok p d ts e hl
  have hR : rowT d n ts = midR (mons d n) ts (mons d n).length := (midR_all _ _).symm
  rw [hR] at S ⊢
  generalize mons d n = L at c1 hml S ⊢
  simp
  refine CallW.ok (by decide) (by simp) c1 (by simp) (S 60 _ _ ?_)
  simp
  refine ⟨⟨by omega, by omega⟩, ?_⟩
  refine J.loop hw (fun i : Nat => ⟨[(2, .c (.ref 64002 0)), (6, .c (.ob 64006)), (16, .c (.ob 64016)), (17, .c (.d (i64 L.length))), (18, .c (.d (i64 i)))],
      [(64002, .var [.d (i64 p), .d (i64 d), .d (vTerms ts)]), (64006, .arr 2 1 (ints (midR L ts i))), (64016, .arr 68 3 (exs L))]⟩)
    (fun i => i ≤ L.length) (fun i => L.length - i) 0 (by simp) (by simp [midR]) ?_
  intro i hi
  refine S 8 _ _ ?_
  simp
  refine ⟨fun hlt => ?_, fun hge => ?_⟩
  · obtain ⟨e, he⟩ : ∃ e, L[i]? = some e := ⟨L[i], List.getElem?_eq_getElem hlt⟩
    have c2 := hc e
    refine S 6 _ _ ?_
    simp
    refine ⟨hlt, fun x hx => ?_⟩
    obtain rfl : e = x := Option.some.inj (he.symm.trans hx)
    refine S 60 _ _ ?_
    simp
    refine CallW.ok (by decide) (by simp) c2 (by simp) (S 60 _ _ ?_)
    simp
    refine ⟨by rw [midR_len _ _ _ hi]; exact hlt, ?_⟩
    exact Nxt.mk (i + 1) (by omega) (by simp [wrapS (i := i) (n := L.length) hlt (by omega), ints_set, midR_set he]) (by omega)
  · rw [show i = L.length by omega]
    refine S 60 _ _ ?_
    simp

set_option maxHeartbeats 1000000 in
theorem l01Row_ok (p d : Int) (ts : List Tm) (n : Nat) (hd : 1 ≤ d ∧ d ≤ 3) (hn : n ≤ 12) (hl : ts.length ≤ 1048576) : CallOK Go.Proofs.Tryz.prog 42 [pv p d ts, .one (i64 n)] (.one (oInts (rowT d n ts))) := by
  have hF := fnOk 29 [.tmp 4]
  refine callOK hF 60 Go.Proofs.Tryz.func42 rfl rfl rfl (by decide) (by simp) rfl ?_
  intro w0 hw
  have S := @vc_sound w0 _ hF ⟨(.one (oInts (rowT d n ts))), []⟩ Go.Proofs.Tryz.f42 rfl (by simp)
  have c1 := l01Monomials_ok d n hd hn
  have hml := mons_len d n hn
  have hc := fun e => l01At_ok p d ts e hl
  have hR : rowT d n ts = (mons d n).map (coef ts) := rfl
  rw [hR] at S ⊢
  generalize mons d n = L at c1 hml S ⊢
  simp
  refine CallW.ok (by decide) (by simp) c1 (by simp) (S 60 _ _ ?_)
  simp
  refine J.loop hw (fun i : Nat => ⟨[(2, .c (.ref 64002 0)), (6, .c (.ob 64006)), (5, .c (.ob 64005)), (7, .c (.d (i64 i)))],
      [(64002, .var [.d (i64 p), .d (i64 d), .d (vTerms ts)]), (64006, .arr 2 1 (ints (preR L ts i))), (64005, .arr 68 3 (exs L))]⟩)
    (fun i => i ≤ L.length) (fun i => L.length - i) 0 (by simp) (by simp [preR]) ?_
  intro i hi
  refine S 60 _ _ ?_
  simp
  refine ⟨fun hlt => ?_, fun hge => ?_⟩
  · obtain ⟨e, he⟩ : ∃ e, L[i]? = some e := ⟨L[i], List.getElem?_eq_getElem hlt⟩
    have c2 := hc e
    refine J.dr hF mixed 8 [[], [], [], [], [2, 3], [2, 3, 4], [1, 2, 3, 4, 5], [1, 2, 3, 4, 5, 6], [0, 1, 2, 3, 4, 5, 6, 7], [0, 1, 2, 3, 4, 5, 6, 7, 8]] [[19, 20, 21, 22, 23, 24, 25, 26], [19, 20, 21, 22, 23, 24, 25, 26], [19, 20, 21, 22, 23, 24, 25, 26], [19, 20, 21, 22, 23, 24, 25, 26], [19, 20, 23, 24, 25, 26], [19, 20, 24, 25, 26], [19, 25, 26], [19, 26]] (by decide) ?_
    simp
    refine ⟨hlt, fun x hx => ?_⟩
    obtain rfl : e = x := Option.some.inj (he.symm.trans hx)
    refine DrC.ok hF (by rfl) (by simp) c2 (by simp) (by simp) ?_
    simp
    refine S 60 _ _ ?_
    simp
    refine ⟨by rw [preR_len hi]; omega, ?_⟩
    exact Nxt.mk (i + 1) (by omega) (by simp [wrapS (i := i) (n := L.length) hlt (by omega), preR_step he]) (by omega)
  · rw [preR_all hge]
    simp
end Go.Sm

namespace Go.Sm
open Go.RowKit

/-- The rows of the products of a degree. -/
def relRows (p d : Int) (ys : List Pl) (n : Nat) (L : List (List Int)) : List (List Int) := L.map fun e => rowT d n (prodL p ys e one1)
/-- The relations of a degree. -/
def relK (p d : Int) (ys : List Pl) (n : Nat) : List (List Int) := kerS p (mons d n).length (relRows p d ys n (expsL (ys.map dgP) n))
theorem relRows_step {p d : Int} {ys : List Pl} {n : Nat} {L : List (List Int)} {i : Nat} {e : List Int} (h : L[i]? = some e) :
    relRows p d ys n (L.take (i + 1)) = relRows p d ys n (L.take i) ++ [rowT d n (prodL p ys e one1)] := by
  unfold relRows
  rw [List.take_add_one, h]; simp
theorem relRows_row {p d : Int} (hp : 2 ≤ p) {ys : List Pl} (hg : GL p d ys) (hd1 : ∀ y ∈ ys, 1 ≤ dgP y) {n : Nat} (hn : n ≤ 12) :
    ∀ r ∈ relRows p d ys n (expsL (ys.map dgP) n), RowOk p (mons d n).length r := by
  intro r hr
  obtain ⟨e, he, rfl⟩ := List.mem_map.1 hr
  exact rowT_ok (by omega) n (prodL_good hp hg (exps_facts hg hd1 hn e he).2.1).1

set_option maxHeartbeats 1000000 in
set_option maxRecDepth 4000 in
theorem relations_ok (p d : Int) (ys : List Pl) (n : Nat) (hp : Pr p) (hd : 1 ≤ d ∧ d ≤ 3) (hg : GL p d ys) (hl : ys.length ≤ 8) (hne : ys ≠ []) (hd1 : ∀ y ∈ ys, 1 ≤ dgP y) (hn : n ≤ 12) (hc : cntL (ys.map dgP) n ≤ 500000) : CallOK Go.Proofs.Tryz.prog 26 [.one (vPolys ys), .one (i64 n)] (.one (oIntss (relK p d ys n))) := by
  have hF := fnOk 32 [.tmp 4]
  refine callOK hF 60 Go.Proofs.Tryz.func26 rfl rfl rfl (by decide) (by simp) rfl ?_
  intro w0 hw
  have S := @vc_sound w0 _ hF ⟨(.one (oIntss (relK p d ys n))), []⟩ Go.Proofs.Tryz.f26 rfl (by simp)
  have hpp := hp.pos
  have hrr := relRows_row hpp.1 hg hd1 hn
  have hml := mons_len d n hn
  have hc' : (expsL (ys.map dgP) n).length ≤ 500000 := hc
  have hrl : (relRows p d ys n (expsL (ys.map dgP) n)).length ≤ 500000 := by rw [relRows, List.length_map]; exact hc'
  have c4 := kernel_ok p (mons d n).length (relRows p d ys n (expsL (ys.map dgP) n)) hp (by omega) hrl hrr
  rw [ker_eq hp hrr] at c4
  have c1 := exponents_ok ys n hn hl (fun y hy => ⟨by have := goodP_len (hg y hy).2.2; omega, hd1 y hy⟩)
  have hef := exps_facts hg hd1 hn
  have hlt0 : 0 < ys.length := List.length_pos_iff.2 hne
  unfold relK at S ⊢
  generalize expsL (ys.map dgP) n = L at c1 hef hc' c4 S ⊢
  generalize hR : relRows p d ys n L = R at c4 S ⊢
  generalize kerS p (mons d n).length R = K at c4 S ⊢
  simp
  refine CallW.ok (by decide) (by simp) c1 (by simp) (S 60 _ _ ?_)
  simp
  refine J.loop hw (fun i : Nat => ⟨[(0, .c (.d (vPolys ys))), (1, .c (.d (i64 n))), (5, .c (.ob 64005)), (11, .c (.ob 64011)), (12, .c (.d (i64 L.length))), (13, .c (.d (i64 i)))],
      [(64011, .arr 48 1 (L.map fun x => [oInts x])), (64005, .arr 48 1 ((relRows p d ys n (L.take i)).map fun x => [oInts x]))]⟩)
    (fun i => i ≤ L.length) (fun i => L.length - i) 0 (by simp) (by simp [relRows]) ?_
  intro i hi
  have hal : (relRows p d ys n (L.take i)).length = i := by rw [relRows, List.length_map, List.length_take]; omega
  refine S 8 _ _ ?_
  simp
  refine ⟨fun hlt => ?_, fun hge => ?_⟩
  · obtain ⟨e, he⟩ : ∃ e, L[i]? = some e := ⟨L[i], List.getElem?_eq_getElem hlt⟩
    obtain ⟨e1, e2, e3⟩ := hef e (List.mem_of_getElem? he)
    have c2 := product_ok p d ys e hp hd hg hl hne e1 e3 e2
    have hst := relRows_step (p := p) (d := d) (ys := ys) (n := n) he
    obtain ⟨g1, g2⟩ := prodL_good hpp.1 hg e2
    have c3 := row_ok p d (prodL p ys e one1) n hd hn (by have := can_len g1 g2 (Nat.le_refl _); omega)
    generalize prodL p ys e one1 = T at c2 c3 hst
    generalize rowT d n T = r at c3 hst
    generalize relRows p d ys n (L.take i) = A at hal hst ⊢
    refine S 6 _ _ ?_
    simp
    refine ⟨hlt, fun x hx => ?_⟩
    obtain rfl : e = x := Option.some.inj (he.symm.trans hx)
    refine S 60 _ _ ?_
    simp
    refine CallW.ok (by decide) (by simp) c2 (by simp) (S 60 _ _ ?_)
    simp
    refine CallW.ok (by decide) (by simp) c3 (by simp) (S 60 _ _ ?_)
    simp
    refine BsW.move hF (e := 48) (es := [[oInts r]]) (ks := [1408]) (by decide) rfl rfl rfl (by simp) (by simp) rfl (by decide) (by decide) (by simp) ?_
    refine S 60 _ _ ?_
    simp
    refine ⟨⟨by omega, by omega⟩, ?_⟩
    exact Nxt.mk (i + 1) hlt (by simp [wrapS (i := i) (n := L.length) hlt (by omega), hst]) (by omega)
  · have e1 : L.take i = L := List.take_of_length_le hge
    rw [e1, hR]
    refine S 60 _ _ ?_
    simp
    refine ⟨hlt0, fun y hy => ?_⟩
    have ep : y.p = p := (hg y (List.mem_of_getElem? hy)).1
    simp only [ep]
    refine CallW.ok (by decide) (by simp) c4 (by simp) (S 60 _ _ ?_)
    simp

set_option maxHeartbeats 1000000 in
set_option maxRecDepth 4000 in
theorem l09Relations_ok (p d : Int) (ys : List Pl) (n : Nat) (hp : Pr p) (hd : 1 ≤ d ∧ d ≤ 3) (hg : GL p d ys) (hl : ys.length ≤ 8) (hne : ys ≠ []) (hd1 : ∀ y ∈ ys, 1 ≤ dgP y) (hn : n ≤ 12) (hc : cntL (ys.map dgP) n ≤ 500000) : CallOK Go.Proofs.Tryz.prog 21 [.one (vPolys ys), .one (i64 n)] (.one (oIntss (relK p d ys n))) := by
  have hF := fnOk 35 [.tmp 4]
  refine callOK hF 60 Go.Proofs.Tryz.func21 rfl rfl rfl (by decide) (by simp) rfl ?_
  intro w0 hw
  have S := @vc_sound w0 _ hF ⟨(.one (oIntss (relK p d ys n))), []⟩ Go.Proofs.Tryz.f21 rfl (by simp)
  have hpp := hp.pos
  have hrr := relRows_row hpp.1 hg hd1 hn
  have hml := mons_len d n hn
  have hc' : (expsL (ys.map dgP) n).length ≤ 500000 := hc
  have hrl : (relRows p d ys n (expsL (ys.map dgP) n)).length ≤ 500000 := by rw [relRows, List.length_map]; exact hc'
  have c4 := l01Kernel_ok p (mons d n).length (relRows p d ys n (expsL (ys.map dgP) n)) hp (by omega) hrl hrr
  have c1 := l05Products_ok p d ys n hp hd hg hl hne hd1 hn
  have hef := exps_facts hg hd1 hn
  have hlt0 : 0 < ys.length := List.length_pos_iff.2 hne
  unfold relK at S ⊢
  generalize expsL (ys.map dgP) n = L at c1 hef hc' c4 hrl S ⊢
  have hRl : (relRows p d ys n L).length = L.length := by simp [relRows]
  generalize hR : relRows p d ys n L = R at c4 hRl S ⊢
  generalize kerS p (mons d n).length R = K at c4 S ⊢
  have hpl : (prodsP p d ys L).length = L.length := by simp [prodsP]
  have hpg := fun (i : Nat) e (he : L[i]? = some e) => (show (prodsP p d ys L)[i]? = some ⟨p, d, prodL p ys e one1⟩ by unfold prodsP; rw [List.getElem?_map, he]; rfl)
  generalize prodsP p d ys L = PL at c1 hpl hpg
  simp
  refine CallW.ok (by decide) (by simp) c1 (by simp) (S 60 _ _ ?_)
  simp
  refine J.loop hw (fun i : Nat => ⟨[(0, .c (.d (vPolys ys))), (1, .c (.d (i64 n))), (5, .c (.ob 64005)), (6, .c (.ob 64006)), (7, .c (.d (i64 i)))],
      [(64005, .arr 44 3 (PL.map plO)), (64006, .arr 48 1 ((relRows p d ys n (L.take i)).map fun x => [oInts x]))]⟩)
    (fun i => i ≤ L.length) (fun i => L.length - i) 0 (by simp) (by simp [relRows]) ?_
  intro i hi
  have hal : (relRows p d ys n (L.take i)).length = i := by rw [relRows, List.length_map, List.length_take]; omega
  refine S 12 _ _ ?_
  simp [hpl]
  refine ⟨fun hlt => ?_, fun hge => ?_⟩
  · obtain ⟨e, he⟩ : ∃ e, L[i]? = some e := ⟨L[i], List.getElem?_eq_getElem hlt⟩
    obtain ⟨e1, e2, e3⟩ := hef e (List.mem_of_getElem? he)
    have hst := relRows_step (p := p) (d := d) (ys := ys) (n := n) he
    obtain ⟨g1, g2⟩ := prodL_good hpp.1 hg e2
    have c3 := l01Row_ok p d (prodL p ys e one1) n hd hn (by have := can_len g1 g2 (Nat.le_refl _); omega)
    have hp1 := hpg i e he
    generalize prodL p ys e one1 = T at c3 hst hp1
    generalize rowT d n T = r at c3 hst
    generalize relRows p d ys n (L.take i) = A at hal hst ⊢
    refine S 60 _ _ ?_
    simp
    refine ⟨by omega, fun x hx => ?_⟩
    obtain rfl := Option.some.inj (hp1.symm.trans hx)
    refine CallW.ok (by decide) (by simp) c3 (by simp) (S 60 _ _ ?_)
    simp
    refine BsW.move hF (e := 48) (es := [[oInts r]]) (ks := [1536]) (by decide) rfl rfl rfl (by simp) (by simp) rfl (by decide) (by decide) (by simp) ?_
    refine S 60 _ _ ?_
    simp
    refine ⟨⟨by omega, by omega⟩, ?_⟩
    exact Nxt.mk (i + 1) hlt (by simp [wrapS (i := i) (n := L.length) hlt (by omega), hst]) (by omega)
  · have e1 : L.take i = L := List.take_of_length_le hge
    rw [e1, hR]
    refine S 60 _ _ ?_
    simp
    refine ⟨hlt0, fun y hy => ?_⟩
    have ep : y.p = p := (hg y (List.mem_of_getElem? hy)).1
    simp only [ep]
    refine CallW.ok (by decide) (by simp) c4 (by simp) (S 60 _ _ ?_)
    simp
end Go.Sm

namespace Go.Sm
open Go.RowKit

/-- The error of a list and a degree whose relations are asked. -/
noncomputable def manyN (ys : List Pl) (n : Int) : Int := if relN ys n ≠ 0 then relN ys n else if 500 < cntL (ys.map dgP) n.toNat then 3 else 0
theorem manyN_bad {ys : List Pl} {n : Int} (h : relN ys n ≠ 0) : manyN ys n = relN ys n := by unfold manyN; rw [if_pos h]
theorem manyN_ok {ys : List Pl} {n : Nat} (h : relN ys n = 0) : manyN ys n = if 500 < cntL (ys.map dgP) n then 3 else 0 := by
  unfold manyN
  rw [if_neg (by simpa using h), Int.toNat_natCast]
theorem relN_first {ys : List Pl} {n : Int} (h0 : relN ys n = 0) : ∃ y0, ys[0]? = some y0 := by
  have hne : ys ≠ [] := by
    intro h
    subst h
    by_cases ha : AllP []
    · rw [relN_no ha (fun h => h.1.1 rfl)] at h0; omega
    · rw [relN_bad ha] at h0; omega
  exact ⟨ys[0]'(by have := List.length_pos_iff.2 hne; omega), List.getElem?_eq_getElem _⟩
theorem manyN_facts {ys : List Pl} {n : Int} (h : manyN ys n = 0) : relN ys n = 0 ∧ cntL (ys.map dgP) n.toNat ≤ 500 := by
  have h0 : relN ys n = 0 := Classical.byContradiction fun h0 => h0 (by rw [manyN_bad h0] at h; exact h)
  refine ⟨h0, ?_⟩
  unfold manyN at h
  rw [if_neg (by simpa using h0)] at h
  split at h <;> omega

set_option maxHeartbeats 1000000 in
set_option maxRecDepth 4000 in
theorem manyCode_ok (ys : List Pl) (n : Int) (hl : ys.length ≤ 1048576) (hr : ∀ y ∈ ys, y.ts.length ≤ 1048576) : CallOK Go.Proofs.Tryz.prog 23 [.one (vPolys ys), .one (i64 n)] (.one (i64 (manyN ys n))) := by
  have hF := fnOk 20 [.tmp 4]
  refine callOK hF 60 Go.Proofs.Tryz.func23 rfl rfl rfl (by decide) (by simp) rfl ?_
  intro w0 hw
  have S := @vc_sound w0 _ hF ⟨(.one (i64 (manyN ys n))), []⟩ Go.Proofs.Tryz.f23 rfl (by simp)
  have c1 := relationsCode_ok ys n hl hr
  by_cases h0 : relN ys n = 0
  · obtain ⟨y0, hy0⟩ := relN_first h0
    obtain ⟨ha, _, hL, hn, hp, hd, hg, hd1⟩ := relN_facts h0 hy0
    obtain ⟨N, rfl⟩ : ∃ N : Nat, n = N := ⟨n.toNat, by omega⟩
    rw [h0] at c1
    rw [manyN_ok h0] at S ⊢
    have c2 := degreesOf_ok ys hl (fun y hy => by have := goodP_len (ha y hy); omega)
    have hdeg : (ys.map fun y => degT y.ts) = (ys.map dgP).map fun d : Nat => (d : Int) := by
      rw [List.map_map]
      exact List.map_congr_left fun y hy => degT_dg (hd1 y hy)
    rw [hdeg] at c2
    have c3 := ways_ok (ys.map dgP) N (by omega) (by rw [List.length_map]; exact hL.1) (fun d hd' => by
      obtain ⟨y, hy, rfl⟩ := List.mem_map.1 hd'
      exact ⟨hd1 y hy, dg_le (hg y hy).2.2⟩)
    have hrev := cntL_rev (ds := ys.map dgP) (fun d hd' => by obtain ⟨y, hy, rfl⟩ := List.mem_map.1 hd'; exact hd1 y hy) N
    have hwg := midW_get (F := cntL (ys.map dgP).reverse) (G := cntL (ys.map dgP).reverse) (k := N) (i := 0) (j := N) (Nat.le_refl _)
    rw [if_neg (by omega), hrev] at hwg
    have hml := midW_len (cntL (ys.map dgP).reverse) (cntL (ys.map dgP).reverse) N 0
    generalize midW (cntL (ys.map dgP).reverse) (cntL (ys.map dgP).reverse) N 0 = M at c3 hwg hml
    generalize cntL (ys.map dgP) N = C at hwg S ⊢
    have hM : N < M.length := by omega
    simp
    refine CallW.ok (by decide) (by simp) c1 (by simp) (S 60 _ _ ?_)
    simp
    refine CallW.ok (by decide) (by simp) c2 (by simp) (S 60 _ _ ?_)
    simp
    refine CallW.ok (by decide) (by simp) c3 (by simp) (S 60 _ _ ?_)
    simp
    refine ⟨hM, fun a ha => ?_⟩
    obtain rfl := Option.some.inj (hwg.symm.trans ha)
    by_cases h5 : 500 < C
    · simp [h5]
      exact fun h => by omega
    · simp [h5]
      exact ⟨by show (C : Int) ≤ 500; omega, fun _ => by omega⟩
  · rw [manyN_bad h0] at S ⊢
    generalize relN ys n = c at c1 h0 S ⊢
    simp
    refine CallW.ok (by decide) (by simp) c1 (by simp) (S 60 _ _ ?_)
    simp [h0]

set_option maxHeartbeats 1000000 in
set_option maxRecDepth 4000 in
theorem l09Some_ok (ys : List Pl) (n : Int) (hl : ys.length ≤ 1048576) (hr : ∀ y ∈ ys, y.ts.length ≤ 1048576) : CallOK Go.Proofs.Tryz.prog 20 [.one (vPolys ys), .one (i64 n)] (.one (i64 (manyN ys n))) := by
  have hF := fnOk 19 [.tmp 4]
  refine callOK hF 60 Go.Proofs.Tryz.func20 rfl rfl rfl (by decide) (by simp) rfl ?_
  intro w0 hw
  have S := @vc_sound w0 _ hF ⟨(.one (i64 (manyN ys n))), []⟩ Go.Proofs.Tryz.f20 rfl (by simp)
  have c1 := l05Some_ok ys n hl hr
  by_cases h0 : relN ys n = 0
  · obtain ⟨y0, hy0⟩ := relN_first h0
    obtain ⟨ha, _, hL, hn, hp, hd, hg, hd1⟩ := relN_facts h0 hy0
    obtain ⟨N, rfl⟩ : ∃ N : Nat, n = N := ⟨n.toNat, by omega⟩
    rw [h0] at c1
    rw [manyN_ok h0] at S ⊢
    have c2 := l05Exponents_ok ys N (by omega) hL.1 (fun y hy => ⟨by have := goodP_len (hg y hy).2.2; omega, hd1 y hy⟩)
    have hcnt : (expsL (ys.map dgP) N).length = cntL (ys.map dgP) N := rfl
    have hEl := expsL_len (ys.map dgP) N (by omega)
    have hp13 := pow13 (show (ys.map dgP).length ≤ 8 by simpa using hL.1)
    generalize expsL (ys.map dgP) N = L at hcnt hEl c2
    generalize cntL (ys.map dgP) N = C at hcnt S ⊢
    subst hcnt
    simp
    refine CallW.ok (by decide) (by simp) c1 (by simp) (S 60 _ _ ?_)
    simp
    refine CallW.ok (by decide) (by simp) c2 (by simp) (S 60 _ _ ?_)
    simp
    exact ⟨fun h => by omega, fun h => by omega⟩
  · rw [manyN_bad h0] at S ⊢
    generalize relN ys n = c at c1 h0 S ⊢
    simp
    refine CallW.ok (by decide) (by simp) c1 (by simp) (S 60 _ _ ?_)
    simp [h0]

theorem relK_len {p d : Int} {ys : List Pl} {n : Nat} (hp : Pr p) (hg : GL p d ys) (hd1 : ∀ y ∈ ys, 1 ≤ dgP y) (hn : n ≤ 12) :
    (relK p d ys n).length ≤ cntL (ys.map dgP) n ∧ ∀ r ∈ relK p d ys n, RowOk p (cntL (ys.map dgP) n) r := by
  have hrr := relRows_row hp.pos.1 hg hd1 hn
  have hrl : (relRows p d ys n (expsL (ys.map dgP) n)).length = cntL (ys.map dgP) n := by rw [relRows, List.length_map]; rfl
  have h1 := (kerS_red hp hrr).1
  rw [hrl] at h1
  refine ⟨?_, fun r hr => ?_⟩
  · have g1 := kerP_length (mons d n).length (echL p (longs (relRows p d ys n (expsL (ys.map dgP) n)).length 0 (relRows p d ys n (expsL (ys.map dgP) n))))
    have g2 := (ech_facts hp (longs_row (p := p) (m := (relRows p d ys n (expsL (ys.map dgP) n)).length) (i := 0) hp.pos.1 hrr)).1
    rw [longs_length, hrl] at g2
    rw [hrl] at g1
    show (kerP _ _).length ≤ _
    rw [hrl]
    exact Nat.le_trans g1 g2
  · exact (h1.1 r hr).1
end Go.Sm
