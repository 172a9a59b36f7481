/- Towards the rows of this seat: what the functions do, as contracts over plain data. -/
import Derived.Test.YtdfihhfnnogpeaaGreatPkQrNewRelationsBK19
namespace Go.Sm
open Go.RowKit

abbrev plO (x : Pl) : List D := [i64 x.p, i64 x.d, oTerms x.ts]
abbrev one1 : List Tm := [⟨e0, 1⟩]
/-- The products of a degree. -/
def prodsP (p d : Int) (ys : List Pl) (es : List (List Int)) : List Pl := es.map fun e => ⟨p, d, prodL p ys e one1⟩
theorem exps_facts {p d : Int} {ys : List Pl} {n : Nat} (_ : GL p d ys) (hd : ∀ y ∈ ys, 1 ≤ dgP y) (hn : n ≤ 12) : ∀ e ∈ expsL (ys.map dgP) n, e.length = ys.length ∧ degL (ys.map dgP) e ≤ 12 ∧ ∀ x ∈ e, 0 ≤ x ∧ x ≤ 12 := by
  intro e he
  obtain ⟨h1, h2, h3⟩ := expsL_mem (fun d hd' => by obtain ⟨y, hy, rfl⟩ := List.mem_map.1 hd'; exact hd y hy) he
  rw [List.length_map] at h1
  exact ⟨h1, by omega, fun x hx => by have := h3 x hx; omega⟩
theorem prodL_good {p d : Int} {ys : List Pl} {e : List Int} (hp : 2 ≤ p) (hg : GL p d ys) (h12 : degL (ys.map dgP) e ≤ 12) : Can p (prodL p ys e one1) ∧ AllE (DegLe d 12) (prodL p ys e one1) :=
  prodL_facts hp ys e one1 0 (fun y hy => dg_all (hg y hy).2.2) (one_can hp) (const_all d 1) (by omega)

set_option maxHeartbeats 1000000 in
set_option maxRecDepth 4000 in
theorem l05Products_ok (p d : Int) (ys : List Pl) (n : Nat) (hp : Pr p) (hd : 1 ≤ d ∧ d ≤ 3) (hg : GL p d ys) (hl : ys.length ≤ 8) (hne : ys ≠ []) (hd1 : ∀ y ∈ ys, 1 ≤ dgP y) (hn : n ≤ 12) : CallOK Go.Proofs.Tryz.prog 41 [.one (vPolys ys), .one (i64 n)] (.one (oPolys (prodsP p d ys (expsL (ys.map dgP) n)))) := by
  have hF := fnOk 28 [.tmp 4]
  refine callOK hF 60 Go.Proofs.Tryz.func41 rfl rfl rfl (by decide) (by simp) rfl ?_
  intro w0 hw
  have S := @vc_sound w0 _ hF ⟨(.one (oPolys (prodsP p d ys (expsL (ys.map dgP) n)))), []⟩ Go.Proofs.Tryz.f41 rfl (by simp)
  have c1 := l05Exponents_ok ys n hn hl (fun y hy => ⟨by have := goodP_len (hg y hy).2.2; omega, hd1 y hy⟩)
  have hef := exps_facts hg hd1 hn
  have hEl := expsL_len (ys.map dgP) n hn
  have hp13 := pow13 (show (ys.map dgP).length ≤ 8 by simpa using hl)
  generalize expsL (ys.map dgP) n = L at c1 hef hEl S ⊢
  simp
  refine CallW.ok (by decide) (by simp) c1 (by simp) (S 60 _ _ ?_)
  simp
  refine J.loop hw (fun u : Nat × List Pl => ⟨[(0, .c (.d (vPolys ys))), (5, .c (.ob 64005)), (6, .c (.ob 64006)), (7, .c (.d (i64 u.1)))],
      [(64005, .arr 48 1 (L.map fun x => [oInts x])), (64006, .arr 44 3 (u.2.map plO))]⟩)
    (fun u => u.1 ≤ L.length ∧ u.2 = prodsP p d ys (L.take u.1)) (fun u => L.length - u.1) (0, []) (by simp [prodsP]) (by simp) ?_
  rintro ⟨i, acc⟩ ⟨hi, hacc⟩
  simp only at hi hacc
  have hal : acc.length ≤ 815730721 := by rw [hacc, prodsP, List.length_map, List.length_take]; omega
  refine S 12 _ _ ?_
  simp
  refine ⟨fun hlt => ?_, fun hge => ?_⟩
  · obtain ⟨e, he⟩ : ∃ e, L[i]? = some e := ⟨L[i], List.getElem?_eq_getElem hlt⟩
    obtain ⟨e1, e2, e3⟩ := hef e (List.mem_of_getElem? he)
    have c2 := l05Product_ok p d ys e hp hd hg hl hne e1 e3 e2
    have hst : prodsP p d ys (L.take (i + 1)) = prodsP p d ys (L.take i) ++ [⟨p, d, prodL p ys e one1⟩] := by
      unfold prodsP
      rw [List.take_add_one, he]; simp
    generalize prodL p ys e one1 = T at c2 hst
    refine S 60 _ _ ?_
    simp
    refine ⟨hlt, fun x hx => ?_⟩
    obtain rfl : e = x := Option.some.inj (he.symm.trans hx)
    refine CallW.ok (by decide) (by simp) c2 (by simp) (S 60 _ _ ?_)
    simp
    refine BsW.move hF (e := 44) (es := [[i64 p, i64 d, oTerms T]]) (ks := [1538]) (by decide) rfl rfl rfl (by simp) (by simp) rfl (by decide) (by decide) (by simp) ?_
    refine S 60 _ _ ?_
    simp
    refine ⟨⟨by omega, by omega⟩, ?_⟩
    exact Nxt.mk (i + 1, acc ++ [⟨p, d, T⟩]) ⟨hlt, by show acc ++ [_] = _; rw [hacc, ← hst]⟩ (by simp [wrapS (i := i) (n := L.length) hlt (by omega)]) (by show L.length - (i + 1) < L.length - i; omega)
  · have e1 : L.take i = L := List.take_of_length_le hge
    rw [e1] at hacc
    subst hacc
    refine S 60 _ _ ?_
    simp

theorem relN_facts {ys : List Pl} {n : Int} {y0 : Pl} (h : relN ys n = 0) (h0 : ys[0]? = some y0) : AllP ys ∧ ys ≠ [] ∧ IsL ys ∧ (0 ≤ n ∧ n ≤ 12) ∧ Pr y0.p ∧ (1 ≤ y0.d ∧ y0.d ≤ 3) ∧ GL y0.p y0.d ys ∧ ∀ y ∈ ys, 1 ≤ dgP y := by
  have ha : AllP ys := Classical.byContradiction fun ha => by rw [relN_bad ha] at h; omega
  have h1 : (ys ≠ [] ∧ IsL ys) ∧ 0 ≤ n ∧ n ≤ 12 := Classical.byContradiction fun h1 => by rw [relN_no ha h1] at h; omega
  have hg0 := ha y0 (List.mem_of_getElem? h0)
  refine ⟨ha, h1.1.1, h1.1.2, h1.2, hg0.1, hg0.2.1, fun y hy => ?_, fun y hy => ?_⟩
  · obtain ⟨⟨e1, e2⟩, _⟩ := h1.1.2.2 y hy y0 h0
    have := ha y hy
    rw [e1, e2] at this
    exact ⟨e1, e2, this⟩
  · have := (h1.1.2.2 y hy y0 h0).2.2
    unfold dgP dg; omega

end Go.Sm
