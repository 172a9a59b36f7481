/- Towards the rows of this seat: what the functions do, as contracts over plain data. -/
import Derived.Test.YtdfihhfnnogpeaaGreatPkQrNewRelationsBK27
import Derived.Test.YtdfihhfnnogpeaaGreatPkQrNewRelationsBK24
namespace Go.Sm
open Go.RowKit

theorem hL_of {p d : Int} {ys : List Pl} {y0 : Pl} (h0 : ys[0]? = some y0) (hL : IsL ys) (hg : GL p d ys) : HL d ys := fun y hy => by
  have h1 := hL.2 y hy y0 h0
  exact hom_of (hg y hy).2.2 h1.2.1 h1.2.2
theorem gen_rel {p d : Int} (hp : Pr p) {ys : List Pl} (hg : GL p d ys) (hh : HL d ys) (hd1 : ∀ y ∈ ys, 1 ≤ dgP y) {n : Nat} (hn : n ≤ 12) :
    (relK p d ys n).length + (genAt p d ys n).length = cntL (ys.map dgP) n := by
  rw [gen_span hp hg hh hd1 n n (Nat.le_refl _) hn]
  have h := rank_null hp (relRows_row (d := d) hp.pos.1 hg hd1 hn)
  have hl : (relRows p d ys n (expsL (ys.map dgP) n)).length = cntL (ys.map dgP) n := by rw [relRows, List.length_map]; rfl
  rw [hl] at h
  exact h

set_option maxHeartbeats 1000000 in
theorem generatedBy_ok (p d : Int) (ys : List Pl) (n : Nat) (hp : Pr p) (hd : 1 ≤ d ∧ d ≤ 3) (hg : GL p d ys) (hh : HL d ys) (hl : ys.length ≤ 8) (hne : ys ≠ []) (hd1 : ∀ y ∈ ys, 1 ≤ dgP y) (hn : n ≤ 12) : CallOK Go.Proofs.Tryz.prog 48 [.one (vPolys ys), .one (i64 n)] (.one (oIntss (genAt p d ys n))) := by
  have hF := fnOk 16 [.tmp 4]
  refine callOK hF 60 Go.Proofs.Tryz.func48 rfl rfl rfl (by decide) (by simp) rfl ?_
  intro w0 hw
  have S := @vc_sound w0 _ hF ⟨(.one (oIntss (genAt p d ys n))), []⟩ Go.Proofs.Tryz.f48 rfl (by simp)
  have c1 := generated_ok p d ys n hp hd hg hh hl hd1 hn
  have hlt : 0 < ys.length := List.length_pos_iff.2 hne
  generalize genAt p d ys n = G at c1 S ⊢
  simp
  refine J.dr hF mixed 10 [[], [0], [0, 1], [0, 1, 2], [], [4], [4, 5], [4, 5, 6], [], [], [0, 1, 2, 3, 4, 5, 6, 7, 8, 9], [0, 1, 2, 3, 4, 5, 6, 7, 8, 9, 10]] [[5, 6, 7, 8, 9, 10, 11, 12, 13, 14], [6, 7, 8, 9, 10, 11, 12, 13, 14], [7, 8, 9, 10, 11, 12, 13, 14], [8, 9, 10, 11, 12, 13, 14], [5, 6, 7, 8, 9, 10, 11, 12, 13, 14], [5, 6, 7, 8, 10, 11, 12, 13, 14], [5, 6, 7, 8, 11, 12, 13, 14], [5, 6, 7, 8, 12, 13, 14], [5, 6, 7, 8, 9, 10, 11, 12, 13, 14], [5, 6, 7, 8, 9, 10, 11, 12, 13, 14]] (by decide) ?_
  simp
  refine ⟨hlt, fun a ha => ⟨hlt, fun b hb => ?_⟩⟩
  have ea := (hg a (List.mem_of_getElem? ha)).1
  have eb := (hg b (List.mem_of_getElem? hb)).2.1
  rw [ea, eb]
  refine S 60 _ _ ?_
  simp
  refine CallW.ok (by decide) (by simp) c1 (by simp) (S 60 _ _ ?_)
  simp

set_option maxHeartbeats 1000000 in
theorem countRelations_ok (p d : Int) (ys : List Pl) (n : Nat) (hp : Pr p) (hd : 1 ≤ d ∧ d ≤ 3) (hg : GL p d ys) (hh : HL d ys) (hl : ys.length ≤ 8) (hne : ys ≠ []) (hd1 : ∀ y ∈ ys, 1 ≤ dgP y) (hn : n ≤ 12) (hCl : cntL (ys.map dgP) n ≤ 500000) : CallOK Go.Proofs.Tryz.prog 24 [.one (vPolys ys), .one (i64 n)] (.one (i64 (relK p d ys n).length)) := by
  have hF := fnOk 17 [.tmp 4]
  refine callOK hF 60 Go.Proofs.Tryz.func24 rfl rfl rfl (by decide) (by simp) rfl ?_
  intro w0 hw
  have S := @vc_sound w0 _ hF ⟨(.one (i64 (relK p d ys n).length)), []⟩ Go.Proofs.Tryz.f24 rfl (by simp)
  have c4 := generatedBy_ok p d ys n hp hd hg hh hl hne hd1 hn
  have hr := gen_rel hp hg hh hd1 hn
  have c2 := degreesOf_ok ys (by omega) (fun y hy => by have := goodP_len (hg y hy).2.2; omega)
  have hdeg : (ys.map fun y => degT y.ts) = (ys.map dgP).map fun d : Nat => (d : Int) := by
    rw [List.map_map]
    exact List.map_congr_left fun y hy => degT_dg (hd1 y hy)
  rw [hdeg] at c2
  have c3 := ways_ok (ys.map dgP) n (by omega) (by rw [List.length_map]; exact hl) (fun d hd' => by
    obtain ⟨y, hy, rfl⟩ := List.mem_map.1 hd'
    exact ⟨hd1 y hy, dg_le (hg y hy).2.2⟩)
  have hrev := cntL_rev (ds := ys.map dgP) (fun d hd' => by obtain ⟨y, hy, rfl⟩ := List.mem_map.1 hd'; exact hd1 y hy) n
  have hwg := midW_get (F := cntL (ys.map dgP).reverse) (G := cntL (ys.map dgP).reverse) (k := n) (i := 0) (j := n) (Nat.le_refl _)
  rw [if_neg (by omega), hrev] at hwg
  have hml := midW_len (cntL (ys.map dgP).reverse) (cntL (ys.map dgP).reverse) n 0
  generalize midW (cntL (ys.map dgP).reverse) (cntL (ys.map dgP).reverse) n 0 = M at c3 hwg hml
  generalize cntL (ys.map dgP) n = C at hwg hr hCl
  generalize genAt p d ys n = G at c4 hr
  generalize relK p d ys n = K at hr S ⊢
  have hM : n < M.length := by omega
  simp
  refine J.dr hF mixed 11 [[], [0], [], [0, 1, 2], [], [0, 1, 2, 3, 4], [0, 1, 2, 3, 4, 5], [], [], [0, 1, 2, 3, 7, 8], [0, 1, 2, 3, 7, 8, 9], [0, 1, 2, 3, 4, 5, 6, 7, 8, 9, 10], [0, 1, 2, 3, 4, 5, 6, 7, 8, 9, 10, 11]] [[5, 6, 7, 8, 9, 10, 11, 12, 13, 14, 15], [6, 7, 8, 9, 10, 11, 12, 13, 14, 15], [5, 6, 7, 8, 9, 10, 11, 12, 13, 14, 15], [8, 9, 10, 11, 12, 13, 14, 15], [5, 6, 7, 8, 9, 10, 11, 12, 13, 14, 15], [10, 11, 12, 13, 14, 15], [11, 12, 13, 14, 15], [5, 6, 7, 8, 9, 10, 11, 12, 13, 14, 15], [5, 6, 7, 8, 9, 10, 11, 12, 13, 14, 15], [9, 10, 11, 14, 15], [9, 10, 11, 15]] (by decide) ?_
  simp
  refine DrC.ok hF (by rfl) (by simp) c2 (by simp) (by simp) ?_
  simp
  refine DrC.ok hF (by rfl) (by simp) c3 (by simp) (by simp) ?_
  simp
  refine ⟨hM, fun a ha => ?_⟩
  obtain rfl := Option.some.inj (hwg.symm.trans ha)
  refine DrC.ok hF (by rfl) (by simp) c4 (by simp) (by simp) ?_
  have hw1 : IntKind.i64.wrap ((C : Int) - (G.length : Int)) = (K.length : Int) := by rw [wrap64] <;> omega
  simp
  refine S 60 _ _ ?_
  simp
  exact hw1

end Go.Sm
