/- Towards the rows of this seat: what the functions do, as contracts over plain data. -/
import Derived.Test.YtemedeiolhgoeaaGreatPk3
import Derived.Test.YtemedeiolhgoeaaGreatPk47
namespace Go.Sm
open Go.RowKit

theorem big_ok (bs : List UInt8) : CallOK Go.Proofs.Tryz.prog 7 [.one (vB bs)] (.one (bo (decide (4096 < bs.length)))) := by
  have hF := fnOk 6 [.tmp 2]
  refine callOK hF 60 Go.Proofs.Tryz.func7 rfl rfl rfl (by decide) (by simp) rfl ?_
  intro w0 hw
  have S := @vc_sound w0 _ hF ⟨(.one (bo (decide (4096 < bs.length)))), []⟩ Go.Proofs.Tryz.f7 rfl (by simp)
  simp
  omega

theorem likeInts_ok (xs : List Int) (hl : xs.length ≤ 2000000) : CallOK Go.Proofs.Tryz.prog 176 [.one (vInts xs), .one (vInts xs)] (.one (bo true)) := by
  have hF := fnOk 26 [.tmp 4]
  refine callOK hF 60 Go.Proofs.Tryz.func176 rfl rfl rfl (by decide) (by simp) rfl ?_
  intro w0 hw
  have S := @vc_sound w0 _ hF ⟨(.one (bo true)), []⟩ Go.Proofs.Tryz.f176 rfl (by simp)
  simp
  refine J.loop hw (fun i : Nat => ⟨[(0, .c (.d (vInts xs))), (1, .c (.d (vInts xs))), (5, .c (.d (i64 i)))], []⟩)
    (fun i => i ≤ xs.length) (fun i => xs.length - i) 0 (by simp) (by simp) ?_
  intro i hi
  refine S 12 _ _ ?_
  simp
  unfold Later
  refine ⟨fun hlt => ?_, fun hge => ?_⟩
  · have g1 := gt_get hlt
    generalize gt xs i = x at g1
    refine S 60 _ _ ?_
    simp
    refine J.dr hF mixed 8 [[], [], [0, 1], [0, 1, 2], [], [], [4, 5], [4, 5, 6], [0, 1, 2, 3, 4, 5, 6, 7]] [[17, 18, 19, 20, 21, 22, 23, 24], [17, 18, 19, 20, 21, 22, 23, 24], [19, 20, 21, 22, 23, 24], [20, 21, 22, 23, 24], [17, 18, 19, 20, 21, 22, 23, 24], [17, 18, 19, 20, 21, 22, 23, 24], [17, 18, 19, 20, 23, 24], [17, 18, 19, 20, 24]] (by decide) ?_
    simp
    refine ⟨hlt, ?_⟩
    unfold Later
    intro a ha
    obtain rfl := Option.some.inj (g1.symm.trans ha)
    refine ⟨hlt, ?_⟩
    intro b hb
    obtain rfl := Option.some.inj (g1.symm.trans hb)
    refine S 60 _ _ ?_
    simp
    exact Nxt.mk (i + 1) hlt (by simp [wrapS (i := i) (n := xs.length) hlt (by omega)]) (by omega)
  · refine S 60 _ _ ?_
    simp

theorem lists9_ok (L : List (List Int)) (hl : L.length ≤ 2000000) (hr : ∀ r ∈ L, r.length ≤ 2000000) : CallOK Go.Proofs.Tryz.prog 73 [.one (vIntss L), .one (vIntss L)] (.one (bo true)) := by
  have hF := fnOk 27 [.tmp 4]
  refine callOK hF 60 Go.Proofs.Tryz.func73 rfl rfl rfl (by decide) (by simp) rfl ?_
  intro w0 hw
  have S := @vc_sound w0 _ hF ⟨(.one (bo true)), []⟩ Go.Proofs.Tryz.f73 rfl (by simp)
  simp
  refine J.loop hw (fun i : Nat => ⟨[(0, .c (.d (vIntss L))), (1, .c (.d (vIntss L))), (5, .c (.d (i64 i)))], []⟩)
    (fun i => i ≤ L.length) (fun i => L.length - i) 0 (by simp) (by simp) ?_
  intro i hi
  refine S 12 _ _ ?_
  simp
  unfold Later
  refine ⟨fun hlt => ?_, fun hge => ?_⟩
  · obtain ⟨r, g1⟩ : ∃ r, L[i]? = some r := ⟨L[i], List.getElem?_eq_getElem hlt⟩
    have c1 := likeInts_ok r (hr r (List.mem_of_getElem? g1))
    refine S 60 _ _ ?_
    simp
    refine J.dr hF mixed 8 [[], [], [0, 1], [0, 1, 2], [], [], [4, 5], [4, 5, 6], [0, 1, 2, 3, 4, 5, 6, 7], [0, 1, 2, 3, 4, 5, 6, 7, 8]] [[17, 18, 19, 20, 21, 22, 23, 24], [17, 18, 19, 20, 21, 22, 23, 24], [19, 20, 21, 22, 23, 24], [20, 21, 22, 23, 24], [17, 18, 19, 20, 21, 22, 23, 24], [17, 18, 19, 20, 21, 22, 23, 24], [17, 18, 19, 20, 23, 24], [17, 18, 19, 20, 24]] (by decide) ?_
    simp
    refine ⟨hlt, ?_⟩
    unfold Later
    intro a ha
    obtain rfl := Option.some.inj (g1.symm.trans ha)
    refine ⟨hlt, ?_⟩
    intro b hb
    obtain rfl := Option.some.inj (g1.symm.trans hb)
    refine S 60 _ _ ?_
    simp
    refine CallW.ok (by decide) (by simp) c1 (by simp) (S 60 _ _ ?_)
    simp
    exact Nxt.mk (i + 1) hlt (by simp [wrapS (i := i) (n := L.length) hlt (by omega)]) (by omega)
  · refine S 60 _ _ ?_
    simp

theorem codes9_ok (p l : Int) (L : List (List Int)) (hl : L.length ≤ 2000000) (hr : ∀ r ∈ L, r.length ≤ 2000000) : CallOK Go.Proofs.Tryz.prog 11 [vCode p l L, vCode p l L] (.one (bo true)) := by
  have hF := fnOk 24 [.tmp 4]
  refine callOK hF 60 Go.Proofs.Tryz.func11 rfl rfl rfl (by decide) (by simp) rfl ?_
  intro w0 hw
  have S := @vc_sound w0 _ hF ⟨(.one (bo true)), []⟩ Go.Proofs.Tryz.f11 rfl (by simp)
  have c1 := lists9_ok L hl hr
  simp
  refine CallW.ok (by decide) (by simp) c1 (by simp) (S 60 _ _ ?_)
  simp
end Go.Sm
