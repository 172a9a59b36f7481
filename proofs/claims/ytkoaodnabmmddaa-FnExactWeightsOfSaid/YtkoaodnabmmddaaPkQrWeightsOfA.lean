/- Towards the rows of this seat: what the functions do, as contracts over plain data. -/
import Derived.Test.YtkoaodnabmmddaaPk13
namespace Go.Sm
open Go.RowKit

set_option maxHeartbeats 1000000 in
set_option maxRecDepth 4000 in
theorem FnExactWeightsOf_ok (p0 l0 : Int) (r0 : List (List Int)) (hb0 : r0.length ≤ maxLen ∧ ∀ r ∈ r0, r.length ≤ maxLen) : CallOK Go.Proofs.Try.prog 9 [vCode p0 l0 r0] (.one (bo true)) := by
  have hF := fnOk 96 [.tmp 2]
  refine callOK hF 60 Go.Proofs.Try.func9 rfl rfl rfl (by decide) (by simp) rfl ?_
  intro w0 hw
  have S := @vc_sound w0 _ hF ⟨(.one (bo true)), []⟩ Go.Proofs.Try.f9 rfl (by simp)
  have hm : maxLen = 9223372036854775807 := rfl
  have z0 := szCode_ok p0 l0 r0 (1048576) (by omega) (by omega) hb0.1 hb0.2
  by_cases hs0 : (1048576 : Int) - r0.length - total r0 < 0
  · have e0 : szL (1048576) r0 = -1 := if_pos hs0
    rw [e0] at z0
    simp
    refine CallW.ok (by decide) (by simp) z0 (by simp) (S 60 _ _ ?_)
    simp
  · have e0 : szL (1048576) r0 = (1048576 : Int) - r0.length - total r0 := if_neg hs0
    rw [e0] at z0
    have hl0 : r0.length ≤ 1048576 := by omega
    have hr0 : ∀ r ∈ r0, r.length ≤ 1048576 := fun r hr => by have := len_total hr; omega
    have c0 := toCode_ok p0 l0 r0 hl0 hr0
    have cs := specWeightsOf_ok p0 l0 r0 hl0 hr0
    have ci := WeightsOf_ok p0 l0 r0 hl0 hr0
    have q0 := eqCode_ok p0 l0 p0 l0 r0 r0 (by omega) (fun x hx => by have := hr0 x hx; omega)
    rw [decide_eq_true ⟨rfl, rfl, rfl⟩] at q0
    obtain ⟨E, er, hR, hE1⟩ := wtsOf_small p0 l0 r0
    rw [hR] at cs ci
    have qr := eqInt64S_ok E E (by omega)
    rw [decide_eq_true rfl] at qr
    have mr := markInt64S_ok E 1 (by omega) (by omega) (by omega)
    have hml := markL_length E.length 1
    have hr := heldInt64S_ok (markL E.length 1) 1 (by rw [hml]) (by omega) (by omega) (by omega)
    rw [hml] at hr
    have m0 := markCode_ok p0 l0 r0 1 (by omega) (by omega) (by omega)
    simp
    refine CallW.ok (by decide) (by simp) z0 (by simp) (S 60 _ _ ?_)
    simp
    refine fun _ => ?_
    refine CallW.ok (by decide) (by simp) c0 (by simp) (S 60 _ _ ?_)
    simp
    refine CallW.ok (by decide) (by simp) cs (by simp) (S 60 _ _ ?_)
    simp
    refine CallW.ok (by decide) (by simp) c0 (by simp) (S 60 _ _ ?_)
    simp
    refine CallW.ok (by decide) (by simp) ci (by simp) (S 60 _ _ ?_)
    simp
    refine CallW.ok (by decide) (by simp) qr (by simp) (S 60 _ _ ?_)
    simp
    refine J.dr hF mixed 3 [[], [], [1], [0, 1, 2], [0, 1, 2, 3]] [[41, 42, 43], [41, 42, 43], [41, 43]] (by decide) ?_
    simp
    refine DrC.ok hF (by rfl) (by simp) c0 (by simp) (by simp) ?_
    simp
    refine S 60 _ _ ?_
    simp
    refine CallW.ok (by decide) (by simp) q0 (by simp) (S 60 _ _ ?_)
    simp
    refine CallW.mut m0 (by decide) (by simp) (by simp) (by simp) (by simp) (by simp) (by simp) (S 60 _ _ ?_)
    simp
    refine ⟨fun _ => ?_, show (0 : Int) ≤ 1 + total r0 by omega⟩
    refine CallW.ok (by decide) (by simp) qr (by simp) (S 60 _ _ ?_)
    simp
    refine CallW.mut mr (by decide) (by simp) (by simp) (by simp) (by simp) (by simp) (by simp) (S 60 _ _ ?_)
    simp
    refine CallW.ok (by decide) (by simp) hr (by simp) (S 60 _ _ ?_)
    simp
    refine ⟨show (0 : Int) ≤ 1 + E.length by omega, fun _ => ?_⟩
    refine CallW.ok (by decide) (by simp) c0 (by simp) (S 60 _ _ ?_)
    simp
    refine CallW.ok (by decide) (by simp) ci (by simp) (S 60 _ _ ?_)
    simp
    refine CallW.ok (by decide) (by simp) qr (by simp) (S 60 _ _ ?_)
    simp
    refine CallW.ok (by decide) (by simp) hr (by simp) (S 60 _ _ ?_)
    simp
    exact show (0 : Int) ≤ 1 + E.length by omega

end Go.Sm
