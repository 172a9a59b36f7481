/- Towards the rows of this seat: what the functions do, as contracts over plain data. -/
import Derived.Test.YtdfihhfnnogpeaaPk28
import Derived.Test.YtdfihhfnnogpeaaPk16
namespace Go.Sm
open Go.RowKit

set_option maxHeartbeats 1000000 in
set_option maxRecDepth 4000 in
theorem FnExactTellSymmetric_ok (p0 d0 : Int) (t0 : List Tm) (hb0 : t0.length ≤ maxLen) : CallOK Go.Proofs.Try.prog 4 [pv p0 d0 t0] (.one (bo true)) := by
  have hF := fnOk 96 [.tmp 2]
  refine callOK hF 60 Go.Proofs.Try.func4 rfl rfl rfl (by decide) (by simp) rfl ?_
  intro w0 hw
  have S := @vc_sound w0 _ hF ⟨(.one (bo true)), []⟩ Go.Proofs.Try.f4 rfl (by simp)
  have hm : maxLen = 9223372036854775807 := rfl
  have z0 := szPoly_ok p0 d0 t0 (1048576) (by omega) (by omega) hb0
  by_cases hs0 : (1048576 : Int) - t0.length < 0
  · rw [if_pos hs0] at z0
    simp
    refine CallW.ok (by decide) (by simp) z0 (by simp) (S 60 _ _ ?_)
    simp
  · rw [if_neg hs0] at z0
    have h0 : t0.length ≤ 1048576 := by omega
    have c0 := toPoly_ok p0 d0 t0 h0
    have cs := specTellSymmetric_ok p0 d0 t0 h0
    have ci := TellSymmetric_ok p0 d0 t0 h0
    have q0 := eqPoly_ok p0 d0 p0 d0 t0 t0 (by omega)
    rw [decide_eq_true ⟨rfl, rfl, rfl⟩] at q0
    obtain ⟨p9, d9, E, er, hR, hE1⟩ := tsO_small p0 d0 t0
    rw [hR] at cs ci
    have qr := eqPoly_ok p9 d9 p9 d9 E E (by omega)
    rw [decide_eq_true ⟨rfl, rfl, rfl⟩] at qr
    have mr := markPoly_ok p9 d9 E 1 (by omega) (by omega) (by omega)
    have hr := heldPoly_ok p9 d9 E.length 1 (by omega) (by omega) (by omega)
    have m0 := markPoly_ok p0 d0 t0 1 (by omega) (by omega) (by omega)
    simp
    refine CallW.ok (by decide) (by simp) z0 (by simp) (S 60 _ _ ?_)
    simp
    refine fun _ => ?_
    refine CallW.ok (by decide) (by simp) c0 (by simp) (S 60 _ _ ?_)
    simp
    refine CallW.ok (by decide) (by simp) cs (by simp) (S 60 _ _ ?_)
    simp
    refine CallW.ok (by decide) (by simp) c0 (by simp) (S 60 _ _ ?_)
    simp
    refine CallW.ok (by decide) (by simp) ci (by simp) (S 60 _ _ ?_)
    simp
    refine CallW.ok (by decide) (by simp) qr (by simp) (S 60 _ _ ?_)
    simp
    refine J.dr hF mixed 3 [[], [], [1], [0, 1, 2], [0, 1, 2, 3]] [[41, 42, 43], [41, 42, 43], [41, 43]] (by decide) ?_
    simp
    refine DrC.ok hF (by rfl) (by simp) c0 (by simp) (by simp) ?_
    simp
    refine S 60 _ _ ?_
    simp
    refine CallW.ok (by decide) (by simp) q0 (by simp) (S 60 _ _ ?_)
    simp
    refine CallW.mut m0 (by decide) (by simp) (by simp) (by simp) (by simp) (by simp) (by simp) (S 60 _ _ ?_)
    simp
    refine ⟨fun _ => ?_, show (0 : Int) ≤ 1 + 4 * t0.length by omega⟩
    refine CallW.ok (by decide) (by simp) qr (by simp) (S 60 _ _ ?_)
    simp
    refine CallW.mut mr (by decide) (by simp) (by simp) (by simp) (by simp) (by simp) (by simp) (S 60 _ _ ?_)
    simp
    refine CallW.ok (by decide) (by simp) hr (by simp) (S 60 _ _ ?_)
    simp
    refine ⟨show (0 : Int) ≤ 1 + 4 * E.length by omega, fun _ => ?_⟩
    refine CallW.ok (by decide) (by simp) c0 (by simp) (S 60 _ _ ?_)
    simp
    refine CallW.ok (by decide) (by simp) ci (by simp) (S 60 _ _ ?_)
    simp
    refine CallW.ok (by decide) (by simp) qr (by simp) (S 60 _ _ ?_)
    simp
    refine CallW.ok (by decide) (by simp) hr (by simp) (S 60 _ _ ?_)
    simp
    exact show (0 : Int) ≤ 1 + 4 * E.length by omega

end Go.Sm
