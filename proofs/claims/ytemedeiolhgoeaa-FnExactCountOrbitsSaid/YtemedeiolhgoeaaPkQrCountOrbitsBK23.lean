/- Towards the rows of this seat: what the functions do, as contracts over plain data. -/
import Derived.Test.YtemedeiolhgoeaaPkQrCountOrbitsBK21
import Derived.Test.YtemedeiolhgoeaaPkQrCountOrbitsBK22
namespace Go.Sm
open Go.RowKit

set_option maxHeartbeats 1000000 in
set_option maxRecDepth 4000 in
theorem FnExactCountOrbits_ok (p0 d0 : Int) (G0 : List Mx) (hb0 : G0.length ≤ maxLen) : CallOK Go.Proofs.Try.prog 4 [vGroup p0 d0 G0] (.one (bo true)) := by
  have hF := fnOk 40 [.tmp 2]
  refine callOK hF 60 Go.Proofs.Try.func4 rfl rfl rfl (by decide) (by simp) rfl ?_
  intro w0 hw
  have S := @vc_sound w0 _ hF ⟨(.one (bo true)), []⟩ Go.Proofs.Try.f4 rfl (by simp)
  have hm : maxLen = 9223372036854775807 := rfl
  have z0 := szGroup_ok p0 d0 G0 (1048576) (by omega) (by omega) hb0
  by_cases hs0 : (1048576 : Int) - G0.length < 0
  · rw [if_pos hs0] at z0
    simp
    refine CallW.ok (by decide) (by simp) z0 (by simp) (S 60 _ _ ?_)
    simp
  · rw [if_neg hs0] at z0
    have h0 : G0.length ≤ 1048576 := by omega
    have c0 := toGroup_ok p0 d0 G0 h0
    have cs := specCountOrbits_ok p0 d0 G0 h0
    have ci := CountOrbits_ok p0 d0 G0 h0
    have q0 := eqGroup_ok p0 d0 p0 d0 G0 G0 (by omega)
    rw [decide_eq_true ⟨rfl, rfl, rfl⟩] at q0
    generalize orbsR p0 d0 G0 = rs at cs ci
    obtain ⟨g0, er⟩ := rs
    try simp only at cs ci
    simp
    refine CallW.ok (by decide) (by simp) z0 (by simp) (S 60 _ _ ?_)
    simp
    refine fun _ => ?_
    refine CallW.ok (by decide) (by simp) c0 (by simp) (S 60 _ _ ?_)
    simp
    refine CallW.ok (by decide) (by simp) cs (by simp) (S 60 _ _ ?_)
    simp
    refine CallW.ok (by decide) (by simp) c0 (by simp) (S 60 _ _ ?_)
    simp
    refine CallW.ok (by decide) (by simp) ci (by simp) (S 60 _ _ ?_)
    simp
    refine J.dr hF mixed 3 [[], [], [1], [0, 1, 2], [0, 1, 2, 3]] [[35, 36, 37], [35, 36, 37], [35, 37]] (by decide) ?_
    simp
    refine DrC.ok hF (by rfl) (by simp) c0 (by simp) (by simp) ?_
    simp
    refine S 60 _ _ ?_
    simp
    refine CallW.ok (by decide) (by simp) q0 (by simp) (S 60 _ _ ?_)
    simp

end Go.Sm
