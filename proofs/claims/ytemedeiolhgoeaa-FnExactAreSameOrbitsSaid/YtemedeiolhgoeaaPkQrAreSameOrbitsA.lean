/- Towards the rows of this seat: what the functions do, as contracts over plain data. -/
import Derived.Test.YtemedeiolhgoeaaPk64
import Derived.Test.YtemedeiolhgoeaaPk60
namespace Go.Sm
open Go.RowKit

set_option maxHeartbeats 1000000 in
set_option maxRecDepth 4000 in
theorem FnExactAreSameOrbits_ok (p0 d0 : Int) (G0 : List Mx) (hb0 : G0.length ≤ maxLen) (v1 : List Int) (hb1 : v1.length ≤ maxLen) (v2 : List Int) (hb2 : v2.length ≤ maxLen) : CallOK Go.Proofs.Try.prog 3 [vGroup p0 d0 G0, .one (vInts v1), .one (vInts v2)] (.one (bo true)) := by
  have hF := fnOk 72 [.tmp 6]
  refine callOK hF 60 Go.Proofs.Try.func3 rfl rfl rfl (by decide) (by simp) rfl ?_
  intro w0 hw
  have S := @vc_sound w0 _ hF ⟨(.one (bo true)), []⟩ Go.Proofs.Try.f3 rfl (by simp)
  have hm : maxLen = 9223372036854775807 := rfl
  by_cases h1 : v1.length ≤ 1048576
  · have hn1 : ¬ (1048576 : Int) < v1.length := by omega
    by_cases h2 : v2.length ≤ 1048576
    · have hn2 : ¬ (1048576 : Int) < v2.length := by omega
      have z0 := szGroup_ok p0 d0 G0 (1048576) (by omega) (by omega) hb0
      by_cases hs0 : (1048576 : Int) - G0.length < 0
      · rw [if_pos hs0] at z0
        simp [hn1, hn2]
        refine CallW.ok (by decide) (by simp) z0 (by simp) (S 60 _ _ ?_)
        simp
      · rw [if_neg hs0] at z0
        have h0 : G0.length ≤ 1048576 := by omega
        have c0 := toGroup_ok p0 d0 G0 h0
        have c1 := toInt64S_ok v1 h1
        have c2 := toInt64S_ok v2 h2
        have cs := specAreSameOrbits_ok p0 d0 G0 v1 v2 h0 h1 h2
        have ci := AreSameOrbits_ok p0 d0 G0 v1 v2 h0 h1 h2
        have q0 := eqGroup_ok p0 d0 p0 d0 G0 G0 (by omega)
        rw [decide_eq_true ⟨rfl, rfl, rfl⟩] at q0
        have q1 := eqInt64S_ok v1 v1 (by omega)
        rw [decide_eq_true rfl] at q1
        have q2 := eqInt64S_ok v2 v2 (by omega)
        rw [decide_eq_true rfl] at q2
        generalize sameR p0 d0 G0 v1 v2 = rs at cs ci
        obtain ⟨g0, er⟩ := rs
        try simp only at cs ci
        simp [hn1, hn2]
        refine CallW.ok (by decide) (by simp) z0 (by simp) (S 60 _ _ ?_)
        simp
        refine fun _ => ?_
        refine CallW.ok (by decide) (by simp) c0 (by simp) (S 60 _ _ ?_)
        simp
        refine CallW.ok (by decide) (by simp) c1 (by simp) (S 60 _ _ ?_)
        simp
        refine CallW.ok (by decide) (by simp) c2 (by simp) (S 60 _ _ ?_)
        simp
        refine CallW.ok (by decide) (by simp) cs (by simp) (S 60 _ _ ?_)
        simp
        refine CallW.ok (by decide) (by simp) c0 (by simp) (S 60 _ _ ?_)
        simp
        refine CallW.ok (by decide) (by simp) c1 (by simp) (S 60 _ _ ?_)
        simp
        refine CallW.ok (by decide) (by simp) c2 (by simp) (S 60 _ _ ?_)
        simp
        refine CallW.ok (by decide) (by simp) ci (by simp) (S 60 _ _ ?_)
        simp
        refine J.dr hF mixed 3 [[], [], [1], [0, 1, 2], [0, 1, 2, 3]] [[57, 58, 59], [57, 58, 59], [57, 59]] (by decide) ?_
        simp
        refine DrC.ok hF (by rfl) (by simp) c0 (by simp) (by simp) ?_
        simp
        refine S 60 _ _ ?_
        simp
        refine CallW.ok (by decide) (by simp) q0 (by simp) (S 60 _ _ ?_)
        simp
        refine CallW.ok (by decide) (by simp) c1 (by simp) (S 60 _ _ ?_)
        simp
        refine CallW.ok (by decide) (by simp) q1 (by simp) (S 60 _ _ ?_)
        simp
        refine CallW.ok (by decide) (by simp) c2 (by simp) (S 60 _ _ ?_)
        simp
        refine CallW.ok (by decide) (by simp) q2 (by simp) (S 60 _ _ ?_)
        simp
    · simp [hn1, show (1048576 : Int) < v2.length by omega]
  · simp [show (1048576 : Int) < v1.length by omega]

end Go.Sm
