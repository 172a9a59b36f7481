/- The law of ElementaryPoly. -/
import Derived.Test.YtihinogdolhjcaaQdE
namespace Go.Sm
open Go.RowKit

set_option maxRecDepth 4000 in
theorem FnExactElementaryPoly_ok (p d k : Int) : CallOK Go.Proofs.Try.prog 9 [.one (i64 p), .one (i64 d), .one (i64 k)] (.one (bo true)) := by
  have hF := fnOk 73 [.tmp 6]
  refine callOK hF 60 Go.Proofs.Try.func9 rfl rfl rfl (by decide) (by simp) rfl ?_
  intro w0 hw
  have S := @vc_sound w0 _ hF ⟨(.one (bo true)), []⟩ Go.Proofs.Try.f9 rfl (by simp)
  have c1 := specElementaryPoly_ok p d k
  have c2 := ElementaryPoly_ok p d k
  obtain ⟨p', d', ts, e, hR, hl⟩ := elemR_small p d k
  rw [hR] at c1 c2
  have c3 := eqPoly_ok p' d' p' d' ts ts hl
  rw [decide_eq_true ⟨rfl, rfl, rfl⟩] at c3
  have c4 := markPoly_ok p' d' ts 1 hl (by omega) (by omega)
  have c5 := heldPoly_ok p' d' ts.length 1 hl (by omega) (by omega)
  simp
  refine CallW.ok (by decide) (by simp) c1 (by simp) (S 60 _ _ ?_)
  simp
  refine CallW.ok (by decide) (by simp) c2 (by simp) (S 60 _ _ ?_)
  simp
  refine CallW.ok (by decide) (by simp) c3 (by simp) (S 60 _ _ ?_)
  simp
  refine CallW.mut c4 (by decide) (by simp) (by simp) (by simp) (by simp) (by simp) (by simp) (S 60 _ _ ?_)
  simp
  refine CallW.ok (by decide) (by simp) c5 (by simp) (S 60 _ _ ?_)
  simp
  refine ⟨show (0 : Int) ≤ 1 + 4 * ts.length by omega, fun _ => ?_⟩
  refine CallW.ok (by decide) (by simp) c2 (by simp) (S 60 _ _ ?_)
  simp
  refine CallW.ok (by decide) (by simp) c3 (by simp) (S 60 _ _ ?_)
  simp
  refine CallW.ok (by decide) (by simp) c5 (by simp) (S 60 _ _ ?_)
  simp
  exact show (0 : Int) ≤ 1 + 4 * ts.length by omega

end Go.Sm
