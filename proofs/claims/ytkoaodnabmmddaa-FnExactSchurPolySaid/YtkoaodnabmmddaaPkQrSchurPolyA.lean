/- Towards the rows of this seat: what the functions do, as contracts over plain data. -/
import Derived.Test.YtkoaodnabmmddaaPk23
import Derived.Test.YtkoaodnabmmddaaPk3
namespace Go.Sm
open Go.RowKit

set_option maxHeartbeats 1000000 in
set_option maxRecDepth 4000 in
theorem FnExactSchurPoly_ok (p : Int) (xs : List Int) (_ : xs.length ≤ maxLen) : CallOK Go.Proofs.Try.prog 14 [.one (i64 p), .one (vInts xs)] (.one (bo true)) := by
  have hF := fnOk 98 [.tmp 4]
  refine callOK hF 60 Go.Proofs.Try.func14 rfl rfl rfl (by decide) (by simp) rfl ?_
  intro w0 hw
  have S := @vc_sound w0 _ hF ⟨(.one (bo true)), []⟩ Go.Proofs.Try.f14 rfl (by simp)
  by_cases hl : xs.length ≤ 1048576
  · have c0 := toInt64S_ok xs hl
    have c1 := specSchurPoly_ok p xs hl
    have c2 := SchurPoly_ok p xs hl
    obtain ⟨p', d', ts, e, hR, hlt⟩ := schR_small p xs
    rw [hR] at c1 c2
    have c3 := eqPoly_ok p' d' p' d' ts ts hlt
    rw [decide_eq_true ⟨rfl, rfl, rfl⟩] at c3
    have c4 := markPoly_ok p' d' ts 1 hlt (by omega) (by omega)
    have c5 := heldPoly_ok p' d' ts.length 1 hlt (by omega) (by omega)
    have c6 := eqInt64S_ok xs xs (by omega)
    rw [decide_eq_true rfl] at c6
    have c7 := markInt64S_ok xs 1 (by omega) (by omega) (by omega)
    simp [show ¬ (1048576 : Int) < xs.length by omega]
    refine CallW.ok (by decide) (by simp) c0 (by simp) (S 60 _ _ ?_)
    simp
    refine CallW.ok (by decide) (by simp) c1 (by simp) (S 60 _ _ ?_)
    simp
    refine CallW.ok (by decide) (by simp) c0 (by simp) (S 60 _ _ ?_)
    simp
    refine CallW.ok (by decide) (by simp) c2 (by simp) (S 60 _ _ ?_)
    simp
    refine CallW.ok (by decide) (by simp) c3 (by simp) (S 60 _ _ ?_)
    simp
    refine CallW.ok (by decide) (by simp) c0 (by simp) (S 60 _ _ ?_)
    simp
    refine CallW.ok (by decide) (by simp) c6 (by simp) (S 60 _ _ ?_)
    simp
    refine CallW.mut c7 (by decide) (by simp) (by simp) (by simp) (by simp) (by simp) (by simp) (S 60 _ _ ?_)
    simp
    refine ⟨fun _ => ?_, show (0 : Int) ≤ 1 + xs.length by omega⟩
    refine CallW.ok (by decide) (by simp) c3 (by simp) (S 60 _ _ ?_)
    simp
    refine CallW.mut c4 (by decide) (by simp) (by simp) (by simp) (by simp) (by simp) (by simp) (S 60 _ _ ?_)
    simp
    refine CallW.ok (by decide) (by simp) c5 (by simp) (S 60 _ _ ?_)
    simp
    refine ⟨show (0 : Int) ≤ 1 + 4 * ts.length by omega, fun _ => ?_⟩
    refine CallW.ok (by decide) (by simp) c0 (by simp) (S 60 _ _ ?_)
    simp
    refine CallW.ok (by decide) (by simp) c2 (by simp) (S 60 _ _ ?_)
    simp
    refine CallW.ok (by decide) (by simp) c3 (by simp) (S 60 _ _ ?_)
    simp
    refine CallW.ok (by decide) (by simp) c5 (by simp) (S 60 _ _ ?_)
    simp
    exact show (0 : Int) ≤ 1 + 4 * ts.length by omega
  · simp [show (1048576 : Int) < xs.length by omega]

end Go.Sm
