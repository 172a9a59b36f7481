/- Ranges of numbers. -/
import Derived.Test.YtihinogdolhjcaaSnF
namespace Go.Sm
open Go.RowKit

theorem l01In_ok (n lo hi : Int) : CallOK Go.Proofs.Try.prog 76 [.one (i64 n), .one (i64 lo), .one (i64 hi)] (.one (bo (decide (lo ≤ n ∧ n ≤ hi)))) := by
  have hF := fnOk 15 [.tmp 6]
  refine callOK hF 50 Go.Proofs.Try.func76 rfl rfl rfl (by decide) (by simp) rfl ?_
  intro w0 hw
  simp
  refine ⟨fun h => by simp [h], fun h => ?_⟩
  have : ¬ lo ≤ n := by omega
  simp [this]

theorem isDegree_ok (n : Int) : CallOK Go.Proofs.Try.prog 81 [.one (i64 n)] (.one (bo (decide (0 ≤ n ∧ n ≤ 12)))) := by
  have hF := fnOk 9 [.tmp 2]
  refine callOK hF 50 Go.Proofs.Try.func81 rfl rfl rfl (by decide) (by simp) rfl ?_
  intro w0 hw
  simp
  refine ⟨fun h => ?_, fun h => ?_⟩
  · simp [h]
  · have : ¬ 0 ≤ n := by omega
    simp [this]

theorem isVars_ok (n : Int) : CallOK Go.Proofs.Try.prog 80 [.one (i64 n)] (.one (bo (decide (1 ≤ n ∧ n ≤ 3)))) := by
  have hF := fnOk 9 [.tmp 2]
  refine callOK hF 50 Go.Proofs.Try.func80 rfl rfl rfl (by decide) (by simp) rfl ?_
  intro w0 hw
  simp
  refine ⟨fun h => ?_, fun h => ?_⟩
  · simp [h]
  · have : ¬ 1 ≤ n := by omega
    simp [this]

end Go.Sm
