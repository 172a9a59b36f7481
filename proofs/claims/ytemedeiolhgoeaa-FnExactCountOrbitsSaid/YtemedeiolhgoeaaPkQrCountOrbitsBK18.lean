/- Towards the rows of this seat: what the functions do, as contracts over plain data. -/
import Derived.Test.YtemedeiolhgoeaaPkQrCountOrbitsBK3
import Derived.Test.YtemedeiolhgoeaaPkQrCountOrbitsBK1
namespace Go.Sm
open Go.RowKit

def PointP (p d : Int) (v : List Int) : Prop := (v.length : Int) = d ∧ ∀ x ∈ v, 0 ≤ x ∧ x < p
instance (p d : Int) (v : List Int) : Decidable (PointP p d v) := by unfold PointP; infer_instance

end Go.Sm
