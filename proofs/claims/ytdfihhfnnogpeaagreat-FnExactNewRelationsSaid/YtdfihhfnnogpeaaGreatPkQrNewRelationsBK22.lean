/- Towards the rows of this seat: what the functions do, as contracts over plain data. -/
import Derived.Test.YtdfihhfnnogpeaaGreatPkQrNewRelationsBK21
import Derived.Test.YtdfihhfnnogpeaaGreatPkQrNewRelationsBK3
namespace Go.Sm
open Go.RowKit

end Go.Sm

namespace Go.Sm
open Go.RowKit

theorem argEs_takeN : ∀ (xs : List (List D)) (i : Nat), argEs (xs.take i) = (argEs xs).take i
  | [], i => by simp [argEs]
  | x :: xs, 0 => by simp [argEs]
  | x :: xs, i + 1 => by simp [argEs, argEs_takeN xs i]
theorem argEs_dropN : ∀ (xs : List (List D)) (i : Nat), argEs (xs.drop i) = (argEs xs).drop i
  | [], i => by simp [argEs]
  | x :: xs, 0 => by simp [argEs]
  | x :: xs, i + 1 => by simp [argEs, argEs_dropN xs i]
end Go.Sm

namespace Go.Sm
open Go.RowKit

end Go.Sm

namespace Go.Sm
open Go.RowKit

end Go.Sm

namespace Go.Sm
open Go.RowKit

end Go.Sm
