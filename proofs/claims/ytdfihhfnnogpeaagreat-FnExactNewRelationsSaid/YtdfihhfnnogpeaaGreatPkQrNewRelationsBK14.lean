/- Towards the rows of this seat: what the functions do, as contracts over plain data. -/
import Derived.Test.YtdfihhfnnogpeaaGreatPkQrNewRelationsBK13
import Derived.Test.YtdfihhfnnogpeaaGreatPkQrNewRelationsBK2
import Derived.Test.YtdfihhfnnogpeaaGreatPkQrNewRelationsBK3
namespace Go.Sm
open Go.RowKit

/-- How monomials are ordered: by their exponents alone, or by the degree first. -/
def wL (e : Ex) : Nat := (e.a.toNat * 1000 + e.b.toNat) * 1000 + e.c.toNat
abbrev Tm.ds (t : Tm) : List D := [u8 t.e.a, u8 t.e.b, u8 t.e.c, i64 t.v]
end Go.Sm
