/- Towards the rows of this seat: what the functions do, as contracts over plain data. -/
import Derived.Test.YtdfihhfnnogpeaaGreatPkQrNewRelationsBK15
import Derived.Test.YtdfihhfnnogpeaaGreatPkQrNewRelationsBK10
import Derived.Test.YtdfihhfnnogpeaaGreatPkQrNewRelationsBK6
import Derived.Test.YtdfihhfnnogpeaaGreatPkQrNewRelationsBK3
namespace Go.Sm
open Go.RowKit

theorem isZero_ok (p d : Int) (ts : List Tm) (hl : ts.length ≤ 1000000) : CallOK Go.Proofs.Tryz.prog 112 [pv p d ts] (.one (bo (decide (ts = [])))) := by
  have hF := fnOk 7 [.tmp 2]
  refine callOK hF 60 Go.Proofs.Tryz.func112 rfl rfl rfl (by decide) (by simp) rfl ?_
  intro w0 hw
  have S := @vc_sound w0 _ hF ⟨(.one (bo (decide (ts = [])))), []⟩ Go.Proofs.Tryz.f112 rfl (by simp)
  cases ts with
  | nil => simp
  | cons t ts =>
    simp
    omega

end Go.Sm
