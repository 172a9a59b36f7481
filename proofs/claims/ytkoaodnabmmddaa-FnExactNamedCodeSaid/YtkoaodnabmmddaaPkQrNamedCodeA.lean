/- Towards the rows of this seat: what the functions do, as contracts over plain data. -/
import Derived.Test.YtkoaodnabmmddaaPk10
import Derived.Test.YtkoaodnabmmddaaPk3
namespace Go.Sm
open Go.RowKit

set_option maxHeartbeats 1000000 in
set_option maxRecDepth 4000 in
theorem FnExactNamedCode_ok (s0 : ByteArray) (hs0 : s0.size ≤ maxLen) (a1 : Int) (a2 : Int) : CallOK Go.Proofs.Try.prog 4 [.one (st s0), .one (i64 a1), .one (i64 a2)] (.one (bo true)) := by
  have hF := fnOk 76 [.tmp 6]
  refine callOK hF 60 Go.Proofs.Try.func4 rfl rfl rfl (by decide) (by simp) rfl ?_
  intro w0 hw
  have S := @vc_sound w0 _ hF ⟨(.one (bo true)), []⟩ Go.Proofs.Try.f4 rfl (by simp)
  have hm : maxLen = 9223372036854775807 := rfl
  by_cases h0 : s0.size ≤ 1048576
  · have hn0 : ¬ (1048576 : Int) < s0.size := by omega
    have cs := specNamedCode_ok s0 a1 a2 h0
    have ci := NamedCode_ok s0 a1 a2 h0
    obtain ⟨p9, l9, E, er, hR, hE1, hE2, hE3⟩ := namR_small s0 a1 a2
    rw [hR] at cs ci
    have qr := eqCode_ok p9 l9 p9 l9 E E (by omega) (fun x hx => by have := hE3 x hx; omega)
    rw [decide_eq_true ⟨rfl, rfl, rfl⟩] at qr
    have mr := markCode_ok p9 l9 E 1 (by omega) (by omega) (by omega)
    have hML := markLL_length E 1
    have hMT := markLL_total E 1
    have hr := heldCode_ok p9 l9 (markLL E 1) 1 markLL_mark.symm (by omega) (by omega) (by omega)
    rw [hMT] at hr
    simp [hn0]
    refine CallW.ok (by decide) (by simp) cs (by simp) (S 60 _ _ ?_)
    simp
    refine CallW.ok (by decide) (by simp) ci (by simp) (S 60 _ _ ?_)
    simp
    refine CallW.ok (by decide) (by simp) qr (by simp) (S 60 _ _ ?_)
    simp
    refine CallW.mut mr (by decide) (by simp) (by simp) (by simp) (by simp) (by simp) (by simp) (S 60 _ _ ?_)
    simp
    refine CallW.ok (by decide) (by simp) hr (by simp) (S 60 _ _ ?_)
    simp
    refine ⟨show (0 : Int) ≤ 1 + total E by omega, fun _ => ?_⟩
    refine CallW.ok (by decide) (by simp) ci (by simp) (S 60 _ _ ?_)
    simp
    refine CallW.ok (by decide) (by simp) qr (by simp) (S 60 _ _ ?_)
    simp
    refine CallW.ok (by decide) (by simp) hr (by simp) (S 60 _ _ ?_)
    simp
    exact show (0 : Int) ≤ 1 + total E by omega
  · simp [show (1048576 : Int) < s0.size by omega]

end Go.Sm
