/- Towards the rows of this seat: what the functions do, as contracts over plain data. -/
import Derived.Test.YtkoaodnabmmddaaPk9
namespace Go.Sm
open Go.RowKit

set_option maxHeartbeats 1000000 in
set_option maxRecDepth 4000 in
theorem FnExactShortenCode_ok (p0 l0 : Int) (r0 : List (List Int)) (hb0 : r0.length ≤ maxLen ∧ ∀ r ∈ r0, r.length ≤ maxLen) (a1 : Int) : CallOK Go.Proofs.Try.prog 12 [vCode p0 l0 r0, .one (i64 a1)] (.one (bo true)) := by
  have hF := fnOk 101 [.tmp 4]
  refine callOK hF 60 Go.Proofs.Try.func12 rfl rfl rfl (by decide) (by simp) rfl ?_
  intro w0 hw
  have S := @vc_sound w0 _ hF ⟨(.one (bo true)), []⟩ Go.Proofs.Try.f12 rfl (by simp)
  have hm : maxLen = 9223372036854775807 := rfl
  have z0 := szCode_ok p0 l0 r0 (1048576) (by omega) (by omega) hb0.1 hb0.2
  by_cases hs0 : (1048576 : Int) - r0.length - total r0 < 0
  · have e0 : szL (1048576) r0 = -1 := if_pos hs0
    rw [e0] at z0
    simp
    refine CallW.ok (by decide) (by simp) z0 (by simp) (S 60 _ _ ?_)
    simp
  · have e0 : szL (1048576) r0 = (1048576 : Int) - r0.length - total r0 := if_neg hs0
    rw [e0] at z0
    have hl0 : r0.length ≤ 1048576 := by omega
    have hr0 : ∀ r ∈ r0, r.length ≤ 1048576 := fun r hr => by have := len_total hr; omega
    have c0 := toCode_ok p0 l0 r0 hl0 hr0
    have cs := specShortenCode_ok p0 l0 r0 a1 hl0 hr0
    have ci := ShortenCode_ok p0 l0 r0 a1 hl0 hr0
    have q0 := eqCode_ok p0 l0 p0 l0 r0 r0 (by omega) (fun x hx => by have := hr0 x hx; omega)
    rw [decide_eq_true ⟨rfl, rfl, rfl⟩] at q0
    obtain ⟨p9, l9, E, er, hR, hE1, hE2, hE3⟩ := shoR_small p0 l0 r0 a1
    rw [hR] at cs ci
    have qr := eqCode_ok p9 l9 p9 l9 E E (by omega) (fun x hx => by have := hE3 x hx; omega)
    rw [decide_eq_true ⟨rfl, rfl, rfl⟩] at qr
    have mr := markCode_ok p9 l9 E 1 (by omega) (by omega) (by omega)
    have hML := markLL_length E 1
    have hMT := markLL_total E 1
    have hr := heldCode_ok p9 l9 (markLL E 1) 1 markLL_mark.symm (by omega) (by omega) (by omega)
    rw [hMT] at hr
    have m0 := markCode_ok p0 l0 r0 1 (by omega) (by omega) (by omega)
    simp
    refine CallW.ok (by decide) (by simp) z0 (by simp) (S 60 _ _ ?_)
    simp
    refine fun _ => ?_
    refine CallW.ok (by decide) (by simp) c0 (by simp) (S 60 _ _ ?_)
    simp
    refine CallW.ok (by decide) (by simp) cs (by simp) (S 60 _ _ ?_)
    simp
    refine CallW.ok (by decide) (by simp) c0 (by simp) (S 60 _ _ ?_)
    simp
    refine CallW.ok (by decide) (by simp) ci (by simp) (S 60 _ _ ?_)
    simp
    refine CallW.ok (by decide) (by simp) qr (by simp) (S 60 _ _ ?_)
    simp
    refine J.dr hF mixed 3 [[], [], [1], [0, 1, 2], [0, 1, 2, 3]] [[45, 46, 47], [45, 46, 47], [45, 47]] (by decide) ?_
    simp
    refine DrC.ok hF (by rfl) (by simp) c0 (by simp) (by simp) ?_
    simp
    refine S 60 _ _ ?_
    simp
    refine CallW.ok (by decide) (by simp) q0 (by simp) (S 60 _ _ ?_)
    simp
    refine CallW.mut m0 (by decide) (by simp) (by simp) (by simp) (by simp) (by simp) (by simp) (S 60 _ _ ?_)
    simp
    refine ⟨fun _ => ?_, show (0 : Int) ≤ 1 + total r0 by omega⟩
    refine CallW.ok (by decide) (by simp) qr (by simp) (S 60 _ _ ?_)
    simp
    refine CallW.mut mr (by decide) (by simp) (by simp) (by simp) (by simp) (by simp) (by simp) (S 60 _ _ ?_)
    simp
    refine CallW.ok (by decide) (by simp) hr (by simp) (S 60 _ _ ?_)
    simp
    refine ⟨show (0 : Int) ≤ 1 + total E by omega, fun _ => ?_⟩
    refine CallW.ok (by decide) (by simp) c0 (by simp) (S 60 _ _ ?_)
    simp
    refine CallW.ok (by decide) (by simp) ci (by simp) (S 60 _ _ ?_)
    simp
    refine CallW.ok (by decide) (by simp) qr (by simp) (S 60 _ _ ?_)
    simp
    refine CallW.ok (by decide) (by simp) hr (by simp) (S 60 _ _ ?_)
    simp
    exact show (0 : Int) ≤ 1 + total E by omega

end Go.Sm
