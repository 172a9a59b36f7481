/- Towards the rows of this seat: what the functions do, as contracts over plain data. -/
import Derived.Test.YtkoaodnabmmddaaPk7
namespace Go.Sm
open Go.RowKit

set_option maxHeartbeats 1000000 in
set_option maxRecDepth 4000 in
theorem FnExactAddCodes_ok (p0 l0 : Int) (r0 : List (List Int)) (hb0 : r0.length ≤ maxLen ∧ ∀ r ∈ r0, r.length ≤ maxLen) (p1 l1 : Int) (r1 : List (List Int)) (hb1 : r1.length ≤ maxLen ∧ ∀ r ∈ r1, r.length ≤ maxLen) : CallOK Go.Proofs.Try.prog 6 [vCode p0 l0 r0, vCode p1 l1 r1] (.one (bo true)) := by
  have hF := fnOk 119 [.tmp 4]
  refine callOK hF 60 Go.Proofs.Try.func6 rfl rfl rfl (by decide) (by simp) rfl ?_
  intro w0 hw
  have S := @vc_sound w0 _ hF ⟨(.one (bo true)), []⟩ Go.Proofs.Try.f6 rfl (by simp)
  have hm : maxLen = 9223372036854775807 := rfl
  have z0 := szCode_ok p0 l0 r0 (1048576) (by omega) (by omega) hb0.1 hb0.2
  by_cases hs0 : (1048576 : Int) - r0.length - total r0 < 0
  · have e0 : szL (1048576) r0 = -1 := if_pos hs0
    rw [e0] at z0
    simp
    refine CallW.ok (by decide) (by simp) z0 (by simp) (S 60 _ _ ?_)
    simp
  · have e0 : szL (1048576) r0 = (1048576 : Int) - r0.length - total r0 := if_neg hs0
    rw [e0] at z0
    have hl0 : r0.length ≤ 1048576 := by omega
    have hr0 : ∀ r ∈ r0, r.length ≤ 1048576 := fun r hr => by have := len_total hr; omega
    have z1 := szCode_ok p1 l1 r1 ((1048576 : Int) - r0.length - total r0) (by omega) (by omega) hb1.1 hb1.2
    by_cases hs1 : (1048576 : Int) - r0.length - total r0 - r1.length - total r1 < 0
    · have e1 : szL ((1048576 : Int) - r0.length - total r0) r1 = -1 := if_pos hs1
      rw [e1] at z1
      simp
      refine CallW.ok (by decide) (by simp) z0 (by simp) (S 60 _ _ ?_)
      simp
      refine fun _ => ?_
      refine CallW.ok (by decide) (by simp) z1 (by simp) (S 60 _ _ ?_)
      simp
    · have e1 : szL ((1048576 : Int) - r0.length - total r0) r1 = (1048576 : Int) - r0.length - total r0 - r1.length - total r1 := if_neg hs1
      rw [e1] at z1
      have hl1 : r1.length ≤ 1048576 := by omega
      have hr1 : ∀ r ∈ r1, r.length ≤ 1048576 := fun r hr => by have := len_total hr; omega
      have c0 := toCode_ok p0 l0 r0 hl0 hr0
      have c1 := toCode_ok p1 l1 r1 hl1 hr1
      have cs := specAddCodes_ok p0 l0 r0 p1 l1 r1 hl0 hr0 hl1 hr1
      have ci := AddCodes_ok p0 l0 r0 p1 l1 r1 hl0 hr0 hl1 hr1
      have q0 := eqCode_ok p0 l0 p0 l0 r0 r0 (by omega) (fun x hx => by have := hr0 x hx; omega)
      rw [decide_eq_true ⟨rfl, rfl, rfl⟩] at q0
      have q1 := eqCode_ok p1 l1 p1 l1 r1 r1 (by omega) (fun x hx => by have := hr1 x hx; omega)
      rw [decide_eq_true ⟨rfl, rfl, rfl⟩] at q1
      obtain ⟨p9, l9, E, er, hR, hE1, hE2, hE3⟩ := addCR_small p0 l0 r0 p1 l1 r1
      rw [hR] at cs ci
      have qr := eqCode_ok p9 l9 p9 l9 E E (by omega) (fun x hx => by have := hE3 x hx; omega)
      rw [decide_eq_true ⟨rfl, rfl, rfl⟩] at qr
      have mr := markCode_ok p9 l9 E 1 (by omega) (by omega) (by omega)
      have hML := markLL_length E 1
      have hMT := markLL_total E 1
      have hr := heldCode_ok p9 l9 (markLL E 1) 1 markLL_mark.symm (by omega) (by omega) (by omega)
      rw [hMT] at hr
      have m0 := markCode_ok p0 l0 r0 1 (by omega) (by omega) (by omega)
      have m1 := markCode_ok p1 l1 r1 (1 + total r0) (by omega) (by omega) (by omega)
      simp
      refine CallW.ok (by decide) (by simp) z0 (by simp) (S 60 _ _ ?_)
      simp
      refine fun _ => ?_
      refine CallW.ok (by decide) (by simp) z1 (by simp) (S 60 _ _ ?_)
      simp
      refine fun _ => ?_
      refine J.dr3 hF mixed 10 [[], [0], [], [0, 1, 2], [0, 1, 2, 3], [0, 1, 2, 3, 4], [0, 1, 2, 3, 4, 5], [0, 1, 2, 3, 4, 5], [], [0, 1, 2, 3, 4, 5, 6, 8], [0, 1, 2, 3, 4, 5, 6, 7, 8, 9]] [[28, 29, 30, 31, 32, 27, 33, 34, 6], [29, 30, 31, 32, 27, 33, 34, 6], [28, 29, 30, 31, 32, 27, 33, 34, 6], [31, 32, 27, 33, 34, 6], [32, 27, 33, 34, 6], [27, 33, 34, 6], [33, 34, 6], [33, 34, 6], [28, 29, 30, 31, 32, 27, 33, 34, 6], [34]] [[], [], [], [], [], [], [], [], [], [384]] [[], [], [], [], [], [], [], [384], [], []] [] [] (by decide) ?_
      simp
      refine DrC3.ok hF (by rfl) (by simp) c0 (by simp) (by simp) ?_
      simp
      refine DrC3.ok hF (by rfl) (by simp) c1 (by simp) (by simp) ?_
      simp
      refine DrC3.ok hF (by rfl) (by simp) cs (by simp) (by simp) ?_
      simp
      refine S 60 _ _ ?_
      simp
      refine CallW.ok (by decide) (by simp) c0 (by simp) (S 60 _ _ ?_)
      simp
      refine CallW.ok (by decide) (by simp) c1 (by simp) (S 60 _ _ ?_)
      simp
      refine CallW.ok (by decide) (by simp) ci (by simp) (S 60 _ _ ?_)
      simp
      refine CallW.ok (by decide) (by simp) qr (by simp) (S 60 _ _ ?_)
      simp
      refine J.dr hF mixed 3 [[], [], [1], [0, 1, 2], [0, 1, 2, 3]] [[54, 55, 56], [54, 55, 56], [54, 56]] (by decide) ?_
      simp
      refine DrC.ok hF (by rfl) (by simp) c0 (by simp) (by simp) ?_
      simp
      refine S 60 _ _ ?_
      simp
      refine CallW.ok (by decide) (by simp) q0 (by simp) (S 60 _ _ ?_)
      simp
      refine J.dr hF mixed 3 [[], [], [1], [0, 1, 2], [0, 1, 2, 3]] [[59, 60, 61], [59, 60, 61], [59, 61]] (by decide) ?_
      simp
      refine DrC.ok hF (by rfl) (by simp) c1 (by simp) (by simp) ?_
      simp
      refine S 60 _ _ ?_
      simp
      refine CallW.ok (by decide) (by simp) q1 (by simp) (S 60 _ _ ?_)
      simp
      refine CallW.mut m0 (by decide) (by simp) (by simp) (by simp) (by simp) (by simp) (by simp) (S 60 _ _ ?_)
      simp
      refine CallW.mut m1 (by decide) (by simp) (by simp) (by simp) (by simp) (by simp) (by simp) (S 60 _ _ ?_)
      simp
      refine ⟨fun _ => ?_, show (0 : Int) ≤ 1 + total r0 + total r1 by omega⟩
      refine CallW.ok (by decide) (by simp) qr (by simp) (S 60 _ _ ?_)
      simp
      refine CallW.mut mr (by decide) (by simp) (by simp) (by simp) (by simp) (by simp) (by simp) (S 60 _ _ ?_)
      simp
      refine CallW.ok (by decide) (by simp) hr (by simp) (S 60 _ _ ?_)
      simp
      refine ⟨show (0 : Int) ≤ 1 + total E by omega, fun _ => ?_⟩
      refine J.dr3 hF mixed 10 [[], [0], [], [0, 1, 2], [0, 1, 2, 3], [0, 1, 2, 3, 4], [0, 1, 2, 3, 4, 5], [0, 1, 2, 3, 4, 5], [], [0, 1, 2, 3, 4, 5, 6, 8], [0, 1, 2, 3, 4, 5, 6, 7, 8, 9]] [[95, 96, 97, 98, 99, 94, 100, 101, 15], [96, 97, 98, 99, 94, 100, 101, 15], [95, 96, 97, 98, 99, 94, 100, 101, 15], [98, 99, 94, 100, 101, 15], [99, 94, 100, 101, 15], [94, 100, 101, 15], [100, 101, 15], [100, 101, 15], [95, 96, 97, 98, 99, 94, 100, 101, 15], [101]] [[], [], [], [], [], [], [], [], [], [960]] [[], [], [], [], [], [], [], [960], [], []] [] [] (by decide) ?_
      simp
      refine DrC3.ok hF (by rfl) (by simp) c0 (by simp) (by simp) ?_
      simp
      refine DrC3.ok hF (by rfl) (by simp) c1 (by simp) (by simp) ?_
      simp
      refine DrC3.ok hF (by rfl) (by simp) ci (by simp) (by simp) ?_
      simp
      refine S 60 _ _ ?_
      simp
      refine CallW.ok (by decide) (by simp) qr (by simp) (S 60 _ _ ?_)
      simp
      refine CallW.ok (by decide) (by simp) hr (by simp) (S 60 _ _ ?_)
      simp
      exact show (0 : Int) ≤ 1 + total E by omega

end Go.Sm
