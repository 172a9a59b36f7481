/- Towards the rows of this seat: what the functions do, as contracts over plain data. -/
import Derived.Test.YtdfihhfnnogpeaaPk22
import Derived.Test.YtdfihhfnnogpeaaPk24
import Derived.Test.YtdfihhfnnogpeaaPk17
import Derived.Test.YtdfihhfnnogpeaaPk16
namespace Go.Sm
open Go.RowKit

/-- The quotient. -/
noncomputable def altQ (p d : Int) (ts : List Tm) : List Tm :=
  open Classical in if h : ∃ q, Can p q ∧ AllE (DegLe d (12 - vdeg d)) q ∧ ts = byV p d q then Classical.choose h else []
theorem altQ_ok {p d : Int} {ts : List Tm} (hg : GoodP p d ts) (ha : AltP p d ts) : Can p (altQ p d ts) ∧ AllE (DegLe d (12 - vdeg d)) (altQ p d ts) ∧ ts = byV p d (altQ p d ts) := by
  have h := alt_quo hg ha
  have e : altQ p d ts = Classical.choose h := by unfold altQ; exact dif_pos h
  rw [e]
  exact Classical.choose_spec h
noncomputable def aqO (p d : Int) (ts : List Tm) : (Int × Int × List Tm) × Int :=
  open Classical in if GoodP p d ts then (if AltP p d ts then ((p, d, altQ p d ts), 0) else ((0, 0, []), 5)) else ((0, 0, []), 1)
theorem aqO_yes {p d : Int} {ts : List Tm} (hg : GoodP p d ts) (ha : AltP p d ts) : aqO p d ts = ((p, d, altQ p d ts), 0) := by unfold aqO; rw [if_pos hg, if_pos ha]
theorem aqO_no {p d : Int} {ts : List Tm} (hg : GoodP p d ts) (ha : ¬ AltP p d ts) : aqO p d ts = ((0, 0, []), 5) := by unfold aqO; rw [if_pos hg, if_neg ha]
theorem aqO_bad {p d : Int} {ts : List Tm} (hg : ¬ GoodP p d ts) : aqO p d ts = ((0, 0, []), 1) := by unfold aqO; rw [if_neg hg]
theorem aqO_small (p d : Int) (ts : List Tm) : ∃ p' d' E e, aqO p d ts = ((p', d', E), e) ∧ E.length ≤ 1000 := by
  by_cases hg : GoodP p d ts
  · by_cases ha : AltP p d ts
    · rw [aqO_yes hg ha]
      obtain ⟨h1, h2, _⟩ := altQ_ok hg ha
      have := can_len h1 h2 (by omega)
      exact ⟨_, _, _, _, rfl, by omega⟩
    · rw [aqO_no hg ha]
      exact ⟨_, _, _, _, rfl, by simp⟩
  · rw [aqO_bad hg]
    exact ⟨_, _, _, _, rfl, by simp⟩

theorem AlternatingQuotient_ok (p d : Int) (ts : List Tm) (hl : ts.length ≤ 1048576) : CallOK Go.Proofs.Try.prog 9 [pv p d ts] (presR (aqO p d ts)) := by
  have hF := fnOk 16 [.cell 2 28, .tmp 3]
  refine callOK hF 60 Go.Proofs.Try.func9 rfl rfl rfl (by decide) (by simp) rfl ?_
  intro w0 hw
  have S := @vc_sound w0 _ hF ⟨(presR (aqO p d ts)), []⟩ Go.Proofs.Try.f9 rfl (by simp)
  have c1 := IsPoly_ok p d ts hl
  by_cases hg : GoodP p d ts
  · rw [decide_eq_true hg] at c1
    have c2 := alternating_ok p d ts hg
    by_cases ha : AltP p d ts
    · rw [decide_eq_true ha] at c2
      obtain ⟨h1, h2, h3⟩ := altQ_ok hg ha
      have c3 := quotientOf_ok p d (altQ p d ts) hg.1 hg.2.1 h1 h2
      rw [← h3] at c3
      rw [aqO_yes hg ha] at S ⊢
      dsimp only at S ⊢
      generalize altQ p d ts = q at c3 S ⊢
      simp
      refine CallW.ok (by decide) (by simp) c1 (by simp) (S 60 _ _ ?_)
      simp
      refine CallW.ok (by decide) (by simp) c2 (by simp) (S 60 _ _ ?_)
      simp
      refine CallW.ok (by decide) (by simp) c3 (by simp) (S 60 _ _ ?_)
      simp
    · rw [decide_eq_false ha] at c2
      rw [aqO_no hg ha] at S ⊢
      dsimp only at S ⊢
      simp
      refine CallW.ok (by decide) (by simp) c1 (by simp) (S 60 _ _ ?_)
      simp
      refine CallW.ok (by decide) (by simp) c2 (by simp) (S 60 _ _ ?_)
      simp
  · rw [decide_eq_false hg] at c1
    rw [aqO_bad hg] at S ⊢
    dsimp only at S ⊢
    simp
    refine CallW.ok (by decide) (by simp) c1 (by simp) (S 60 _ _ ?_)
    simp

theorem specAlternatingQuotient_ok (p d : Int) (ts : List Tm) (hl : ts.length ≤ 1048576) : CallOK Go.Proofs.Try.prog 7 [pv p d ts] (presR (aqO p d ts)) := by
  have hF := fnOk 16 [.cell 2 28, .tmp 3]
  refine callOK hF 60 Go.Proofs.Try.func7 rfl rfl rfl (by decide) (by simp) rfl ?_
  intro w0 hw
  have S := @vc_sound w0 _ hF ⟨(presR (aqO p d ts)), []⟩ Go.Proofs.Try.f7 rfl (by simp)
  have c1 := l01Is_ok p d ts hl
  by_cases hg : GoodP p d ts
  · rw [decide_eq_true hg] at c1
    have c2 := l08Alternates_ok p d ts hg
    by_cases ha : AltP p d ts
    · rw [decide_eq_true ha] at c2
      obtain ⟨h1, h2, h3⟩ := altQ_ok hg ha
      have c3 := l08Quotient_ok p d (altQ p d ts) hg.1 hg.2.1 h1 h2
      rw [← h3] at c3
      rw [aqO_yes hg ha] at S ⊢
      dsimp only at S ⊢
      generalize altQ p d ts = q at c3 S ⊢
      simp
      refine CallW.ok (by decide) (by simp) c1 (by simp) (S 60 _ _ ?_)
      simp
      refine CallW.ok (by decide) (by simp) c2 (by simp) (S 60 _ _ ?_)
      simp
      refine CallW.ok (by decide) (by simp) c3 (by simp) (S 60 _ _ ?_)
      simp
    · rw [decide_eq_false ha] at c2
      rw [aqO_no hg ha] at S ⊢
      dsimp only at S ⊢
      simp
      refine CallW.ok (by decide) (by simp) c1 (by simp) (S 60 _ _ ?_)
      simp
      refine CallW.ok (by decide) (by simp) c2 (by simp) (S 60 _ _ ?_)
      simp
  · rw [decide_eq_false hg] at c1
    rw [aqO_bad hg] at S ⊢
    dsimp only at S ⊢
    simp
    refine CallW.ok (by decide) (by simp) c1 (by simp) (S 60 _ _ ?_)
    simp

end Go.Sm

namespace Go.Sm
open Go.RowKit

set_option maxHeartbeats 1000000 in
set_option maxRecDepth 4000 in
theorem FnExactAlternatingQuotient_ok (p0 d0 : Int) (t0 : List Tm) (hb0 : t0.length ≤ maxLen) : CallOK Go.Proofs.Try.prog 3 [pv p0 d0 t0] (.one (bo true)) := by
  have hF := fnOk 96 [.tmp 2]
  refine callOK hF 60 Go.Proofs.Try.func3 rfl rfl rfl (by decide) (by simp) rfl ?_
  intro w0 hw
  have S := @vc_sound w0 _ hF ⟨(.one (bo true)), []⟩ Go.Proofs.Try.f3 rfl (by simp)
  have hm : maxLen = 9223372036854775807 := rfl
  have z0 := szPoly_ok p0 d0 t0 (1048576) (by omega) (by omega) hb0
  by_cases hs0 : (1048576 : Int) - t0.length < 0
  · rw [if_pos hs0] at z0
    simp
    refine CallW.ok (by decide) (by simp) z0 (by simp) (S 60 _ _ ?_)
    simp
  · rw [if_neg hs0] at z0
    have h0 : t0.length ≤ 1048576 := by omega
    have c0 := toPoly_ok p0 d0 t0 h0
    have cs := specAlternatingQuotient_ok p0 d0 t0 h0
    have ci := AlternatingQuotient_ok p0 d0 t0 h0
    have q0 := eqPoly_ok p0 d0 p0 d0 t0 t0 (by omega)
    rw [decide_eq_true ⟨rfl, rfl, rfl⟩] at q0
    obtain ⟨p9, d9, E, er, hR, hE1⟩ := aqO_small p0 d0 t0
    rw [hR] at cs ci
    have qr := eqPoly_ok p9 d9 p9 d9 E E (by omega)
    rw [decide_eq_true ⟨rfl, rfl, rfl⟩] at qr
    have mr := markPoly_ok p9 d9 E 1 (by omega) (by omega) (by omega)
    have hr := heldPoly_ok p9 d9 E.length 1 (by omega) (by omega) (by omega)
    have m0 := markPoly_ok p0 d0 t0 1 (by omega) (by omega) (by omega)
    simp
    refine CallW.ok (by decide) (by simp) z0 (by simp) (S 60 _ _ ?_)
    simp
    refine fun _ => ?_
    refine CallW.ok (by decide) (by simp) c0 (by simp) (S 60 _ _ ?_)
    simp
    refine CallW.ok (by decide) (by simp) cs (by simp) (S 60 _ _ ?_)
    simp
    refine CallW.ok (by decide) (by simp) c0 (by simp) (S 60 _ _ ?_)
    simp
    refine CallW.ok (by decide) (by simp) ci (by simp) (S 60 _ _ ?_)
    simp
    refine CallW.ok (by decide) (by simp) qr (by simp) (S 60 _ _ ?_)
    simp
    refine J.dr hF mixed 3 [[], [], [1], [0, 1, 2], [0, 1, 2, 3]] [[41, 42, 43], [41, 42, 43], [41, 43]] (by decide) ?_
    simp
    refine DrC.ok hF (by rfl) (by simp) c0 (by simp) (by simp) ?_
    simp
    refine S 60 _ _ ?_
    simp
    refine CallW.ok (by decide) (by simp) q0 (by simp) (S 60 _ _ ?_)
    simp
    refine CallW.mut m0 (by decide) (by simp) (by simp) (by simp) (by simp) (by simp) (by simp) (S 60 _ _ ?_)
    simp
    refine ⟨fun _ => ?_, show (0 : Int) ≤ 1 + 4 * t0.length by omega⟩
    refine CallW.ok (by decide) (by simp) qr (by simp) (S 60 _ _ ?_)
    simp
    refine CallW.mut mr (by decide) (by simp) (by simp) (by simp) (by simp) (by simp) (by simp) (S 60 _ _ ?_)
    simp
    refine CallW.ok (by decide) (by simp) hr (by simp) (S 60 _ _ ?_)
    simp
    refine ⟨show (0 : Int) ≤ 1 + 4 * E.length by omega, fun _ => ?_⟩
    refine CallW.ok (by decide) (by simp) c0 (by simp) (S 60 _ _ ?_)
    simp
    refine CallW.ok (by decide) (by simp) ci (by simp) (S 60 _ _ ?_)
    simp
    refine CallW.ok (by decide) (by simp) qr (by simp) (S 60 _ _ ?_)
    simp
    refine CallW.ok (by decide) (by simp) hr (by simp) (S 60 _ _ ?_)
    simp
    exact show (0 : Int) ≤ 1 + 4 * E.length by omega

end Go.Sm
