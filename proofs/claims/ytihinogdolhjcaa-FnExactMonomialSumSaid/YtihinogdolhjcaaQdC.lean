/- Power sums and elementary polynomials: the program's and the reference's. -/
import Derived.Test.YtihinogdolhjcaaQdB
namespace Go.Sm
open Go.RowKit

def powerR (p d k : Int) : RV := if Pr p ∧ (1 ≤ d ∧ d ≤ 3) ∧ 1 ≤ k ∧ k ≤ 12 then pres p d (ofSum p (sumOf (permsE d.toNat ⟨by8 k, 0, 0⟩))) 0 else pres 0 0 [] 2

theorem permsE_small (p : Int) (_ : 2 ≤ p) (d : Nat) (e : Ex) : (ofSum p (sumOf (permsE d e))).length ≤ 2000000 := by
  have h1 := ofSum_length p (sumOf (permsE d e))
  have h2 := (sumOf_ok (permsE d e)).2.1
  have h3 := permsE_len d e
  omega
theorem powerR_small (p d k : Int) : PresS (powerR p d k) := by
  unfold powerR
  split
  · rename_i h
    exact ⟨_, _, _, _, rfl, permsE_small p h.1.pos.1 _ _⟩
  · exact ⟨_, _, _, _, rfl, by simp⟩

theorem PowerSumPoly_ok (p d k : Int) : CallOK Go.Proofs.Try.prog 35 [.one (i64 p), .one (i64 d), .one (i64 k)] (powerR p d k) := by
  have hF := fnOk 31 [.cell 6 39, .tmp 7]
  refine callOK hF 60 Go.Proofs.Try.func35 rfl rfl rfl (by decide) (by simp) rfl ?_
  intro w0 hw
  have S := @vc_sound w0 _ hF ⟨(powerR p d k), []⟩ Go.Proofs.Try.f35 rfl (by simp)
  have c1 := isPrime_ok p
  have c2 := isVars_ok d
  by_cases hp : Pr p
  · by_cases hd : 1 ≤ d ∧ d ≤ 3
    · rw [decide_eq_true hp] at c1
      rw [decide_eq_true hd] at c2
      by_cases hk : 1 ≤ k ∧ k ≤ 12
      · have e : powerR p d k = pres p d (ofSum p (sumOf (permsE d.toNat ⟨by8 k, 0, 0⟩))) 0 := by unfold powerR; rw [if_pos ⟨hp, hd, hk⟩]
        rw [e] at S ⊢
        obtain ⟨n, rfl⟩ : ∃ n : Nat, d = n := ⟨d.toNat, by omega⟩
        have hpp := hp.pos
        have c3 := monomialSum_ok p n ⟨by8 k, 0, 0⟩ (by omega) (by omega) (by omega)
        simp only [Int.toNat_natCast] at S ⊢
        simp
        refine CallW.ok (by decide) (by simp) c1 (by simp) (S 60 _ _ ?_)
        simp
        refine CallW.ok (by decide) (by simp) c2 (by simp) (S 60 _ _ ?_)
        simp
        refine ⟨fun h1 => ⟨hk.2, fun h2 => ?_⟩, hk.1⟩
        refine CallW.ok (by decide) (by simp) c3 (by simp) (S 60 _ _ ?_)
        simp
      · have e : powerR p d k = pres 0 0 [] 2 := by unfold powerR; rw [if_neg (fun h => hk h.2.2)]
        rw [e] at S ⊢
        simp
        refine CallW.ok (by decide) (by simp) c1 (by simp) (S 60 _ _ ?_)
        simp
        refine CallW.ok (by decide) (by simp) c2 (by simp) (S 60 _ _ ?_)
        simp
        intro h1 h2
        exact absurd ⟨h1, h2⟩ hk
    · have e : powerR p d k = pres 0 0 [] 2 := by unfold powerR; rw [if_neg (fun h => hd h.2.1)]
      rw [e] at S ⊢
      rw [decide_eq_true hp] at c1
      rw [decide_eq_false hd] at c2
      simp
      refine CallW.ok (by decide) (by simp) c1 (by simp) (S 60 _ _ ?_)
      simp
      refine CallW.ok (by decide) (by simp) c2 (by simp) (S 60 _ _ ?_)
      simp
  · have e : powerR p d k = pres 0 0 [] 2 := by unfold powerR; rw [if_neg (fun h => hp h.1)]
    rw [e] at S ⊢
    rw [decide_eq_false hp] at c1
    simp
    refine CallW.ok (by decide) (by simp) c1 (by simp) (S 60 _ _ ?_)
    simp

set_option maxRecDepth 4000 in
theorem specPowerSumPoly_ok (p d k : Int) : CallOK Go.Proofs.Try.prog 34 [.one (i64 p), .one (i64 d), .one (i64 k)] (powerR p d k) := by
  have hF := fnOk 27 [.cell 6 39, .tmp 7]
  refine callOK hF 60 Go.Proofs.Try.func34 rfl rfl rfl (by decide) (by simp) rfl ?_
  intro w0 hw
  have S := @vc_sound w0 _ hF ⟨(powerR p d k), []⟩ Go.Proofs.Try.f34 rfl (by simp)
  have c1 := l08Shape_ok p d
  have c2 := l01In_ok k 1 12
  by_cases hp : Pr p ∧ 1 ≤ d ∧ d ≤ 3
  · by_cases hk : 1 ≤ k ∧ k ≤ 12
    · have hpp := hp.1.pos
      have e : powerR p d k = pres p d (ofSum p (sumOf (permsE d.toNat ⟨by8 k, 0, 0⟩))) 0 := by unfold powerR; rw [if_pos ⟨hp.1, hp.2, hk⟩]
      rw [e] at S ⊢
      rw [decide_eq_true hp] at c1
      rw [decide_eq_true hk] at c2
      have c3 := l08Sum_ok p [k] (by omega) (by omega) (by simp)
      have c4 := l08Sum_ok p [k, 0] (by omega) (by omega) (by simp)
      have c5 := l08Sum_ok p [k, 0, 0] (by omega) (by omega) (by simp)
      have e1 : ∀ xs, xs = [] ∨ xs = [0] ∨ xs = [0, 0] → exOf (k :: xs) = ⟨by8 k, 0, 0⟩ := by
        intro xs h
        rcases h with rfl | rfl | rfl <;> rfl
      rw [e1 _ (by simp)] at c3 c4 c5
      have hd : d = 1 ∨ d = 2 ∨ d = 3 := by omega
      rcases hd with rfl | rfl | rfl
      all_goals
        simp
        refine CallW.ok (by decide) (by simp) c1 (by simp) (S 60 _ _ ?_)
        simp
        refine CallW.ok (by decide) (by simp) c2 (by simp) (S 60 _ _ ?_)
        simp
      · refine CallW.ok (by decide) (by simp) c3 (by simp) (S 60 _ _ ?_)
        simp
      · refine CallW.ok (by decide) (by simp) c4 (by simp) (S 60 _ _ ?_)
        simp
      · refine CallW.ok (by decide) (by simp) c5 (by simp) (S 60 _ _ ?_)
        simp
    · have e : powerR p d k = pres 0 0 [] 2 := by unfold powerR; rw [if_neg (fun h => hk h.2.2)]
      rw [e] at S ⊢
      rw [decide_eq_true hp] at c1
      rw [decide_eq_false hk] at c2
      simp
      refine CallW.ok (by decide) (by simp) c1 (by simp) (S 60 _ _ ?_)
      simp
      refine CallW.ok (by decide) (by simp) c2 (by simp) (S 60 _ _ ?_)
      simp
  · have e : powerR p d k = pres 0 0 [] 2 := by unfold powerR; rw [if_neg (fun h => hp ⟨h.1, h.2.1⟩)]
    rw [e] at S ⊢
    rw [decide_eq_false hp] at c1
    simp
    refine CallW.ok (by decide) (by simp) c1 (by simp) (S 60 _ _ ?_)
    simp

end Go.Sm
