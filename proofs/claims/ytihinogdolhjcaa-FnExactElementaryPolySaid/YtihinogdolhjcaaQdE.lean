/- Elementary polynomials: the program's and the reference's. -/
import Derived.Test.YtihinogdolhjcaaQdC
namespace Go.Sm
open Go.RowKit

def elemE : Nat → Ex
  | 0 => ⟨0, 0, 0⟩
  | 1 => ⟨1, 0, 0⟩
  | 2 => ⟨1, 1, 0⟩
  | _ => ⟨1, 1, 1⟩

set_option maxHeartbeats 1000000 in
theorem elementary_ok (p : Int) (d k : Nat) (hp : 0 < p) (hp2 : p ≤ 13) (hd : 1 ≤ d ∧ d ≤ 3) (hk : k ≤ 3) : CallOK Go.Proofs.Try.prog 91 [.one (i64 p), .one (i64 d), .one (i64 k)] (po p d (ofSum p (sumOf (permsE d (elemE k))))) := by
  have hF := fnOk 21 [.cell 6 39]
  refine callOK hF 60 Go.Proofs.Try.func91 rfl rfl rfl (by decide) (by simp) rfl ?_
  intro w0 hw
  have S := @vc_sound w0 _ hF ⟨(po p d (ofSum p (sumOf (permsE d (elemE k))))), []⟩ Go.Proofs.Try.f91 rfl (by simp)
  have c1 := monomialSum_ok p d (elemE k) hp hp2 hd
  have hk' : k = 0 ∨ k = 1 ∨ k = 2 ∨ k = 3 := by omega
  rcases hk' with rfl | rfl | rfl | rfl
  all_goals
    simp
    refine J.rounds 5 (LpW.step (S 60 _ _ ?_))
    simp
  · refine CallW.ok (by decide) (by simp; decide) c1 (by simp) (S 60 _ _ ?_)
    simp
  · refine LpW.inv (LpW.step (S 60 _ _ ?_))
    simp
    refine CallW.ok (by decide) (by simp; decide) c1 (by simp) (S 60 _ _ ?_)
    simp
  · refine LpW.inv (LpW.step (S 60 _ _ ?_))
    simp
    refine LpW.inv (LpW.step (S 60 _ _ ?_))
    simp
    refine CallW.ok (by decide) (by simp; decide) c1 (by simp) (S 60 _ _ ?_)
    simp
  · refine LpW.inv (LpW.step (S 60 _ _ ?_))
    simp
    refine LpW.inv (LpW.step (S 60 _ _ ?_))
    simp
    refine LpW.inv (LpW.step (S 60 _ _ ?_))
    simp
    refine CallW.ok (by decide) (by simp; decide) c1 (by simp) (S 60 _ _ ?_)
    simp

def ones (d k : Nat) : List Int := List.replicate k 1 ++ List.replicate (d - k) 0
theorem ones_ex {d k : Nat} (hk : k ≤ d) (hd : 1 ≤ d ∧ d ≤ 3) : exOf (ones d k) = elemE k ∧ (ones d k).length = d := by
  have : d = 1 ∨ d = 2 ∨ d = 3 := by omega
  have : k = 0 ∨ k = 1 ∨ k = 2 ∨ k = 3 := by omega
  rcases this with rfl | rfl | rfl | rfl <;> rcases ‹d = 1 ∨ _› with rfl | rfl | rfl <;> first | omega | exact ⟨rfl, rfl⟩

set_option maxHeartbeats 1000000 in
theorem l08Elementary_ok (p : Int) (d k : Nat) (hp : 2 ≤ p) (hp2 : p ≤ 13) (hd : 1 ≤ d ∧ d ≤ 3) (hk : k ≤ d) : CallOK Go.Proofs.Try.prog 90 [.one (i64 p), .one (i64 d), .one (i64 k)] (po p d (ofSum p (sumOf (permsE d (elemE k))))) := by
  have hF := fnOk 22 [.cell 6 39]
  refine callOK hF 60 Go.Proofs.Try.func90 rfl rfl rfl (by decide) (by simp) rfl ?_
  intro w0 hw
  have S := @vc_sound w0 _ hF ⟨(po p d (ofSum p (sumOf (permsE d (elemE k))))), []⟩ Go.Proofs.Try.f90 rfl (by simp)
  obtain ⟨o1, o2⟩ := ones_ex hk hd
  have c1 := l08Sum_ok p (ones d k) hp hp2 (by omega)
  rw [o1, o2] at c1
  have hd' : d = 1 ∨ d = 2 ∨ d = 3 := by omega
  have hk' : k = 0 ∨ k = 1 ∨ k = 2 ∨ k = 3 := by omega
  rcases hk' with rfl | rfl | rfl | rfl
  · rcases hd' with rfl | rfl | rfl
    all_goals
      simp
      refine J.rounds 5 (LpW.step (S 60 _ _ ?_))
      simp
      refine CallW.ok (by decide) (by simp [ones]) c1 (by simp) (S 60 _ _ ?_)
      simp
  · rcases hd' with rfl | rfl | rfl
    all_goals
      simp
      refine J.rounds 5 (LpW.step (S 60 _ _ ?_))
      simp
      refine LpW.inv (LpW.step (S 60 _ _ ?_))
      simp
      refine CallW.ok (by decide) (by simp [ones]) c1 (by simp) (S 60 _ _ ?_)
      simp
  · obtain rfl | rfl : d = 2 ∨ d = 3 := by omega
    all_goals
      simp
      refine J.rounds 5 (LpW.step (S 60 _ _ ?_))
      simp
      refine LpW.inv (LpW.step (S 60 _ _ ?_))
      simp
      refine LpW.inv (LpW.step (S 60 _ _ ?_))
      simp
      refine CallW.ok (by decide) (by simp [ones]) c1 (by simp) (S 60 _ _ ?_)
      simp
  · obtain rfl : d = 3 := by omega
    simp
    refine J.rounds 5 (LpW.step (S 60 _ _ ?_))
    simp
    refine LpW.inv (LpW.step (S 60 _ _ ?_))
    simp
    refine LpW.inv (LpW.step (S 60 _ _ ?_))
    simp
    refine LpW.inv (LpW.step (S 60 _ _ ?_))
    simp
    refine CallW.ok (by decide) (by simp [ones]) c1 (by simp) (S 60 _ _ ?_)
    simp

def elemR (p d k : Int) : RV := if Pr p ∧ (1 ≤ d ∧ d ≤ 3) ∧ 0 ≤ k ∧ k ≤ d then pres p d (ofSum p (sumOf (permsE d.toNat (elemE k.toNat)))) 0 else pres 0 0 [] 2
theorem elemR_small (p d k : Int) : PresS (elemR p d k) := by
  unfold elemR
  split
  · rename_i h
    exact ⟨_, _, _, _, rfl, permsE_small p h.1.pos.1 _ _⟩
  · exact ⟨_, _, _, _, rfl, by simp⟩

theorem ElementaryPoly_ok (p d k : Int) : CallOK Go.Proofs.Try.prog 39 [.one (i64 p), .one (i64 d), .one (i64 k)] (elemR p d k) := by
  have hF := fnOk 30 [.cell 6 39, .tmp 7]
  refine callOK hF 60 Go.Proofs.Try.func39 rfl rfl rfl (by decide) (by simp) rfl ?_
  intro w0 hw
  have S := @vc_sound w0 _ hF ⟨(elemR p d k), []⟩ Go.Proofs.Try.f39 rfl (by simp)
  have c1 := isPrime_ok p
  have c2 := isVars_ok d
  by_cases hp : Pr p
  · by_cases hd : 1 ≤ d ∧ d ≤ 3
    · rw [decide_eq_true hp] at c1
      rw [decide_eq_true hd] at c2
      by_cases hk : 0 ≤ k ∧ k ≤ d
      · have e : elemR p d k = pres p d (ofSum p (sumOf (permsE d.toNat (elemE k.toNat)))) 0 := by unfold elemR; rw [if_pos ⟨hp, hd, hk⟩]
        rw [e] at S ⊢
        obtain ⟨n, rfl⟩ : ∃ n : Nat, d = n := ⟨d.toNat, by omega⟩
        obtain ⟨m, rfl⟩ : ∃ m : Nat, k = m := ⟨k.toNat, by omega⟩
        have hpp := hp.pos
        have c3 := elementary_ok p n m (by omega) (by omega) (by omega) (by omega)
        simp only [Int.toNat_natCast] at S ⊢
        simp
        refine CallW.ok (by decide) (by simp) c1 (by simp) (S 60 _ _ ?_)
        simp
        refine CallW.ok (by decide) (by simp) c2 (by simp) (S 60 _ _ ?_)
        simp
        refine ⟨show m ≤ n by omega, fun h2 => ?_⟩
        refine CallW.ok (by decide) (by simp) c3 (by simp) (S 60 _ _ ?_)
        simp
      · have e : elemR p d k = pres 0 0 [] 2 := by unfold elemR; rw [if_neg (fun h => hk h.2.2)]
        rw [e] at S ⊢
        simp
        refine CallW.ok (by decide) (by simp) c1 (by simp) (S 60 _ _ ?_)
        simp
        refine CallW.ok (by decide) (by simp) c2 (by simp) (S 60 _ _ ?_)
        simp
        intro h1 h2
        exact absurd ⟨h1, h2⟩ hk
    · have e : elemR p d k = pres 0 0 [] 2 := by unfold elemR; rw [if_neg (fun h => hd h.2.1)]
      rw [e] at S ⊢
      rw [decide_eq_true hp] at c1
      rw [decide_eq_false hd] at c2
      simp
      refine CallW.ok (by decide) (by simp) c1 (by simp) (S 60 _ _ ?_)
      simp
      refine CallW.ok (by decide) (by simp) c2 (by simp) (S 60 _ _ ?_)
      simp
  · have e : elemR p d k = pres 0 0 [] 2 := by unfold elemR; rw [if_neg (fun h => hp h.1)]
    rw [e] at S ⊢
    rw [decide_eq_false hp] at c1
    simp
    refine CallW.ok (by decide) (by simp) c1 (by simp) (S 60 _ _ ?_)
    simp

theorem specElementaryPoly_ok (p d k : Int) : CallOK Go.Proofs.Try.prog 38 [.one (i64 p), .one (i64 d), .one (i64 k)] (elemR p d k) := by
  have hF := fnOk 23 [.cell 6 39, .tmp 7]
  refine callOK hF 60 Go.Proofs.Try.func38 rfl rfl rfl (by decide) (by simp) rfl ?_
  intro w0 hw
  have S := @vc_sound w0 _ hF ⟨(elemR p d k), []⟩ Go.Proofs.Try.f38 rfl (by simp)
  have c1 := l08Shape_ok p d
  have c2 := l01In_ok k 0 d
  by_cases hp : Pr p ∧ 1 ≤ d ∧ d ≤ 3
  · rw [decide_eq_true hp] at c1
    by_cases hk : 0 ≤ k ∧ k ≤ d
    · have hpp := hp.1.pos
      have e : elemR p d k = pres p d (ofSum p (sumOf (permsE d.toNat (elemE k.toNat)))) 0 := by unfold elemR; rw [if_pos ⟨hp.1, hp.2, hk⟩]
      rw [e] at S ⊢
      rw [decide_eq_true hk] at c2
      obtain ⟨n, rfl⟩ : ∃ n : Nat, d = n := ⟨d.toNat, by omega⟩
      obtain ⟨m, rfl⟩ : ∃ m : Nat, k = m := ⟨k.toNat, by omega⟩
      have c3 := l08Elementary_ok p n m (by omega) (by omega) (by omega) (by omega)
      simp only [Int.toNat_natCast] at S ⊢
      simp
      refine CallW.ok (by decide) (by simp) c1 (by simp) (S 60 _ _ ?_)
      simp
      refine CallW.ok (by decide) (by simp) c2 (by simp) (S 60 _ _ ?_)
      simp
      refine CallW.ok (by decide) (by simp) c3 (by simp) (S 60 _ _ ?_)
      simp
    · have e : elemR p d k = pres 0 0 [] 2 := by unfold elemR; rw [if_neg (fun h => hk h.2.2)]
      rw [e] at S ⊢
      rw [decide_eq_false hk] at c2
      simp
      refine CallW.ok (by decide) (by simp) c1 (by simp) (S 60 _ _ ?_)
      simp
      refine CallW.ok (by decide) (by simp) c2 (by simp) (S 60 _ _ ?_)
      simp
  · have e : elemR p d k = pres 0 0 [] 2 := by unfold elemR; rw [if_neg (fun h => hp ⟨h.1, h.2.1⟩)]
    rw [e] at S ⊢
    rw [decide_eq_false hp] at c1
    simp
    refine CallW.ok (by decide) (by simp) c1 (by simp) (S 60 _ _ ?_)
    simp

end Go.Sm
