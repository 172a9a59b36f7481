/- The law of partitions. -/
import Derived.Test.YtfcolgpfagbidaaSoD
namespace Go.Sm
open Go.RowKit

theorem partsOf_small (n d : Int) : (partsOf n d).1.length ≤ 2197 ∧ ∀ x ∈ (partsOf n d).1, x.length ≤ 3 := by
  unfold partsOf
  split
  · rename_i h
    refine ⟨Nat.le_trans (parts_length h.1.2) (Nat.pow_le_pow_right (n := 13) (by omega) (show d.toNat ≤ 3 by omega)), fun x hx => ?_⟩
    have := parts_elem hx
    omega
  · simp

theorem total_bound : ∀ (xss : List (List Int)) (b : Nat), (∀ x ∈ xss, x.length ≤ b) → total xss ≤ xss.length * b
  | [], b, _ => by simp [total]
  | x :: r, b, h => by
    have h1 := total_bound r b fun y hy => h y (by simp [hy])
    have h2 := h x (by simp)
    simp only [total, List.map_cons, List.sum_cons, List.length_cons, Nat.add_mul] at h1 ⊢
    omega

theorem markLL_idem : ∀ (xss : List (List Int)) (k : Int), markLL (markLL xss k) k = markLL xss k
  | [], _ => rfl
  | x :: r, k => by simp only [markLL, markL_length, markLL_idem r]

theorem FnExactPartitionsOf_ok (n d : Int) : CallOK Go.Proofs.Try.prog 3 [.one (i64 n), .one (i64 d)] (.one (bo true)) := by
  have hF := fnOk 68 [.tmp 4]
  refine callOK hF 60 Go.Proofs.Try.func3 rfl rfl rfl (by decide) (by simp) rfl ?_
  intro w0 hw
  have S := @vc_sound w0 _ hF ⟨.one (bo true), []⟩ Go.Proofs.Try.f3 rfl (by simp)
  have c1 := specPartitionsOf_ok n d
  have c2 := PartitionsOf_ok n d
  obtain ⟨hl, hel⟩ := partsOf_small n d
  generalize (partsOf n d).1 = xs at c1 c2 hl hel
  generalize (partsOf n d).2 = e at c1 c2
  have ht := total_bound xs 3 hel
  have c3 := eqInt64SS_ok xs xs (by omega) fun x hx => by have := hel x hx; omega
  rw [decide_eq_true rfl] at c3
  have c4 := markInt64SS_ok xs 1 (by omega) (by omega) (by omega)
  have c5 := heldInt64SS_ok (markLL xs 1) 1 (markLL_idem xs 1).symm (by rw [markLL_length]; omega) (by omega) (by rw [markLL_total]; omega)
  rw [markLL_total] at c5
  simp
  refine CallW.ok (by decide) (by simp) c1 (by simp) ?_
  refine S 60 _ _ ?_
  simp
  refine CallW.ok (by decide) (by simp) c2 (by simp) ?_
  refine S 60 _ _ ?_
  simp
  refine CallW.ok (by decide) (by simp) c3 (by simp) ?_
  refine S 60 _ _ ?_
  simp
  refine CallW.mut c4 (by decide) (by simp) (by simp) (by simp) (by simp) (by simp) (by simp) ?_
  refine S 60 _ _ ?_
  simp
  refine CallW.ok (by decide) (by simp) c5 (by simp) ?_
  refine S 60 _ _ ?_
  simp
  refine ⟨show (0 : Int) ≤ 1 + total xs by omega, fun _ => ?_⟩
  refine CallW.ok (by decide) (by simp) c2 (by simp) ?_
  refine S 60 _ _ ?_
  simp
  refine CallW.ok (by decide) (by simp) c3 (by simp) ?_
  refine S 60 _ _ ?_
  simp
  refine CallW.ok (by decide) (by simp) c5 (by simp) ?_
  refine S 60 _ _ ?_
  simp
  exact show (0 : Int) ≤ 1 + total xs by omega

end Go.Sm
