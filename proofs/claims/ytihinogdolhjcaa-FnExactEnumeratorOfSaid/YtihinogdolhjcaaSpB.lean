/- Lists of weights. -/
import Derived.Test.YtihinogdolhjcaaSpA
import Derived.Test.YtihinogdolhjcaaSo0
namespace Go.Sm
open Go.RowKit

def Cnt (xs : List Int) : Prop := (∀ x ∈ xs, 0 ≤ x ∧ x < 100000001) ∧ 2 ≤ xs.length ∧ xs.length ≤ 11
instance (xs : List Int) : Decidable (Cnt xs) := by unfold Cnt; infer_instance

theorem areCounts_ok (xs : List Int) (hl : xs.length ≤ 1048576) : CallOK Go.Proofs.Try.prog 65 [.one (vInts xs)] (.one (bo (decide (Cnt xs)))) := by
  have hF := fnOk 15 [.tmp 2]
  refine callOK hF 50 Go.Proofs.Try.func65 rfl rfl rfl (by decide) (by simp) rfl ?_
  intro w0 hw
  have S := @vc_sound w0 _ hF ⟨.one (bo (decide (Cnt xs))), []⟩ Go.Proofs.Try.f65 rfl (by simp)
  have c1 := field_ok 100000001 xs hl
  by_cases h2 : (2 : Int) ≤ xs.length
  · by_cases h11 : (xs.length : Int) ≤ 11
    · have e : decide (Cnt xs) = decide (∀ x ∈ xs, 0 ≤ x ∧ x < 100000001) := by simp [Cnt, show 2 ≤ xs.length by omega, show xs.length ≤ 11 by omega]
      rw [e] at S ⊢
      simp [h2, h11]
      refine CallW.ok (by decide) (by simp) c1 (by simp) ?_
      refine S 60 _ _ ?_
      simp
    · have e : decide (Cnt xs) = false := by simp [Cnt, show ¬ xs.length ≤ 11 by omega]
      rw [e]
      simp [h2, h11]
  · have e : decide (Cnt xs) = false := by simp [Cnt, show ¬ 2 ≤ xs.length by omega]
    rw [e]
    simp [h2]

theorem l10Counts_ok (xs : List Int) (hl : xs.length ≤ 1048576) : CallOK Go.Proofs.Try.prog 62 [.one (vInts xs)] (.one (bo (decide (Cnt xs)))) := by
  have hF := fnOk 24 [.tmp 2]
  refine callOK hF 50 Go.Proofs.Try.func62 rfl rfl rfl (by decide) (by simp) rfl ?_
  intro w0 hw
  have S := @vc_sound w0 _ hF ⟨.one (bo (decide (Cnt xs))), []⟩ Go.Proofs.Try.f62 rfl (by simp)
  simp
  refine J.loop hw (fun i : Nat => ⟨[(0, .c (.d (vInts xs))), (3, .c (.d (i64 i)))], []⟩)
    (fun i => i ≤ xs.length ∧ ∀ x ∈ xs.take i, 0 ≤ x ∧ x < 100000001) (fun i => xs.length - i) 0 (by simp) (by simp) ?_
  rintro i ⟨hi, hx⟩
  refine S 50 _ _ ?_
  simp
  refine ⟨fun hlt => ⟨hlt, fun a ha => ?_⟩, fun hge => ?_⟩
  · have c1 := l01In_ok a 0 100000000
    by_cases h : 0 ≤ a ∧ a ≤ 100000000
    · rw [decide_eq_true h] at c1
      refine CallW.ok (by decide) (by simp) c1 (by simp) ?_
      refine S 60 _ _ ?_
      simp
      refine Nxt.mk (i + 1) ⟨hlt, fun x hx' => ?_⟩ (by simp [wrapS (i := i) (n := xs.length) hlt (by omega)]) (by omega)
      rw [List.take_add_one, ha] at hx'
      simp only [Option.toList, List.mem_append, List.mem_singleton] at hx'
      rcases hx' with h' | rfl
      · exact hx x h'
      · omega
    · rw [decide_eq_false h] at c1
      have e : decide (Cnt xs) = false := decide_eq_false fun hc => by
        have := hc.1 a (List.mem_of_getElem? ha)
        omega
      rw [e] at S ⊢
      refine CallW.ok (by decide) (by simp) c1 (by simp) ?_
      refine S 60 _ _ ?_
      simp
  · have hall : ∀ x ∈ xs, 0 ≤ x ∧ x < 100000001 := fun x h => hx x (by rw [List.take_of_length_le (by omega)]; exact h)
    exact ⟨fun h2 => ⟨fun h11 => ⟨hall, by omega, by omega⟩, fun hc => by have := hc.2.2; omega⟩, fun h2 hc => by have := hc.2.1; omega⟩

end Go.Sm
