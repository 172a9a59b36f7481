/- Small functions that many statements use. -/
import Derived.Test.YtihinogdolhjcaaSoB
namespace Go.Sm
open Go.RowKit

def Pr (p : Int) : Prop := p = 2 ∨ p = 3 ∨ p = 5 ∨ p = 7 ∨ p = 11 ∨ p = 13
instance (p : Int) : Decidable (Pr p) := by unfold Pr; infer_instance

theorem isPrime_ok (p : Int) : CallOK Go.Proofs.Try.prog 64 [.one (i64 p)] (.one (bo (decide (Pr p)))) := by
  have hF := fnOk 25 [.tmp 2]
  refine callOK hF 50 Go.Proofs.Try.func64 rfl rfl rfl (by decide) (by simp) rfl ?_
  intro w0 hw
  by_cases h2 : p = 2
  · have b2 : (p == 2) = true := by simp [h2]
    have hP : decide (Pr p) = true := by simp [Pr, h2]
    rw [hP]
    simp [b2]
  have b2 : (p == 2) = false := by simp [h2]
  by_cases h3 : p = 3
  · have b3 : (p == 3) = true := by simp [h3]
    have hP : decide (Pr p) = true := by simp [Pr, h3]
    rw [hP]
    simp [b2, b3]
  have b3 : (p == 3) = false := by simp [h3]
  by_cases h5 : p = 5
  · have b5 : (p == 5) = true := by simp [h5]
    have hP : decide (Pr p) = true := by simp [Pr, h5]
    rw [hP]
    simp [b2, b3, b5]
  have b5 : (p == 5) = false := by simp [h5]
  by_cases h7 : p = 7
  · have b7 : (p == 7) = true := by simp [h7]
    have hP : decide (Pr p) = true := by simp [Pr, h7]
    rw [hP]
    simp [b2, b3, b5, b7]
  have b7 : (p == 7) = false := by simp [h7]
  by_cases h11 : p = 11
  · have b11 : (p == 11) = true := by simp [h11]
    have hP : decide (Pr p) = true := by simp [Pr, h11]
    rw [hP]
    simp [b2, b3, b5, b7, b11]
  have b11 : (p == 11) = false := by simp [h11]
  by_cases h13 : p = 13
  · have b13 : (p == 13) = true := by simp [h13]
    have hP : decide (Pr p) = true := by simp [Pr, h13]
    rw [hP]
    simp [b2, b3, b5, b7, b11, b13]
  have b13 : (p == 13) = false := by simp [h13]
  have hP : decide (Pr p) = false := by simp [Pr, h2, h3, h5, h7, h11, h13]
  rw [hP]
  simp [b2, b3, b5, b7, b11, b13]

theorem l01Prime_ok (p : Int) : CallOK Go.Proofs.Try.prog 61 [.one (i64 p)] (.one (bo (decide (Pr p)))) := by
  have hF := fnOk 25 [.tmp 2]
  refine callOK hF 50 Go.Proofs.Try.func61 rfl rfl rfl (by decide) (by simp) rfl ?_
  intro w0 hw
  by_cases h2 : p = 2
  · have b2 : (p == 2) = true := by simp [h2]
    have hP : decide (Pr p) = true := by simp [Pr, h2]
    rw [hP]
    simp [b2]
  have b2 : (p == 2) = false := by simp [h2]
  by_cases h3 : p = 3
  · have b3 : (p == 3) = true := by simp [h3]
    have hP : decide (Pr p) = true := by simp [Pr, h3]
    rw [hP]
    simp [b2, b3]
  have b3 : (p == 3) = false := by simp [h3]
  by_cases h5 : p = 5
  · have b5 : (p == 5) = true := by simp [h5]
    have hP : decide (Pr p) = true := by simp [Pr, h5]
    rw [hP]
    simp [b2, b3, b5]
  have b5 : (p == 5) = false := by simp [h5]
  by_cases h7 : p = 7
  · have b7 : (p == 7) = true := by simp [h7]
    have hP : decide (Pr p) = true := by simp [Pr, h7]
    rw [hP]
    simp [b2, b3, b5, b7]
  have b7 : (p == 7) = false := by simp [h7]
  by_cases h11 : p = 11
  · have b11 : (p == 11) = true := by simp [h11]
    have hP : decide (Pr p) = true := by simp [Pr, h11]
    rw [hP]
    simp [b2, b3, b5, b7, b11]
  have b11 : (p == 11) = false := by simp [h11]
  by_cases h13 : p = 13
  · have b13 : (p == 13) = true := by simp [h13]
    have hP : decide (Pr p) = true := by simp [Pr, h13]
    rw [hP]
    simp [b2, b3, b5, b7, b11, b13]
  have b13 : (p == 13) = false := by simp [h13]
  have hP : decide (Pr p) = false := by simp [Pr, h2, h3, h5, h7, h11, h13]
  rw [hP]
  simp [b2, b3, b5, b7, b11, b13]

theorem toInt64S_ok (xs : List Int) (hl : xs.length ≤ 1048576) : CallOK Go.Proofs.Try.prog 16 [.one (vInts xs)] (.one (oInts xs)) := by
  have hF := fnOk 22 [.tmp 2]
  refine callOK hF 50 Go.Proofs.Try.func16 rfl rfl rfl (by decide) (by simp) rfl ?_
  intro w0 hw
  have S := @vc_sound w0 _ hF ⟨.one (oInts xs), []⟩ Go.Proofs.Try.f16 rfl (by simp)
  simp
  refine ⟨⟨by omega, by omega⟩, ?_⟩
  refine J.loop hw (fun p : Nat × List Int => ⟨[(0, .c (.d (vInts xs))), (3, .c (.ob 64003)), (4, .c (.d (i64 p.1)))], [(64003, .arr 2 1 (ints p.2))]⟩)
    (fun p => p.1 ≤ xs.length ∧ p.2.length = xs.length ∧ p.2.take p.1 = xs.take p.1) (fun p => xs.length - p.1) (0, List.replicate xs.length 0) (by simp) (by simp [List.map_replicate]) ?_
  rintro ⟨i, zs⟩ ⟨hi, hlen, htk⟩
  simp only at hi hlen htk
  refine S 50 _ _ ?_
  simp
  refine ⟨fun hlt => ⟨hlt, fun a ha => ⟨by omega, ?_⟩⟩, fun hge => ?_⟩
  · refine Nxt.mk (i + 1, zs.set i a) ⟨hlt, by simpa using hlen, ?_⟩ (by simp [wrapS (i := i) (n := xs.length) hlt (by omega), List.map_set]) (by show xs.length - (i + 1) < xs.length - i; omega)
    show (zs.set i a).take (i + 1) = xs.take (i + 1)
    rw [List.take_add_one, List.take_set_of_le (Nat.le_refl i), htk, List.take_add_one, ha]
    simp [show i < zs.length by omega]
  · have e : i = xs.length := by omega
    rw [e, List.take_length, ← hlen, List.take_length] at htk
    rw [htk]

theorem field_ok (p : Int) (xs : List Int) (hl : xs.length ≤ 1048576) : CallOK Go.Proofs.Try.prog 112 [.one (i64 p), .one (vInts xs)] (.one (bo (decide (∀ x ∈ xs, 0 ≤ x ∧ x < p)))) := by
  have hF := fnOk 21 [.tmp 4]
  refine callOK hF 50 Go.Proofs.Try.func112 rfl rfl rfl (by decide) (by simp) rfl ?_
  intro w0 hw
  have S := @vc_sound w0 _ hF ⟨.one (bo (decide (∀ x ∈ xs, 0 ≤ x ∧ x < p))), []⟩ Go.Proofs.Try.f112 rfl (by simp)
  simp
  refine J.loop hw (fun i : Nat => ⟨[(0, .c (.d (i64 p))), (7, .c (.d (vInts xs))), (8, .c (.d (i64 xs.length))), (9, .c (.d (i64 i)))], []⟩)
    (fun i => i ≤ xs.length ∧ ∀ x ∈ xs.take i, 0 ≤ x ∧ x < p) (fun i => xs.length - i) 0 (by simp) (by simp) ?_
  rintro i ⟨hi, hx⟩
  refine S 50 _ _ ?_
  simp
  refine ⟨fun hlt => ⟨hlt, fun a ha => ⟨fun h0 => ⟨fun hp => ?_, fun hp => ?_⟩, fun h0 => ?_⟩⟩, fun hge => ?_⟩
  · exact ⟨a, List.mem_of_getElem? ha, fun _ => hp⟩
  · refine Nxt.mk (i + 1) ⟨hlt, fun x hx' => ?_⟩ (by simp [wrapS (i := i) (n := xs.length) hlt (by omega)]) (by omega)
    rw [List.take_add_one, ha] at hx'
    simp only [Option.toList, List.mem_append, List.mem_singleton] at hx'
    rcases hx' with h | rfl
    · exact hx x h
    · exact ⟨h0, hp⟩
  · exact ⟨a, List.mem_of_getElem? ha, fun h => by omega⟩
  · intro x hx'
    exact hx x (by rw [List.take_of_length_le (by omega)]; exact hx')

end Go.Sm
