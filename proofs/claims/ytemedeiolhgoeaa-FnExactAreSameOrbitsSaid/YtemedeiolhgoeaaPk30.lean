/- Towards the rows of this seat: what the functions do, as contracts over plain data. -/
import Derived.Test.YtemedeiolhgoeaaPk3
import Derived.Test.YtemedeiolhgoeaaPk1
namespace Go.Sm
open Go.RowKit

def PointP (p d : Int) (v : List Int) : Prop := (v.length : Int) = d ∧ ∀ x ∈ v, 0 ≤ x ∧ x < p
instance (p d : Int) (v : List Int) : Decidable (PointP p d v) := by unfold PointP; infer_instance

theorem l01Point_ok (p d : Int) (v : List Int) (hp : Pr p) (hl : v.length ≤ 1048576) : CallOK Go.Proofs.Try.prog 16 [.one (i64 p), .one (i64 d), .one (vInts v)] (.one (bo (decide (PointP p d v)))) := by
  have hF := fnOk 26 [.tmp 6]
  refine callOK hF 60 Go.Proofs.Try.func16 rfl rfl rfl (by decide) (by simp) rfl ?_
  intro w0 hw
  have S := @vc_sound w0 _ hF ⟨(.one (bo (decide (PointP p d v)))), []⟩ Go.Proofs.Try.f16 rfl (by simp)
  generalize hb : decide (PointP p d v) = b at S ⊢
  have hpp : 2 ≤ p ∧ p ≤ 13 := by unfold Pr at hp; omega
  have hw1 : IntKind.i64.wrap (p - 1) = p - 1 := wrap64 (by omega) (by omega)
  have hbad : ∀ x ∈ v, ¬ (0 ≤ x ∧ x ≤ p - 1) → b = false := fun x hx hn => by
    rw [← hb]; simp only [decide_eq_false_iff_not]; intro h; exact hn (by have := h.2 x hx; omega)
  simp
  refine J.loop hw (fun i : Nat => ⟨[(0, .c (.d (i64 p))), (1, .c (.d (i64 d))), (2, .c (.d (vInts v))), (7, .c (.d (i64 i)))], []⟩)
    (fun i => i ≤ v.length ∧ ∀ x ∈ v.take i, 0 ≤ x ∧ x ≤ p - 1) (fun i => v.length - i) 0 (by simp) (by simp) ?_
  rintro i ⟨hi, hall⟩
  refine S 12 _ _ ?_
  simp
  refine ⟨fun hlt => ?_, fun hge => ?_⟩
  · obtain ⟨x, hx⟩ : ∃ x, v[i]? = some x := ⟨v[i], List.getElem?_eq_getElem hlt⟩
    have hbx := hbad x (List.mem_of_getElem? hx)
    have c1 := l01In_ok x 0 (p - 1)
    refine S 60 _ _ ?_
    simp [hw1]
    refine ⟨hlt, fun x' hx' => ?_⟩
    obtain rfl : x = x' := Option.some.inj (hx.symm.trans hx')
    by_cases hf : 0 ≤ x ∧ x ≤ p - 1
    · rw [decide_eq_true hf] at c1
      refine CallW.ok (by decide) (by simp) c1 (by simp) (S 60 _ _ ?_)
      simp
      refine Nxt.mk (i + 1) ⟨hlt, fun q hq => ?_⟩ (by simp [wrapS (i := i) (n := v.length) hlt (by omega)]) (by omega)
      rw [List.take_add_one, hx] at hq
      simp only [Option.toList, List.mem_append, List.mem_singleton] at hq
      rcases hq with h | rfl
      · exact hall q h
      · exact hf
    · rw [decide_eq_false hf] at c1
      refine CallW.ok (by decide) (by simp) c1 (by simp) (S 60 _ _ ?_)
      simp
      exact hbx hf
  · rw [List.take_of_length_le (by omega)] at hall
    refine S 60 _ _ ?_
    simp
    rw [← hb]
    by_cases h : (v.length : Int) = d
    · have e : ((v.length : Int) == d) = true := by simpa using h
      rw [e]
      exact (decide_eq_true (p := PointP p d v) ⟨h, fun x hx => by have := hall x hx; omega⟩).symm
    · have e : ((v.length : Int) == d) = false := by simpa using h
      rw [e]
      exact (decide_eq_false (p := PointP p d v) fun hq => h hq.1).symm

theorem isPoint_ok (p d : Int) (v : List Int) (hl : v.length ≤ 1048576) : CallOK Go.Proofs.Try.prog 37 [.one (i64 p), .one (i64 d), .one (vInts v)] (.one (bo (decide (PointP p d v)))) := by
  have hF := fnOk 16 [.tmp 6]
  refine callOK hF 60 Go.Proofs.Try.func37 rfl rfl rfl (by decide) (by simp) rfl ?_
  intro w0 hw
  have S := @vc_sound w0 _ hF ⟨(.one (bo (decide (PointP p d v)))), []⟩ Go.Proofs.Try.f37 rfl (by simp)
  have c1 := field_ok p v hl
  by_cases h : (v.length : Int) = d
  · have e : decide (PointP p d v) = decide (∀ x ∈ v, 0 ≤ x ∧ x < p) := decide_eq_decide.2 ⟨fun h => h.2, fun h2 => ⟨h, h2⟩⟩
    have hb : ((v.length : Int) == d) = true := by simpa using h
    rw [e] at S ⊢
    generalize decide (∀ x ∈ v, 0 ≤ x ∧ x < p) = b at c1 S ⊢
    simp [hb]
    refine CallW.ok (by decide) (by simp) c1 (by simp) (S 60 _ _ ?_)
    simp
  · have e : decide (PointP p d v) = false := decide_eq_false fun h2 => h h2.1
    have hb : ((v.length : Int) == d) = false := by simpa using h
    rw [e] at S ⊢
    simp [hb]

end Go.Sm
