/- Partitions: the reference's, and both from outside. -/
import Derived.Test.YtfcolgpfagbidaaSoC
namespace Go.Sm
open Go.RowKit

theorem l08Partitions_ok (d : Nat) (hd : d ≤ 3) : ∀ (n most : Int), 0 ≤ n → n ≤ 12 → 0 ≤ most → most ≤ 12 → CallOK Go.Proofs.Try.prog 36 [.one (i64 n), .one (i64 d), .one (i64 most)] (.one (oIntss (parts d n most))) := by
  have hF := fnOk 50 [.tmp 6]
  induction d with
  | zero =>
    intro n most hn0 hn hm0 hm
    refine callOK hF 60 Go.Proofs.Try.func36 rfl rfl rfl (by decide) (by simp) rfl ?_
    intro w0 hw
    have S := @vc_sound w0 _ hF ⟨.one (oIntss (parts 0 n most)), []⟩ Go.Proofs.Try.f36 rfl (by simp)
    simp
    refine ⟨fun h => ?_, fun h => ?_⟩
    · refine BsW.move hF (e := 28) (es := [[oInts []]]) (ks := [15 * 64]) (by decide) rfl rfl rfl (by simp) (by simp) rfl (by decide) (by decide) (by simp) ?_
      refine S 60 _ _ ?_
      simp [parts, h]
    · simp [parts, h]
  | succ d ih =>
    intro n most hn0 hn hm0 hm
    refine callOK hF 60 Go.Proofs.Try.func36 rfl rfl rfl (by decide) (by simp) rfl ?_
    intro w0 hw
    have S := @vc_sound w0 _ hF ⟨.one (oIntss (parts (d + 1) n most)), []⟩ Go.Proofs.Try.f36 rfl (by simp)
    simp
    refine ⟨fun h => by omega, fun _ => ?_⟩
    refine J.loop hw (fun p : Nat × List (List Int) => ⟨[(0, .c (.d (i64 n))), (1, .c (.d (i64 ((d + 1 : Nat) : Int)))), (7, .c (.ob 64007)), (8, .c (.d (i64 ((p.1 : Int) - 1))))], [(64007, .arr 28 1 (p.2.map fun x => [oInts x]))]⟩)
      (fun p => (p.1 : Int) ≤ min n most + 1 ∧ p.2 ++ down (parts d) n p.1 = parts (d + 1) n most) (fun p => p.1) ((min n most + 1).toNat, []) (by simp [parts]; omega) (by simp; omega) ?_
    rintro ⟨k, acc⟩ ⟨hk, hacc⟩
    simp only at hk hacc
    refine S 60 _ _ ?_
    simp
    refine ⟨fun hk1 => ?_, fun hk0 => ?_⟩
    · obtain ⟨k, rfl⟩ : ∃ k', k = k' + 1 := ⟨k - 1, by omega⟩
      have hlen : acc.length ≤ 2197 := by
        have h1 := parts_length (d := d + 1) (n := n) (most := most) hn
        have h2 : 13 ^ (d + 1) ≤ 13 ^ 3 := Nat.pow_le_pow_right (by omega) hd
        rw [← hacc, List.length_append] at h1
        omega
      have hw1 : IntKind.i64.wrap (n - (((k + 1 : Nat) : Int) - 1)) = n - k := by rw [wrap64] <;> omega
      have hw2 : IntKind.i64.wrap (d : Int) = d := by rw [wrap64] <;> omega
      have hw3 : (((k + 1 : Nat) : Int) - 1) = k := by omega
      rw [hw1, hw2, hw3]
      have hrl : (parts d (n - k) k).length ≤ 2197 := Nat.le_trans (parts_length (by omega)) (Nat.pow_le_pow_right (n := 13) (by omega) (show d ≤ 3 by omega))
      refine CallW.ok (by decide) (by simp) (ih (by omega) (n - k) k (by omega) (by omega) (by omega) (by omega)) (by simp) ?_
      refine S 60 _ _ ?_
      simp
      generalize hrest : parts d (n - k) k = rest at *
      refine J.loop hw (fun p : Nat × List (List Int) => ⟨[(0, .c (.d (i64 n))), (1, .c (.d (i64 ((d : Int) + 1)))), (7, .c (.ob 64007)), (8, .c (.d (i64 (k : Int)))), (9, .c (.ob 64031)), (10, .c (.d (i64 p.1)))],
          [(64007, .arr 28 1 (p.2.map fun x => [oInts x])), (64031, .arr 28 1 (rest.map fun x => [oInts x]))]⟩)
        (fun p => p.1 ≤ rest.length ∧ p.2 = acc ++ (rest.take p.1).map (fun r => (k : Int) :: r)) (fun p => rest.length - p.1) (0, acc) (by simp) (by simp) ?_
      rintro ⟨j, ac⟩ ⟨hj, hac⟩
      simp only at hj hac
      refine S 60 _ _ ?_
      simp
      refine ⟨fun hjl => ⟨hjl, fun a ha => ?_⟩, fun hje => ?_⟩
      · have hal : a.length ≤ 3 := by
          have := parts_elem (d := d) (n := n - k) (most := k) (x := a) (by rw [hrest]; exact List.mem_of_getElem? ha)
          omega
        refine ⟨⟨by omega, by omega⟩, ?_⟩
        refine BsW.move hF (e := 28) (es := [[oInts ((k : Int) :: a)]]) (ks := [46 * 64]) (by decide) rfl rfl rfl (by simp) (by simp) rfl (by decide) (by decide) (by simp) ?_
        refine S 60 _ _ ?_
        simp
        have hacl : ac.length ≤ 2197 + 2197 := by rw [hac]; simp; omega
        refine ⟨⟨by omega, by omega⟩, ?_⟩
        refine Nxt.mk (j + 1, ac ++ [(k : Int) :: a]) ⟨hjl, ?_⟩ (by simp [wrapS (i := j) (n := rest.length) hjl (by omega)]) (by show rest.length - (j + 1) < rest.length - j; omega)
        show ac ++ [(k : Int) :: a] = _
        rw [hac, List.take_add_one]
        simp [ha, List.map_take]
      · have hj' : j = rest.length := by omega
        subst hj'
        have hw4 : IntKind.i64.wrap ((k : Int) - 1) = (k : Int) - 1 := by rw [wrap64] <;> omega
        refine Nxt.mk (k, ac) ⟨by show (k : Int) ≤ _; omega, ?_⟩ (by simp [hw4]) (by show k < k + 1; omega)
        show ac ++ down (parts d) n k = _
        rw [hac, ← hacc, down, hrest]
        simp
    · have : k = 0 := by omega
      subst this
      simp only [down, List.append_nil] at hacc
      rw [hacc]

/-- What both return. -/
def partsOf (n d : Int) : List (List Int) × Int := if (0 ≤ n ∧ n ≤ 12) ∧ (1 ≤ d ∧ d ≤ 3) then (parts d.toNat n n, 0) else ([], 2)

theorem PartitionsOf_ok (n d : Int) : CallOK Go.Proofs.Try.prog 10 [.one (i64 n), .one (i64 d)] (.tup [(false, [oIntss (partsOf n d).1]), (false, [i64 (partsOf n d).2])]) := by
  have hF := fnOk 18 [.tmp 4, .tmp 5]
  refine callOK hF 60 Go.Proofs.Try.func10 rfl rfl rfl (by decide) (by simp) rfl ?_
  intro w0 hw
  have S := @vc_sound w0 _ hF ⟨.tup [(false, [oIntss (partsOf n d).1]), (false, [i64 (partsOf n d).2])], []⟩ Go.Proofs.Try.f10 rfl (by simp)
  have c1 := isDegree_ok n
  have c2 := isVars_ok d
  by_cases h1 : 0 ≤ n ∧ n ≤ 12
  · rw [decide_eq_true h1] at c1
    by_cases h2 : 1 ≤ d ∧ d ≤ 3
    · rw [decide_eq_true h2] at c2
      have hp : partsOf n d = (parts d.toNat n n, 0) := by simp only [partsOf]; rw [if_pos ⟨h1, h2⟩]
      have c3 := partitions_ok d.toNat (by omega) n n h1.1 h1.2 h1.1 h1.2
      rw [show ((d.toNat : Nat) : Int) = d by omega] at c3
      rw [hp] at S ⊢
      simp
      refine CallW.ok (by decide) (by simp) c1 (by simp) ?_
      refine S 60 _ _ ?_
      simp
      refine CallW.ok (by decide) (by simp) c2 (by simp) ?_
      refine S 60 _ _ ?_
      simp
      refine CallW.ok (by decide) (by simp) c3 (by simp) ?_
      refine S 60 _ _ ?_
      simp
    · rw [decide_eq_false h2] at c2
      have hp : partsOf n d = ([], 2) := by simp only [partsOf]; rw [if_neg (fun h => h2 h.2)]
      rw [hp] at S ⊢
      simp
      refine CallW.ok (by decide) (by simp) c1 (by simp) ?_
      refine S 60 _ _ ?_
      simp
      refine CallW.ok (by decide) (by simp) c2 (by simp) ?_
      refine S 60 _ _ ?_
      simp
  · rw [decide_eq_false h1] at c1
    have hp : partsOf n d = ([], 2) := by simp only [partsOf]; rw [if_neg (fun h => h1 h.1)]
    rw [hp] at S ⊢
    simp
    refine CallW.ok (by decide) (by simp) c1 (by simp) ?_
    refine S 60 _ _ ?_
    simp

theorem specPartitionsOf_ok (n d : Int) : CallOK Go.Proofs.Try.prog 9 [.one (i64 n), .one (i64 d)] (.tup [(false, [oIntss (partsOf n d).1]), (false, [i64 (partsOf n d).2])]) := by
  have hF := fnOk 18 [.tmp 4, .tmp 5]
  refine callOK hF 60 Go.Proofs.Try.func9 rfl rfl rfl (by decide) (by simp) rfl ?_
  intro w0 hw
  have S := @vc_sound w0 _ hF ⟨.tup [(false, [oIntss (partsOf n d).1]), (false, [i64 (partsOf n d).2])], []⟩ Go.Proofs.Try.f9 rfl (by simp)
  have c1 := l01In_ok n 0 12
  have c2 := l01In_ok d 1 3
  by_cases h1 : 0 ≤ n ∧ n ≤ 12
  · rw [decide_eq_true h1] at c1
    by_cases h2 : 1 ≤ d ∧ d ≤ 3
    · rw [decide_eq_true h2] at c2
      have hp : partsOf n d = (parts d.toNat n n, 0) := by simp only [partsOf]; rw [if_pos ⟨h1, h2⟩]
      have c3 := l08Partitions_ok d.toNat (by omega) n n h1.1 h1.2 h1.1 h1.2
      rw [show ((d.toNat : Nat) : Int) = d by omega] at c3
      rw [hp] at S ⊢
      simp
      refine CallW.ok (by decide) (by simp) c1 (by simp) ?_
      refine S 60 _ _ ?_
      simp
      refine CallW.ok (by decide) (by simp) c2 (by simp) ?_
      refine S 60 _ _ ?_
      simp
      refine CallW.ok (by decide) (by simp) c3 (by simp) ?_
      refine S 60 _ _ ?_
      simp
    · rw [decide_eq_false h2] at c2
      have hp : partsOf n d = ([], 2) := by simp only [partsOf]; rw [if_neg (fun h => h2 h.2)]
      rw [hp] at S ⊢
      simp
      refine CallW.ok (by decide) (by simp) c1 (by simp) ?_
      refine S 60 _ _ ?_
      simp
      refine CallW.ok (by decide) (by simp) c2 (by simp) ?_
      refine S 60 _ _ ?_
      simp
  · rw [decide_eq_false h1] at c1
    have hp : partsOf n d = ([], 2) := by simp only [partsOf]; rw [if_neg (fun h => h1 h.1)]
    rw [hp] at S ⊢
    simp
    refine CallW.ok (by decide) (by simp) c1 (by simp) ?_
    refine S 60 _ _ ?_
    simp

end Go.Sm
