/- Partitions. -/
import Derived.Test.YtfcolgpfagbidaaSoB
namespace Go.Sm
open Go.RowKit

theorem l01In_ok (n lo hi : Int) : CallOK Go.Proofs.Try.prog 35 [.one (i64 n), .one (i64 lo), .one (i64 hi)] (.one (bo (decide (lo ≤ n ∧ n ≤ hi)))) := by
  have hF := fnOk 15 [.tmp 6]
  refine callOK hF 50 Go.Proofs.Try.func35 rfl rfl rfl (by decide) (by simp) rfl ?_
  intro w0 hw
  simp
  refine ⟨fun h => by simp [h], fun h => ?_⟩
  have : ¬ lo ≤ n := by omega
  simp [this]

theorem isDegree_ok (n : Int) : CallOK Go.Proofs.Try.prog 37 [.one (i64 n)] (.one (bo (decide (0 ≤ n ∧ n ≤ 12)))) := by
  have hF := fnOk 9 [.tmp 2]
  refine callOK hF 50 Go.Proofs.Try.func37 rfl rfl rfl (by decide) (by simp) rfl ?_
  intro w0 hw
  simp
  refine ⟨fun h => ?_, fun h => ?_⟩
  · simp [h]
  · have : ¬ 0 ≤ n := by omega
    simp [this]

theorem isVars_ok (n : Int) : CallOK Go.Proofs.Try.prog 38 [.one (i64 n)] (.one (bo (decide (1 ≤ n ∧ n ≤ 3)))) := by
  have hF := fnOk 9 [.tmp 2]
  refine callOK hF 50 Go.Proofs.Try.func38 rfl rfl rfl (by decide) (by simp) rfl ?_
  intro w0 hw
  simp
  refine ⟨fun h => ?_, fun h => ?_⟩
  · simp [h]
  · have : ¬ 1 ≤ n := by omega
    simp [this]

def down (f : Int → Int → List (List Int)) (n : Int) : Nat → List (List Int)
  | 0 => []
  | k + 1 => (f (n - k) k).map (fun r => (k : Int) :: r) ++ down f n k
def parts : Nat → Int → Int → List (List Int)
  | 0, n, _ => if n = 0 then [[]] else []
  | d + 1, n, most => down (parts d) n (min n most + 1).toNat

theorem down_length {f : Int → Int → List (List Int)} {n : Int} {b : Nat} (h : ∀ j : Nat, (f (n - j) j).length ≤ b) : ∀ k, (down f n k).length ≤ k * b
  | 0 => by simp [down]
  | k + 1 => by
    have := down_length h k
    have := h k
    simp only [down, List.length_append, List.length_map, Nat.add_mul]; omega

theorem parts_length {d : Nat} : ∀ {n most : Int}, n ≤ 12 → (parts d n most).length ≤ 13 ^ d := by
  induction d with
  | zero => intro n most _; simp only [parts]; split <;> simp
  | succ d ih =>
    intro n most hn
    have h := down_length (f := parts d) (n := n) (b := 13 ^ d) (fun j => ih (by omega)) (min n most + 1).toNat
    have h2 : (min n most + 1).toNat * 13 ^ d ≤ 13 * 13 ^ d := Nat.mul_le_mul_right _ (by omega)
    simp only [parts, Nat.pow_succ]
    omega

theorem down_mem {f : Int → Int → List (List Int)} {n : Int} {x : List Int} : ∀ {k : Nat}, x ∈ down f n k → ∃ j : Nat, ∃ y ∈ f (n - j) j, x = (j : Int) :: y
  | 0, h => by simp [down] at h
  | k + 1, h => by
    simp only [down, List.mem_append, List.mem_map] at h
    rcases h with ⟨y, hy, rfl⟩ | h
    · exact ⟨k, y, hy, rfl⟩
    · exact down_mem h

theorem parts_elem {d : Nat} : ∀ {n most : Int} {x : List Int}, x ∈ parts d n most → x.length = d := by
  induction d with
  | zero => intro n most x h; simp only [parts] at h; split at h <;> simp at h; subst h; rfl
  | succ d ih =>
    intro n most x h
    obtain ⟨j, y, hy, rfl⟩ := down_mem h
    simp [ih hy]

theorem partitions_ok (d : Nat) (hd : d ≤ 3) : ∀ (n most : Int), 0 ≤ n → n ≤ 12 → 0 ≤ most → most ≤ 12 → CallOK Go.Proofs.Try.prog 39 [.one (i64 n), .one (i64 d), .one (i64 most)] (.one (oIntss (parts d n most))) := by
  have hF := fnOk 46 [.tmp 6]
  induction d with
  | zero =>
    intro n most hn0 hn hm0 hm
    refine callOK hF 60 Go.Proofs.Try.func39 rfl rfl rfl (by decide) (by simp) rfl ?_
    intro w0 hw
    have S := @vc_sound w0 _ hF ⟨.one (oIntss (parts 0 n most)), []⟩ Go.Proofs.Try.f39 rfl (by simp)
    simp
    refine ⟨fun h => ?_, fun h => ?_⟩
    · refine BsW.move hF (e := 28) (es := [[oInts []]]) (ks := [15 * 64]) (by decide) rfl rfl rfl (by simp) (by simp) rfl (by decide) (by decide) (by simp) ?_
      refine S 60 _ _ ?_
      simp [parts, h]
    · simp [parts, h]
  | succ d ih =>
    intro n most hn0 hn hm0 hm
    refine callOK hF 60 Go.Proofs.Try.func39 rfl rfl rfl (by decide) (by simp) rfl ?_
    intro w0 hw
    have S := @vc_sound w0 _ hF ⟨.one (oIntss (parts (d + 1) n most)), []⟩ Go.Proofs.Try.f39 rfl (by simp)
    simp
    refine ⟨fun h => by omega, fun _ => ?_⟩
    refine J.loop hw (fun p : Nat × List (List Int) => ⟨[(0, .c (.d (i64 n))), (1, .c (.d (i64 ((d + 1 : Nat) : Int)))), (7, .c (.ob 64007)), (8, .c (.d (i64 ((p.1 : Int) - 1))))], [(64007, .arr 28 1 (p.2.map fun x => [oInts x]))]⟩)
      (fun p => (p.1 : Int) ≤ min n most + 1 ∧ p.2 ++ down (parts d) n p.1 = parts (d + 1) n most) (fun p => p.1) ((min n most + 1).toNat, []) (by simp [parts]; omega) (by simp; omega) ?_
    rintro ⟨k, acc⟩ ⟨hk, hacc⟩
    simp only at hk hacc
    refine S 60 _ _ ?_
    simp
    refine ⟨fun hk1 => ?_, fun hk0 => ?_⟩
    · obtain ⟨k, rfl⟩ : ∃ k', k = k' + 1 := ⟨k - 1, by omega⟩
      have hlen : acc.length ≤ 2197 := by
        have h1 := parts_length (d := d + 1) (n := n) (most := most) hn
        have h2 : 13 ^ (d + 1) ≤ 13 ^ 3 := Nat.pow_le_pow_right (by omega) hd
        rw [← hacc, List.length_append] at h1
        omega
      have hw1 : IntKind.i64.wrap (n - (((k + 1 : Nat) : Int) - 1)) = n - k := by rw [wrap64] <;> omega
      have hw2 : IntKind.i64.wrap (d : Int) = d := by rw [wrap64] <;> omega
      have hw3 : (((k + 1 : Nat) : Int) - 1) = k := by omega
      rw [hw1, hw2, hw3]
      have hrl : (parts d (n - k) k).length ≤ 2197 := Nat.le_trans (parts_length (by omega)) (Nat.pow_le_pow_right (n := 13) (by omega) (show d ≤ 3 by omega))
      refine CallW.ok (by decide) (by simp) (ih (by omega) (n - k) k (by omega) (by omega) (by omega) (by omega)) (by simp) ?_
      refine S 60 _ _ ?_
      simp
      generalize hrest : parts d (n - k) k = rest at *
      refine J.loop hw (fun p : Nat × List (List Int) => ⟨[(0, .c (.d (i64 n))), (1, .c (.d (i64 ((d : Int) + 1)))), (7, .c (.ob 64007)), (8, .c (.d (i64 (k : Int)))), (31, .c (.ob 64031)), (32, .c (.d (i64 rest.length))), (33, .c (.d (i64 p.1)))],
          [(64007, .arr 28 1 (p.2.map fun x => [oInts x])), (64031, .arr 28 1 (rest.map fun x => [oInts x]))]⟩)
        (fun p => p.1 ≤ rest.length ∧ p.2 = acc ++ (rest.take p.1).map (fun r => (k : Int) :: r)) (fun p => rest.length - p.1) (0, acc) (by simp) (by simp) ?_
      rintro ⟨j, ac⟩ ⟨hj, hac⟩
      simp only at hj hac
      refine S 60 _ _ ?_
      simp
      refine ⟨fun hjl => ⟨hjl, fun a ha => ?_⟩, fun hje => ?_⟩
      · have hal : a.length ≤ 3 := by
          have := parts_elem (d := d) (n := n - k) (most := k) (x := a) (by rw [hrest]; exact List.mem_of_getElem? ha)
          omega
        refine ⟨⟨by omega, by omega⟩, ?_⟩
        refine BsW.move hF (e := 28) (es := [[oInts ((k : Int) :: a)]]) (ks := [41 * 64]) (by decide) rfl rfl rfl (by simp) (by simp) rfl (by decide) (by decide) (by simp) ?_
        refine S 60 _ _ ?_
        simp
        have hacl : ac.length ≤ 2197 + 2197 := by rw [hac]; simp; omega
        refine ⟨⟨by omega, by omega⟩, ?_⟩
        refine Nxt.mk (j + 1, ac ++ [(k : Int) :: a]) ⟨hjl, ?_⟩ (by simp [wrapS (i := j) (n := rest.length) hjl (by omega)]) (by show rest.length - (j + 1) < rest.length - j; omega)
        show ac ++ [(k : Int) :: a] = _
        rw [hac, List.take_add_one]
        simp [ha, List.map_take]
      · have hj' : j = rest.length := by omega
        subst hj'
        have hw4 : IntKind.i64.wrap ((k : Int) - 1) = (k : Int) - 1 := by rw [wrap64] <;> omega
        refine Nxt.mk (k, ac) ⟨by show (k : Int) ≤ _; omega, ?_⟩ (by simp [hw4]) (by show k < k + 1; omega)
        show ac ++ down (parts d) n k = _
        rw [hac, ← hacc, down, hrest]
        simp
    · have : k = 0 := by omega
      subst this
      simp only [down, List.append_nil] at hacc
      rw [hacc]

end Go.Sm
