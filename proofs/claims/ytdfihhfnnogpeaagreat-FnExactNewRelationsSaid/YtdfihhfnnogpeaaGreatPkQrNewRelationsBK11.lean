/- Towards the rows of this seat: what the functions do, as contracts over plain data. -/
import Derived.Test.YtdfihhfnnogpeaaGreatPkQrNewRelationsBK10
namespace Go.Sm

def expsG (F : Nat → List (List Int)) (d n : Nat) : Nat → List (List Int)
  | 0 => []
  | m + 1 => (F (n - m * d)).map (fun r => (m : Int) :: r) ++ expsG F d n m
/-- The exponents of all products of degree n of polynomials of degrees ds, in order. -/
def expsL : List Nat → Nat → List (List Int)
  | [], n => if n = 0 then [[]] else []
  | d :: ds, n => expsG (expsL ds) d n (n / d + 1)
theorem expsG_len {F : Nat → List (List Int)} {d n B : Nat} (h : ∀ k, k ≤ n → (F k).length ≤ B) : ∀ m, (expsG F d n m).length ≤ m * B
  | 0 => by simp [expsG]
  | m + 1 => by
    have := h (n - m * d) (by omega)
    have := expsG_len (d := d) h m
    simp only [expsG, List.length_append, List.length_map]
    rw [Nat.succ_mul]; omega
theorem expsL_len : ∀ (ds : List Nat) (n : Nat), n ≤ 12 → (expsL ds n).length ≤ 13 ^ ds.length
  | [], n, _ => by unfold expsL; split <;> simp
  | d :: ds, n, h => by
    have h1 := expsG_len (F := expsL ds) (d := d) (n := n) (B := 13 ^ ds.length) (fun k hk => expsL_len ds k (by omega)) (n / d + 1)
    have h2 : n / d ≤ n := Nat.div_le_self _ _
    have h3 : (n / d + 1) * 13 ^ ds.length ≤ 13 * 13 ^ ds.length := Nat.mul_le_mul_right _ (by omega)
    rw [expsL, List.length_cons, Nat.pow_succ, Nat.mul_comm (13 ^ ds.length)]
    omega
theorem pow13 {k : Nat} (h : k ≤ 8) : 13 ^ k ≤ 815730721 := Nat.le_trans (Nat.pow_le_pow_right (by omega) h) (by decide)
theorem expsG_mem {F : Nat → List (List Int)} {d n : Nat} {r : List Int} : ∀ {m : Nat}, r ∈ expsG F d n m → ∃ k, k < m ∧ ∃ s ∈ F (n - k * d), r = (k : Int) :: s
  | 0, h => by simp [expsG] at h
  | m + 1, h => by
    simp only [expsG, List.mem_append, List.mem_map] at h
    rcases h with ⟨s, hs, rfl⟩ | h
    · exact ⟨m, by omega, s, hs, rfl⟩
    · obtain ⟨k, hk, s, hs, hr⟩ := expsG_mem h
      exact ⟨k, by omega, s, hs, hr⟩
/-- The degree of a product. -/
def degL : List Nat → List Int → Nat
  | d :: ds, k :: r => k.toNat * d + degL ds r
  | _, _ => 0
theorem expsL_mem : ∀ {ds : List Nat} {n : Nat} {r : List Int}, (∀ d ∈ ds, 1 ≤ d) → r ∈ expsL ds n → r.length = ds.length ∧ degL ds r = n ∧ ∀ x ∈ r, 0 ≤ x ∧ x ≤ n
  | [], n, r, _, h => by
    unfold expsL at h
    split at h
    · rename_i h0
      rw [List.mem_singleton] at h; subst h; subst h0
      exact ⟨rfl, rfl, by simp⟩
    · cases h
  | d :: ds, n, r, hd, h => by
    obtain ⟨k, hk, s, hs, rfl⟩ := expsG_mem h
    have hd1 := hd d (by simp)
    have hkn : k * d ≤ n := Nat.le_trans (Nat.mul_le_mul_right d (by omega : k ≤ n / d)) (Nat.div_mul_le_self n d)
    have hk1 : k ≤ k * d := Nat.le_mul_of_pos_right k hd1
    obtain ⟨h1, h2, h3⟩ := expsL_mem (fun x hx => hd x (by simp [hx])) hs
    refine ⟨by simp [h1], ?_, fun x hx => ?_⟩
    · simp only [degL, Int.toNat_natCast, h2]; omega
    · rcases List.mem_cons.1 hx with rfl | hx
      · omega
      · have := h3 x hx; omega

theorem expsL_width : ∀ {ds : List Nat} {n : Nat} {r : List Int}, r ∈ expsL ds n → r.length = ds.length
  | [], n, r, h => by
    unfold expsL at h
    split at h
    · rw [List.mem_singleton] at h; subst h; rfl
    · cases h
  | d :: ds, n, r, h => by
    obtain ⟨k, _, s, hs, rfl⟩ := expsG_mem h
    simp [expsL_width hs]

/-! ### how many -/
def cntL (ds : List Nat) (n : Nat) : Nat := (expsL ds n).length
theorem expsG_step {F : Nat → List (List Int)} {d n : Nat} (hd : d ≤ n) : ∀ m, (expsG F d n (m + 1)).length = (F n).length + (expsG F d (n - d) m).length
  | 0 => by simp [expsG]
  | m + 1 => by
    have ih := expsG_step (F := F) hd m
    rw [expsG, List.length_append, List.length_map, ih, expsG, List.length_append, List.length_map, Nat.succ_mul, show n - (m * d + d) = n - d - m * d by omega]
    omega
theorem cntL_step {d : Nat} (hd : 1 ≤ d) (ds : List Nat) (n : Nat) : cntL (d :: ds) n = cntL ds n + if d ≤ n then cntL (d :: ds) (n - d) else 0 := by
  unfold cntL
  by_cases h : d ≤ n
  · rw [if_pos h, expsL, expsL]
    have e : n / d = (n - d) / d + 1 := by
      rw [← Nat.add_div_right _ hd, show n - d + d = n by omega]
    rw [e, expsG_step h]
  · rw [if_neg h, expsL, Nat.div_eq_of_lt (by omega)]
    simp [expsG]
theorem cntL_swap {a b : Nat} (ha : 1 ≤ a) (hb : 1 ≤ b) (ds : List Nat) : ∀ n, cntL (a :: b :: ds) n = cntL (b :: a :: ds) n := by
  intro n
  induction n using Nat.strongRecOn with
  | _ n ih =>
    have x0 := cntL_step ha (b :: ds) n
    have y0 := cntL_step hb (a :: ds) n
    have x1 := cntL_step hb ds n
    have y1 := cntL_step ha ds n
    by_cases h1 : a ≤ n <;> by_cases h2 : b ≤ n
    · rw [if_pos h1] at x0 y1
      rw [if_pos h2] at y0 x1
      have i1 := ih (n - a) (by omega)
      have i2 := ih (n - b) (by omega)
      have x2 := cntL_step ha (b :: ds) (n - b)
      have y2 := cntL_step hb (a :: ds) (n - a)
      by_cases h3 : a + b ≤ n
      · rw [if_pos (by omega)] at x2 y2
        rw [show n - b - a = n - (a + b) by omega] at x2
        rw [show n - a - b = n - (a + b) by omega] at y2
        have i3 := ih (n - (a + b)) (by omega)
        omega
      · rw [if_neg (by omega)] at x2 y2
        omega
    · rw [if_pos h1] at x0 y1
      rw [if_neg h2] at y0 x1
      have i1 := ih (n - a) (by omega)
      have y2 := cntL_step hb (a :: ds) (n - a)
      rw [if_neg (by omega)] at y2
      omega
    · rw [if_neg h1] at x0 y1
      rw [if_pos h2] at y0 x1
      have i2 := ih (n - b) (by omega)
      have x2 := cntL_step ha (b :: ds) (n - b)
      rw [if_neg (by omega)] at x2
      omega
    · rw [if_neg h1] at x0 y1
      rw [if_neg h2] at y0 x1
      omega
theorem cntL_cons {d : Nat} (hd : 1 ≤ d) {xs ys : List Nat} (h : ∀ n, cntL xs n = cntL ys n) : ∀ n, cntL (d :: xs) n = cntL (d :: ys) n := by
  intro n
  induction n using Nat.strongRecOn with
  | _ n ih =>
    rw [cntL_step hd xs, cntL_step hd ys, h n]
    split
    · rw [ih (n - d) (by omega)]
    · rfl
theorem cntL_perm {xs ys : List Nat} (h : xs.Perm ys) : (∀ d ∈ xs, 1 ≤ d) → ∀ n, cntL xs n = cntL ys n := by
  induction h with
  | nil => intro _ _; rfl
  | cons x _ ih => intro hd; exact cntL_cons (hd x (by simp)) (ih fun d h => hd d (by simp [h]))
  | swap x y l => intro hd; exact cntL_swap (hd _ (by simp)) (hd _ (by simp)) l
  | trans h1 _ ih1 ih2 => intro hd n; rw [ih1 hd n, ih2 (fun d h => hd d (h1.symm.subset h)) n]
theorem cntL_rev {ds : List Nat} (hd : ∀ d ∈ ds, 1 ≤ d) (n : Nat) : cntL ds.reverse n = cntL ds n := cntL_perm (List.reverse_perm ds) (fun d h => hd d (by simpa using h)) n
end Go.Sm
