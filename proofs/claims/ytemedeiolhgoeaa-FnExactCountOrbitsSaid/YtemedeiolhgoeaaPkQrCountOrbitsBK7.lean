/- Towards the rows of this seat: what the functions do, as contracts over plain data. -/
import Derived.Test.YtemedeiolhgoeaaPkQrCountOrbitsBK3
import Derived.Test.YtemedeiolhgoeaaPkQrCountOrbitsBK6
namespace Go.Sm
open Go.RowKit

/-- A matrix: nine bytes, row by row. -/
structure Mx where
  a : UInt8
  b : UInt8
  c : UInt8
  d : UInt8
  e : UInt8
  f : UInt8
  g : UInt8
  h : UInt8
  i : UInt8
  deriving DecidableEq, Inhabited
def Mx.at (m : Mx) : Nat → Nat → Int
  | 0, 0 => m.a.toNat
  | 0, 1 => m.b.toNat
  | 0, 2 => m.c.toNat
  | 1, 0 => m.d.toNat
  | 1, 1 => m.e.toNat
  | 1, 2 => m.f.toNat
  | 2, 0 => m.g.toNat
  | 2, 1 => m.h.toNat
  | 2, 2 => m.i.toNat
  | _, _ => 0
def byt (x : Int) : UInt8 := UInt8.ofNat x.toNat
def mkM (f : Nat → Nat → Int) : Mx := ⟨byt (f 0 0), byt (f 0 1), byt (f 0 2), byt (f 1 0), byt (f 1 1), byt (f 1 2), byt (f 2 0), byt (f 2 1), byt (f 2 2)⟩
theorem byt_toNat {x : Int} (h0 : 0 ≤ x) (h1 : x < 256) : ((byt x).toNat : Int) = x := by
  simp only [byt, UInt8.toNat_ofNat']
  omega
theorem lt3 {P : Nat → Prop} (h0 : P 0) (h1 : P 1) (h2 : P 2) : ∀ i < 3, P i := fun i hi => by
  have : i = 0 ∨ i = 1 ∨ i = 2 := by omega
  rcases this with rfl | rfl | rfl <;> assumption
theorem at_mk {f : Nat → Nat → Int} (hf : ∀ i < 3, ∀ j < 3, 0 ≤ f i j ∧ f i j < 256) : ∀ i < 3, ∀ j < 3, (mkM f).at i j = f i j := by
  refine lt3 (lt3 ?_ ?_ ?_) (lt3 ?_ ?_ ?_) (lt3 ?_ ?_ ?_) <;> exact byt_toNat (hf _ (by omega) _ (by omega)).1 (hf _ (by omega) _ (by omega)).2
theorem Mx.ext3 {m k : Mx} (h : ∀ i < 3, ∀ j < 3, m.at i j = k.at i j) : m = k := by
  have e : ∀ {x y : UInt8}, ((x.toNat : Int) = y.toNat) → x = y := fun hxy => UInt8.toNat_inj.1 (by omega)
  cases m; cases k
  congr
  · exact e (h 0 (by omega) 0 (by omega))
  · exact e (h 0 (by omega) 1 (by omega))
  · exact e (h 0 (by omega) 2 (by omega))
  · exact e (h 1 (by omega) 0 (by omega))
  · exact e (h 1 (by omega) 1 (by omega))
  · exact e (h 1 (by omega) 2 (by omega))
  · exact e (h 2 (by omega) 0 (by omega))
  · exact e (h 2 (by omega) 1 (by omega))
  · exact e (h 2 (by omega) 2 (by omega))
theorem Mx.at_range (m : Mx) : ∀ i j, 0 ≤ m.at i j ∧ m.at i j < 256 := by
  intro i j
  have hb : ∀ x : UInt8, (0 : Int) ≤ x.toNat ∧ (x.toNat : Int) < 256 := fun x => by have := x.toNat_lt; omega
  unfold Mx.at
  split <;> first | exact hb _ | omega

/-- The sum of the first numbers. -/
def sumN : Nat → (Nat → Int) → Int
  | 0, _ => 0
  | n + 1, f => sumN n f + f n
def timesM (p : Int) (n : Nat) (g h : Mx) : Mx := mkM fun i j => if i < n ∧ j < n then (sumN n fun k => g.at i k * h.at k j) % p else 0
def unitM (n : Nat) : Mx := mkM fun i j => if i < n ∧ j = i then 1 else 0
/-- Entries less than p, and 0 outside. -/
def InM (p : Int) (n : Nat) (g : Mx) : Prop := ∀ i < 3, ∀ j < 3, g.at i j < p ∧ (n ≤ i ∨ n ≤ j → g.at i j = 0)
def det2 (m : Nat → Nat → Int) : Int := m 0 0 * m 1 1 - m 0 1 * m 1 0
def det3 (m : Nat → Nat → Int) : Int := m 0 0 * (m 1 1 * m 2 2 - m 1 2 * m 2 1) - m 0 1 * (m 1 0 * m 2 2 - m 1 2 * m 2 0) + m 0 2 * (m 1 0 * m 2 1 - m 1 1 * m 2 0)
def detN (n : Nat) (m : Nat → Nat → Int) : Int := if n = 2 then det2 m else if n = 3 then det3 m else m 0 0
def detM (p : Int) (n : Nat) (g : Mx) : Int := detN n g.at % p
def rowM (n : Nat) (g : Mx) (i : Nat) : List Int := (List.range n).map (fun j => g.at i j) ++ (List.range n).map (fun j => if j = i then 1 else 0)
def rowsM (n : Nat) (g : Mx) : List (List Int) := (List.range n).map (rowM n g)
/-- The reference's word on an inverse. -/
def invM (p : Int) (n : Nat) (g : Mx) : Bool := (echL p (rowsM n g)).length == n && (List.range n).all fun i => leadN ((echL p (rowsM n g)).getD i []) == i

theorem sumN_range {p : Int} (hp : 0 < p) (n : Nat) (f : Nat → Int) : 0 ≤ sumN n f % p ∧ sumN n f % p < p := ⟨Int.emod_nonneg _ (by omega), Int.emod_lt_of_pos _ hp⟩
theorem times_at {p : Int} (hp : 0 < p) (hq : p ≤ 256) {n : Nat} (_ : n ≤ 3) (g h : Mx) : ∀ i < 3, ∀ j < 3, (timesM p n g h).at i j = if i < n ∧ j < n then (sumN n fun k => g.at i k * h.at k j) % p else 0 := by
  refine at_mk fun i _ j _ => ?_
  split
  · have := sumN_range hp n fun k => g.at i k * h.at k j
    omega
  · omega
theorem unit_at (n : Nat) : ∀ i < 3, ∀ j < 3, (unitM n).at i j = if i < n ∧ j = i then 1 else 0 := by
  refine at_mk fun i _ j _ => ?_
  split <;> omega
/-! ### sums modulo p -/
theorem sumN_ext {n : Nat} {f g : Nat → Int} (h : ∀ k < n, f k = g k) : sumN n f = sumN n g := by
  induction n with
  | zero => rfl
  | succ n ih => simp only [sumN]; rw [ih fun k hk => h k (by omega), h n (by omega)]
theorem sumN_mul (n : Nat) (c : Int) (f : Nat → Int) : sumN n (fun k => c * f k) = c * sumN n f := by
  induction n with
  | zero => simp [sumN]
  | succ n ih => simp only [sumN]; rw [ih, Int.mul_add]
theorem sumN_add (n : Nat) (f g : Nat → Int) : sumN n (fun k => f k + g k) = sumN n f + sumN n g := by
  induction n with
  | zero => simp [sumN]
  | succ n ih => simp only [sumN]; rw [ih]; omega
theorem sumN_swap (n m : Nat) (f : Nat → Nat → Int) : sumN n (fun i => sumN m fun j => f i j) = sumN m fun j => sumN n fun i => f i j := by
  induction n with
  | zero =>
    simp only [sumN]
    induction m with
    | zero => rfl
    | succ m ih => simp only [sumN]; omega
  | succ n ih => simp only [sumN]; rw [ih, ← sumN_add]
theorem sumN_dvd {p : Int} {n : Nat} {f g : Nat → Int} (h : ∀ k < n, p ∣ f k - g k) : p ∣ sumN n f - sumN n g := by
  induction n with
  | zero => simp [sumN]
  | succ n ih =>
    simp only [sumN]
    have h1 := ih fun k hk => h k (by omega)
    have h2 := Int.dvd_add h1 (h n (by omega))
    rwa [show sumN n f - sumN n g + (f n - g n) = sumN n f + f n - (sumN n g + g n) by omega] at h2
theorem sumN_one {n : Nat} {i : Nat} (hi : i < n) {f : Nat → Int} (h : ∀ k < n, k ≠ i → f k = 0) : sumN n f = f i := by
  induction n with
  | zero => omega
  | succ n ih =>
    simp only [sumN]
    by_cases hin : i = n
    · subst hin
      have : sumN i f = sumN i fun k => 0 * f k := sumN_ext fun k hk => by rw [h k (by omega) (by omega)]; simp
      rw [this, sumN_mul]; omega
    · rw [ih (by omega) fun k hk hne => h k (by omega) hne, h n (by omega) (by omega)]; omega
theorem emod_eq_of {p a b : Int} (h : p ∣ a - b) : a % p = b % p := Int.emod_eq_emod_iff_emod_sub_eq_zero.2 (Int.emod_eq_zero_of_dvd h)
theorem dvd_mul_sub {p a b : Int} (h : p ∣ a - b) (c : Int) : p ∣ c * a - c * b := by rw [← Int.mul_sub]; exact Int.dvd_mul_of_dvd_right h
theorem emod_dvd (p x : Int) : p ∣ x % p - x := mod_al x

/-! ### points -/
def leadV (p : Int) (n : Nat) (x : List Int) (g : Mx) : List Int := (List.range n).map fun j => (sumN n fun i => gt x i * g.at i j) % p
theorem leadV_len (p : Int) (n : Nat) (x : List Int) (g : Mx) : (leadV p n x g).length = n := by simp [leadV]
theorem leadV_row {p : Int} (hp : 0 < p) (n : Nat) (x : List Int) (g : Mx) : RowOk p n (leadV p n x g) := ⟨leadV_len .., fun v hv => by
  obtain ⟨j, -, rfl⟩ := List.mem_map.1 hv
  exact sumN_range hp n _⟩
/-! ### cancelling -/
theorem times_assoc {p : Int} (hp : 0 < p) (hq : p ≤ 256) {n : Nat} (hn : n ≤ 3) (f g h : Mx) : timesM p n (timesM p n f g) h = timesM p n f (timesM p n g h) := by
  refine Mx.ext3 fun i hi j hj => ?_
  rw [times_at hp hq hn _ _ i hi j hj, times_at hp hq hn _ _ i hi j hj]
  split
  · rename_i hij
    apply emod_eq_of
    have h1 : p ∣ (sumN n fun k => (timesM p n f g).at i k * h.at k j) - sumN n fun k => (sumN n fun l => f.at i l * g.at l k) * h.at k j := sumN_dvd fun k hk => by
      rw [times_at hp hq hn f g i hi k (by omega), if_pos ⟨hij.1, hk⟩, Int.mul_comm _ (h.at k j), Int.mul_comm _ (h.at k j)]
      exact dvd_mul_sub (emod_dvd ..) _
    have h2 : p ∣ (sumN n fun l => f.at i l * (timesM p n g h).at l j) - sumN n fun l => f.at i l * sumN n fun k => g.at l k * h.at k j := sumN_dvd fun l hl => by
      rw [times_at hp hq hn g h l (by omega) j (by omega), if_pos ⟨hl, hij.2⟩]
      exact dvd_mul_sub (emod_dvd ..) _
    have e : (sumN n fun l => f.at i l * sumN n fun k => g.at l k * h.at k j) = sumN n fun k => (sumN n fun l => f.at i l * g.at l k) * h.at k j := by
      have e1 : (sumN n fun l => f.at i l * sumN n fun k => g.at l k * h.at k j) = sumN n fun l => sumN n fun k => f.at i l * (g.at l k * h.at k j) := sumN_ext fun l _ => (sumN_mul ..).symm
      rw [e1, sumN_swap]
      refine sumN_ext fun k _ => ?_
      rw [Int.mul_comm _ (h.at k j), ← sumN_mul]
      exact sumN_ext fun l _ => by rw [Int.mul_comm (h.at k j), Int.mul_assoc]
    rw [e] at h2
    have := Int.dvd_sub h1 h2
    rwa [show ∀ a b c : Int, a - b - (c - b) = a - c from fun a b c => by omega] at this
  · rfl
theorem unit_times {p : Int} (hp : 0 < p) (hq : p ≤ 256) {n : Nat} (hn : n ≤ 3) {g : Mx} (hg : InM p n g) : timesM p n (unitM n) g = g := by
  refine Mx.ext3 fun i hi j hj => ?_
  rw [times_at hp hq hn _ _ i hi j hj]
  split
  · rename_i hij
    rw [sumN_one hij.1 fun k hk hne => by rw [unit_at n i hi k (by omega), if_neg (by omega)]; simp]
    rw [unit_at n i hi i hi, if_pos ⟨hij.1, rfl⟩, Int.one_mul]
    exact Int.emod_eq_of_lt (g.at_range i j).1 (hg i hi j hj).1
  · exact ((hg i hi j hj).2 (by omega)).symm
end Go.Sm

namespace Go.Sm
open Go.RowKit

def dl (i j : Nat) : Int := if j = i then 1 else 0
def adj2 (m : Nat → Nat → Int) (i j : Nat) : Int := if i = 0 then (if j = 0 then m 1 1 else -m 0 1) else if j = 0 then -m 1 0 else m 0 0
def adj3 (m : Nat → Nat → Int) (i j : Nat) : Int :=
  if i = 0 then (if j = 0 then m 1 1 * m 2 2 - m 1 2 * m 2 1 else if j = 1 then m 0 2 * m 2 1 - m 0 1 * m 2 2 else m 0 1 * m 1 2 - m 0 2 * m 1 1)
  else if i = 1 then (if j = 0 then m 1 2 * m 2 0 - m 1 0 * m 2 2 else if j = 1 then m 0 0 * m 2 2 - m 0 2 * m 2 0 else m 0 2 * m 1 0 - m 0 0 * m 1 2)
  else if j = 0 then m 1 0 * m 2 1 - m 1 1 * m 2 0 else if j = 1 then m 0 1 * m 2 0 - m 0 0 * m 2 1 else m 0 0 * m 1 1 - m 0 1 * m 1 0
def adjN (n : Nat) (m : Nat → Nat → Int) (i j : Nat) : Int := if n = 2 then adj2 m i j else if n = 3 then adj3 m i j else 1
theorem adj_right {n : Nat} (hn : 1 ≤ n ∧ n ≤ 3) (m : Nat → Nat → Int) : ∀ i < n, ∀ k < n, (sumN n fun j => m i j * adjN n m j k) = dl i k * detN n m := by
  have : n = 1 ∨ n = 2 ∨ n = 3 := by omega
  intro i hi k hk
  rcases this with rfl | rfl | rfl
  · obtain rfl : i = 0 := by omega
    obtain rfl : k = 0 := by omega
    simp [sumN, adjN, dl, detN]
  · have h1 : i = 0 ∨ i = 1 := by omega
    have h2 : k = 0 ∨ k = 1 := by omega
    rcases h1 with rfl | rfl <;> rcases h2 with rfl | rfl <;> simp [sumN, adjN, adj2, dl, detN, det2] <;> grind
  · have h1 : i = 0 ∨ i = 1 ∨ i = 2 := by omega
    have h2 : k = 0 ∨ k = 1 ∨ k = 2 := by omega
    rcases h1 with rfl | rfl | rfl <;> rcases h2 with rfl | rfl | rfl <;> simp [sumN, adjN, adj3, dl, detN, det3] <;> grind
theorem adj_left {n : Nat} (hn : 1 ≤ n ∧ n ≤ 3) (m : Nat → Nat → Int) : ∀ i < n, ∀ k < n, (sumN n fun j => adjN n m i j * m j k) = dl i k * detN n m := by
  have : n = 1 ∨ n = 2 ∨ n = 3 := by omega
  intro i hi k hk
  rcases this with rfl | rfl | rfl
  · obtain rfl : i = 0 := by omega
    obtain rfl : k = 0 := by omega
    simp [sumN, adjN, dl, detN]
  · have h1 : i = 0 ∨ i = 1 := by omega
    have h2 : k = 0 ∨ k = 1 := by omega
    rcases h1 with rfl | rfl <;> rcases h2 with rfl | rfl <;> simp [sumN, adjN, adj2, dl, detN, det2] <;> grind
  · have h1 : i = 0 ∨ i = 1 ∨ i = 2 := by omega
    have h2 : k = 0 ∨ k = 1 ∨ k = 2 := by omega
    rcases h1 with rfl | rfl | rfl <;> rcases h2 with rfl | rfl | rfl <;> simp [sumN, adjN, adj3, dl, detN, det3] <;> grind
theorem det_mul {n : Nat} (hn : 1 ≤ n ∧ n ≤ 3) (c m : Nat → Nat → Int) : detN n (fun i k => sumN n fun j => c i j * m j k) = detN n c * detN n m := by
  have : n = 1 ∨ n = 2 ∨ n = 3 := by omega
  rcases this with rfl | rfl | rfl
  · simp [sumN, detN]
  · simp [sumN, detN, det2]; grind
  · simp [sumN, detN, det3]; grind
theorem det_one {n : Nat} (hn : 1 ≤ n ∧ n ≤ 3) : detN n dl = 1 := by
  have : n = 1 ∨ n = 2 ∨ n = 3 := by omega
  rcases this with rfl | rfl | rfl <;> rfl

theorem cg_mul {p a b c d : Int} (h1 : p ∣ a - b) (h2 : p ∣ c - d) : p ∣ a * c - b * d := by
  have e1 : p ∣ c * a - c * b := dvd_mul_sub h1 c
  have e2 : p ∣ b * c - b * d := dvd_mul_sub h2 b
  have := Int.dvd_add e1 e2
  rwa [Int.mul_comm c a, Int.mul_comm c b, show a * c - b * c + (b * c - b * d) = a * c - b * d by omega] at this
theorem cg_sub {p a b c d : Int} (h1 : p ∣ a - b) (h2 : p ∣ c - d) : p ∣ (a - c) - (b - d) := by
  have := Int.dvd_sub h1 h2
  rwa [show a - b - (c - d) = a - c - (b - d) by omega] at this
theorem cg_add {p a b c d : Int} (h1 : p ∣ a - b) (h2 : p ∣ c - d) : p ∣ (a + c) - (b + d) := by
  have := Int.dvd_add h1 h2
  rwa [show a - b + (c - d) = a + c - (b + d) by omega] at this
theorem det_cg {p : Int} {n : Nat} (hn : 1 ≤ n ∧ n ≤ 3) {m k : Nat → Nat → Int} (h : ∀ i < n, ∀ j < n, p ∣ m i j - k i j) : p ∣ detN n m - detN n k := by
  have : n = 1 ∨ n = 2 ∨ n = 3 := by omega
  rcases this with rfl | rfl | rfl
  · exact h 0 (by omega) 0 (by omega)
  · exact cg_sub (cg_mul (h 0 (by omega) 0 (by omega)) (h 1 (by omega) 1 (by omega))) (cg_mul (h 0 (by omega) 1 (by omega)) (h 1 (by omega) 0 (by omega)))
  · have f := fun (i j : Nat) (hi : i < 3) (hj : j < 3) => h i hi j hj
    exact cg_add (cg_sub (cg_mul (f 0 0 (by omega) (by omega)) (cg_sub (cg_mul (f 1 1 (by omega) (by omega)) (f 2 2 (by omega) (by omega))) (cg_mul (f 1 2 (by omega) (by omega)) (f 2 1 (by omega) (by omega)))))
      (cg_mul (f 0 1 (by omega) (by omega)) (cg_sub (cg_mul (f 1 0 (by omega) (by omega)) (f 2 2 (by omega) (by omega))) (cg_mul (f 1 2 (by omega) (by omega)) (f 2 0 (by omega) (by omega))))))
      (cg_mul (f 0 2 (by omega) (by omega)) (cg_sub (cg_mul (f 1 0 (by omega) (by omega)) (f 2 1 (by omega) (by omega))) (cg_mul (f 1 1 (by omega) (by omega)) (f 2 0 (by omega) (by omega)))))

/-! ### rows -/
def rowG (n : Nat) (f h : Nat → Int) : List Int := (List.range n).map f ++ (List.range n).map h
theorem gt_map {n : Nat} (f : Nat → Int) {k : Nat} (hk : k < n) : gt ((List.range n).map f) k = f k := by simp [gt, hk]
theorem rowG_low {n : Nat} (f h : Nat → Int) {k : Nat} (hk : k < n) : gt (rowG n f h) k = f k := by
  rw [rowG, gt_append, if_pos (by simpa using hk), gt_map f hk]
theorem rowG_high {n : Nat} (f h : Nat → Int) {k : Nat} (hk : k < n) : gt (rowG n f h) (n + k) = h k := by
  rw [rowG, gt_append, if_neg (by simp)]
  simp only [List.length_map, List.length_range, Nat.add_sub_cancel_left]
  exact gt_map h hk
theorem rowG_row {p : Int} {n : Nat} {f h : Nat → Int} (h1 : ∀ k < n, 0 ≤ f k ∧ f k < p) (h2 : ∀ k < n, 0 ≤ h k ∧ h k < p) : RowOk p (n + n) (rowG n f h) := ⟨by simp [rowG], fun x hx => by
  rcases List.mem_append.1 hx with hx | hx
  · obtain ⟨k, hk, rfl⟩ := List.mem_map.1 hx; exact h1 k (List.mem_range.1 hk)
  · obtain ⟨k, hk, rfl⟩ := List.mem_map.1 hx; exact h2 k (List.mem_range.1 hk)⟩
theorem dl_range {p : Int} (hp : 2 ≤ p) (i k : Nat) : 0 ≤ dl i k ∧ dl i k < p := by unfold dl; split <;> omega
theorem rowM_eq (n : Nat) (g : Mx) (i : Nat) : rowM n g i = rowG n (g.at i) (dl i) := rfl

theorem sp_sumN {p : Int} {w n : Nat} {S : List Int → Prop} {c : Nat → Int} {R : Nat → List Int} (h : ∀ j < n, S (R j)) : Sp p w S fun k => sumN n fun j => c j * gt (R j) k := by
  induction n with
  | zero => exact .zero fun k _ => by simp [sumN]
  | succ n ih => exact .add (c n) (h n (by omega)) (ih fun j hj => h j (by omega)) fun k _ => by simp [sumN]
theorem sp_coef {p : Int} {w n : Nat} {R : Nat → List Int} {f : Nat → Int} (h : Sp p w (· ∈ (List.range n).map R) f) : ∃ c : Nat → Int, ∀ k < w, p ∣ f k - sumN n fun j => c j * gt (R j) k := by
  induction h with
  | @zero f h =>
    refine ⟨fun _ => 0, fun k hk => ?_⟩
    have e : (sumN n fun j => 0 * gt (R j) k) = 0 := by rw [sumN_mul]; simp
    rw [e]; exact h k hk
  | @add r f g c hr _ he ih =>
    obtain ⟨d, hd⟩ := ih
    obtain ⟨j0, hj, rfl⟩ := List.mem_map.1 hr
    rw [List.mem_range] at hj
    refine ⟨fun j => d j + c * dl j0 j, fun k hk => ?_⟩
    have e : (sumN n fun j => (d j + c * dl j0 j) * gt (R j) k) = (sumN n fun j => d j * gt (R j) k) + c * gt (R j0) k := by
      have e1 : (sumN n fun j => (d j + c * dl j0 j) * gt (R j) k) = sumN n fun j => d j * gt (R j) k + c * (dl j0 j * gt (R j) k) := sumN_ext fun j _ => by rw [Int.add_mul, Int.mul_assoc]
      rw [e1, sumN_add, sumN_mul, sumN_one (f := fun j => dl j0 j * gt (R j) k) hj fun j _ hne => by simp [dl, hne]]
      simp [dl]
    rw [e]
    have := Int.dvd_add (he k hk) (hd k hk)
    simp only at this
    rwa [show ∀ x y z w : Int, x - (y + z) + (y - w) = x - (w + z) from fun x y z w => by omega] at this

def invL (p : Int) (n : Nat) (m : Nat → Nat → Int) (v : Int) (i j : Nat) : Int := adjN n m i j * v % p
def rowsB (p : Int) (n : Nat) (m : Nat → Nat → Int) (v : Int) : List (List Int) := (List.range n).map fun i => rowG n (dl i) (invL p n m v i)

theorem rowB_lead {n : Nat} {h : Nat → Int} {i : Nat} (hi : i < n) : leadN (rowG n (dl i) h) = i :=
  leadN_of (fun j hj => by rw [rowG_low _ _ (by omega), dl, if_neg (by omega)]) (by rw [rowG_low _ _ hi, dl, if_pos rfl]; omega)
theorem range_pair {n : Nat} {α : Type} {f : Nat → α} {R : α → α → Prop} (h : ∀ i j, i < j → j < n → R (f i) (f j)) : ((List.range n).map f).Pairwise R := by
  rw [List.pairwise_map]
  refine (List.pairwise_lt_range).imp_of_mem ?_
  intro a b _ hb hab
  exact h a b hab (List.mem_range.1 hb)
theorem rowsB_red {p : Int} (hp : 2 ≤ p) (n : Nat) (m : Nat → Nat → Int) (v : Int) : Red p (n + n) (rowsB p n m v) ∧ Srt (rowsB p n m v) := by
  refine ⟨⟨fun r hr => ?_, range_pair fun i j hij hj => ?_⟩, range_pair fun i j hij hj => ?_⟩
  · obtain ⟨i, hi, rfl⟩ := List.mem_map.1 hr
    rw [List.mem_range] at hi
    refine ⟨rowG_row (fun k _ => dl_range hp i k) fun k _ => ⟨Int.emod_nonneg _ (by omega), Int.emod_lt_of_pos _ (by omega)⟩, ?_⟩
    rw [rowB_lead hi, rowG_low _ _ hi, dl, if_pos rfl]
  · rw [rowB_lead (by omega), rowB_lead hj, rowG_low _ _ (by omega), rowG_low _ _ hj, dl, if_neg (by omega), dl, if_neg (by omega)]
    exact ⟨rfl, rfl⟩
  · rw [rowB_lead (by omega), rowB_lead hj]; exact hij

theorem inv_of_det {p : Int} (hp : Pr p) {n : Nat} (hn : 1 ≤ n ∧ n ≤ 3) {g : Mx} (hg : InM p n g) (hd : detM p n g ≠ 0) : ∃ v, echL p (rowsM n g) = rowsB p n g.at v ∧
    (∀ i < n, ∀ k < n, p ∣ (sumN n fun j => invL p n g.at v i j * g.at j k) - dl i k) := by
  have hpp := prPos hp
  have hr := Int.emod_nonneg (detN n g.at) (show p ≠ 0 by omega)
  have hr2 := Int.emod_lt_of_pos (detN n g.at) (show 0 < p by omega)
  have hv := inv_ok hp (n := detM p n g) (by unfold detM at hd ⊢; omega) hr2
  generalize invN (detM p n g) p = v at hv
  refine ⟨v, ?_⟩
  have h0 : p ∣ detN n g.at * v - 1 := by
    have e1 : p ∣ v * detM p n g - v * detN n g.at := dvd_mul_sub (emod_dvd p _) v
    have e2 : p ∣ detM p n g * v - 1 := by
      have := emod_dvd p (detM p n g * v)
      rw [hv.1] at this
      have := Int.dvd_neg.2 this
      rwa [Int.neg_sub] at this
    have := Int.dvd_sub e2 e1
    rw [Int.mul_comm v, Int.mul_comm v] at this
    rwa [show ∀ a b : Int, a - 1 - (a - b) = b - 1 from fun a b => by omega] at this
  have hdl : ∀ i k, p ∣ v * (dl i k * detN n g.at) - dl i k := fun i k => by
    have := Int.dvd_mul_of_dvd_right (b := dl i k) h0
    rwa [Int.mul_sub, Int.mul_one, ← Int.mul_assoc, Int.mul_comm _ v] at this
  have hL : ∀ i < n, ∀ k < n, p ∣ (sumN n fun j => invL p n g.at v i j * g.at j k) - dl i k := fun i hi k hk => by
    have h1 : p ∣ (sumN n fun j => invL p n g.at v i j * g.at j k) - sumN n fun j => v * (adjN n g.at i j * g.at j k) := sumN_dvd fun j _ => by
      have e : v * (adjN n g.at i j * g.at j k) = g.at j k * (adjN n g.at i j * v) := by grind
      rw [e, Int.mul_comm _ (g.at j k)]
      exact dvd_mul_sub (emod_dvd p _) _
    rw [sumN_mul, adj_left hn g.at i hi k hk] at h1
    have := Int.dvd_add h1 (hdl i k)
    rwa [show ∀ a b c : Int, a - b + (b - c) = a - c from fun a b c => by omega] at this
  refine ⟨?_, hL⟩
  · refine Eq.trans ?_ (ech_id hp (rowsB_red hpp.1 n g.at v).1 (rowsB_red hpp.1 n g.at v).2)
    have hR : ∀ i < n, ∀ k < n, p ∣ (sumN n fun j => g.at i j * invL p n g.at v j k) - dl i k := fun i hi k hk => by
      have h1 : p ∣ (sumN n fun j => g.at i j * invL p n g.at v j k) - sumN n fun j => v * (g.at i j * adjN n g.at j k) := sumN_dvd fun j _ => by
        have e : v * (g.at i j * adjN n g.at j k) = g.at i j * (adjN n g.at j k * v) := by grind
        rw [e]
        exact dvd_mul_sub (emod_dvd p _) _
      rw [sumN_mul, adj_right hn g.at i hi k hk] at h1
      have := Int.dvd_add h1 (hdl i k)
      rwa [show ∀ a b c : Int, a - b + (b - c) = a - c from fun a b c => by omega] at this
    have hsplit : ∀ k, k < n + n → k < n ∨ ∃ l, l < n ∧ k = n + l := fun k hk => by
      by_cases h : k < n
      · exact .inl h
      · exact .inr ⟨k - n, by omega, by omega⟩
    refine ech_unique (n := n + n) hp ?_ (fun r hr => ((rowsB_red hpp.1 n g.at v).1.1 r hr).1) ?_ ?_
    · intro r hr
      obtain ⟨i, hi, rfl⟩ := List.mem_map.1 hr
      rw [List.mem_range] at hi
      exact rowG_row (fun k hk => ⟨(g.at_range i k).1, (hg i (by omega) k (by omega)).1⟩) fun k _ => dl_range hpp.1 i k
    · intro r hr
      obtain ⟨i, hi, rfl⟩ := List.mem_map.1 hr
      rw [List.mem_range] at hi
      refine (sp_sumN (n := n) (c := g.at i) (R := fun j => rowG n (dl j) (invL p n g.at v j)) fun j hj => List.mem_map.2 ⟨j, List.mem_range.2 hj, rfl⟩).al fun k hk => ?_
      rcases hsplit k hk with hk | ⟨l, hl, rfl⟩ <;> simp only
      · rw [rowM_eq, rowG_low _ _ hk, sumN_ext fun j _ => by rw [rowG_low _ _ hk], sumN_one hk fun j _ hne => by simp [dl, Ne.symm hne]]
        simp [dl]
      · rw [rowM_eq, rowG_high _ _ hl, sumN_ext fun j _ => by rw [rowG_high _ _ hl]]
        have := Int.dvd_neg.2 (hR i hi l hl)
        rwa [Int.neg_sub] at this
    · intro r hr
      obtain ⟨i, hi, rfl⟩ := List.mem_map.1 hr
      rw [List.mem_range] at hi
      refine (sp_sumN (n := n) (c := invL p n g.at v i) (R := rowM n g) fun j hj => List.mem_map.2 ⟨j, List.mem_range.2 hj, rfl⟩).al fun k hk => ?_
      rcases hsplit k hk with hk | ⟨l, hl, rfl⟩ <;> simp only
      · rw [rowG_low _ _ hk, sumN_ext fun j _ => by rw [rowM_eq, rowG_low _ _ hk]]
        have := Int.dvd_neg.2 (hL i hi k hk)
        rwa [Int.neg_sub] at this
      · rw [rowG_high _ _ hl, sumN_ext fun j _ => by rw [rowM_eq, rowG_high _ _ hl], sumN_one hl fun j _ hne => by simp [dl, Ne.symm hne]]
        simp [dl]

theorem inv_true {p : Int} (hp : Pr p) {n : Nat} (hn : 1 ≤ n ∧ n ≤ 3) {g : Mx} (hg : InM p n g) (hd : detM p n g ≠ 0) : invM p n g = true := by
  have hpp := prPos hp
  obtain ⟨v, hv, -⟩ := inv_of_det hp hn hg hd
  unfold invM
  rw [hv]
  simp only [rowsB, List.length_map, List.length_range, beq_self_eq_true, Bool.true_and, List.all_eq_true, List.mem_range, beq_iff_eq]
  intro i hi
  rw [List.getD_eq_getElem?_getD, List.getElem?_map, List.getElem?_range hi]
  exact rowB_lead hi
theorem det_of_inv {p : Int} (hp : Pr p) {n : Nat} (hn : 1 ≤ n ∧ n ≤ 3) {g : Mx} (hg : InM p n g) (h : invM p n g = true) : detM p n g ≠ 0 := by
  have hpp := prPos hp
  have hrow : ∀ r ∈ rowsM n g, RowOk p (n + n) r := fun r hr => by
    obtain ⟨i, hi, rfl⟩ := List.mem_map.1 hr
    rw [List.mem_range] at hi
    exact rowG_row (fun k hk => ⟨(g.at_range i k).1, (hg i (by omega) k (by omega)).1⟩) fun k _ => dl_range hpp.1 i k
  have hsp := (ech_sp (n := n + n) hp hrow).2
  have hB := both_ok (n := n + n) hp (rowsM n g) (both_nil p (n + n)) hrow
  have hred : Red p (n + n) (echL p (rowsM n g)) := hB.1.perm hB.2.1.symm
  simp only [invM, Bool.and_eq_true, beq_iff_eq, List.all_eq_true, List.mem_range] at h
  obtain ⟨hl, hlead⟩ := h
  generalize echL p (rowsM n g) = E at hsp hred hl hlead
  have hmem : ∀ i < n, E.getD i [] ∈ E := fun i hi => by
    rw [List.getD_eq_getElem?_getD, List.getElem?_eq_getElem (by omega)]
    exact List.getElem_mem _
  have hc : ∀ i : Nat, ∃ c : Nat → Int, i < n → ∀ k < n + n, p ∣ gt (E.getD i []) k - sumN n fun j => c j * gt (rowM n g j) k := fun i => by
    by_cases hi : i < n
    · obtain ⟨c, hc⟩ := sp_coef (hsp _ (hmem i hi))
      exact ⟨c, fun _ => hc⟩
    · exact ⟨fun _ => 0, fun h => absurd h hi⟩
  obtain ⟨c, hc⟩ := Classical.axiomOfChoice hc
  have hE : ∀ i < n, ∀ k < n, gt (E.getD i []) k = dl i k := fun i hi k hk => by
    by_cases hik : k = i
    · subst hik
      have h1 := (hred.1 _ (hmem k hk)).2
      rw [hlead k hk] at h1
      rw [h1]; simp [dl]
    · have hne : E.getD i [] ≠ E.getD k [] := fun e => by
        have := hlead i hi
        rw [e, hlead k hk] at this
        exact hik this
      have h1 := red_pair hred (hmem i hi) (hmem k hk) hne
      rw [hlead k hk] at h1
      rw [h1]; simp [dl, hik]
  have h1 : p ∣ detN n (fun i k => sumN n fun j => c i j * g.at j k) - detN n dl := det_cg hn fun i hi k hk => by
    have := hc i hi k (by omega)
    rw [hE i hi k hk, sumN_ext fun j _ => by rw [rowM_eq, rowG_low _ _ hk]] at this
    have := Int.dvd_neg.2 this
    rwa [Int.neg_sub] at this
  rw [det_mul hn, det_one hn] at h1
  intro h0
  have h2 : p ∣ detN n g.at := Int.dvd_of_emod_eq_zero h0
  have h3 := Int.dvd_sub (Int.dvd_mul_of_dvd_right (b := detN n c) h2) h1
  rw [show ∀ a : Int, a - (a - 1) = 1 from fun a => by omega] at h3
  have := Int.le_of_dvd (by omega) h3
  omega
/-- A matrix, as the program and the reference say it. -/
def IsM (p : Int) (n : Nat) (g : Mx) : Prop := InM p n g ∧ detM p n g ≠ 0
theorem inv_iff {p : Int} (hp : Pr p) {n : Nat} (hn : 1 ≤ n ∧ n ≤ 3) {g : Mx} (hg : InM p n g) : invM p n g = true ↔ detM p n g ≠ 0 := ⟨det_of_inv hp hn hg, inv_true hp hn hg⟩
/-- An inverse from the left. -/
theorem left_inv {p : Int} (hp : Pr p) {n : Nat} (hn : 1 ≤ n ∧ n ≤ 3) {g : Mx} (hg : IsM p n g) : ∃ h, timesM p n h g = unitM n := by
  have hpp := prPos hp
  obtain ⟨v, -, hv⟩ := inv_of_det hp hn hg.1 hg.2
  refine ⟨mkM fun i j => invL p n g.at v i j, Mx.ext3 fun i hi k hk => ?_⟩
  have hat : ∀ i < 3, ∀ j < 3, (mkM fun i j => invL p n g.at v i j).at i j = invL p n g.at v i j := at_mk fun i _ j _ => by
    have h1 := Int.emod_nonneg (adjN n g.at i j * v) (show p ≠ 0 by omega)
    have h2 := Int.emod_lt_of_pos (adjN n g.at i j * v) (show 0 < p by omega)
    unfold invL
    omega
  rw [times_at (by omega) (by omega) hn.2 _ _ i hi k hk, unit_at n i hi k hk]
  by_cases h : i < n ∧ k < n
  · rw [if_pos h, sumN_ext fun j hj => by rw [hat i hi j (by omega)]]
    have := emod_eq_of (hv i h.1 k h.2)
    rw [this]
    unfold dl
    by_cases hki : k = i
    · rw [if_pos hki, if_pos ⟨h.1, hki⟩]; exact Int.emod_eq_of_lt (by omega) (by omega)
    · rw [if_neg hki, if_neg fun e => hki e.2]; simp
  · rw [if_neg h, if_neg fun e => h ⟨e.1, by omega⟩]
end Go.Sm

namespace Go.Sm
open Go.RowKit

/-! ### the order of lists -/
def cmpV : List Int → List Int → Int
  | [], [] => 0
  | [], _ :: _ => -1
  | _ :: _, [] => 1
  | x :: xs, y :: ys => if x < y then -1 else if y < x then 1 else cmpV xs ys
theorem cmpV_self : ∀ xs : List Int, cmpV xs xs = 0
  | [] => rfl
  | x :: xs => by simp [cmpV, cmpV_self xs]
theorem cmpV_range : ∀ xs ys : List Int, cmpV xs ys = -1 ∨ cmpV xs ys = 0 ∨ cmpV xs ys = 1
  | [], [] => by simp [cmpV]
  | [], _ :: _ => by simp [cmpV]
  | _ :: _, [] => by simp [cmpV]
  | x :: xs, y :: ys => by
    unfold cmpV
    split
    · simp
    · split
      · simp
      · exact cmpV_range xs ys
theorem cmpV_eq : ∀ {xs ys : List Int}, cmpV xs ys = 0 ↔ xs = ys
  | [], [] => by simp [cmpV]
  | [], _ :: _ => by simp [cmpV]
  | _ :: _, [] => by simp [cmpV]
  | x :: xs, y :: ys => by
    unfold cmpV
    split
    · constructor
      · intro h; omega
      · intro h; injection h; omega
    · split
      · constructor
        · intro h; omega
        · intro h; injection h; omega
      · rw [cmpV_eq (xs := xs) (ys := ys)]
        have : x = y := by omega
        simp [this]
theorem cmpV_flip : ∀ xs ys : List Int, cmpV ys xs = -cmpV xs ys
  | [], [] => by simp [cmpV]
  | [], _ :: _ => by simp [cmpV]
  | _ :: _, [] => by simp [cmpV]
  | x :: xs, y :: ys => by
    unfold cmpV
    by_cases h1 : x < y
    · rw [if_neg (by omega), if_pos h1, if_pos h1]; rfl
    · by_cases h2 : y < x
      · rw [if_pos h2, if_neg h1, if_pos h2]
      · rw [if_neg h2, if_neg h1, if_neg h1, if_neg h2]; exact cmpV_flip xs ys
theorem cmpV_trans : ∀ {xs ys zs : List Int}, cmpV xs ys < 0 → cmpV ys zs < 0 → cmpV xs zs < 0
  | [], [], _, h, _ => by simp [cmpV] at h
  | [], _ :: _, [], _, h => by simp [cmpV] at h
  | [], _ :: _, _ :: _, _, _ => by simp [cmpV]
  | _ :: _, [], _, h, _ => by simp [cmpV] at h
  | _ :: _, _ :: _, [], _, h => by simp [cmpV] at h
  | x :: xs, y :: ys, z :: zs, h1, h2 => by
    unfold cmpV at h1 h2 ⊢
    by_cases a1 : x < y
    · by_cases a2 : y < z
      · rw [if_pos (by omega)]; omega
      · rw [if_neg a2] at h2
        by_cases a3 : z < y
        · rw [if_pos a3] at h2; omega
        · rw [if_pos (by omega)]; omega
    · rw [if_neg a1] at h1
      by_cases a4 : y < x
      · rw [if_pos a4] at h1; omega
      · rw [if_neg a4] at h1
        by_cases a2 : y < z
        · rw [if_pos (by omega)]; omega
        · rw [if_neg a2] at h2
          by_cases a3 : z < y
          · rw [if_pos a3] at h2; omega
          · rw [if_neg a3] at h2
            rw [if_neg (by omega), if_neg (by omega)]
            exact cmpV_trans h1 h2
/-- Lists in order, each once. -/
abbrev SrtL (L : List (List Int)) : Prop := L.Pairwise fun a b => cmpV a b < 0
theorem SrtL.nodup {L : List (List Int)} (h : SrtL L) : L.Nodup := h.imp fun {a b} hab e => by
  have := cmpV_eq.2 e
  omega
theorem srtL_unique : ∀ {L M : List (List Int)}, SrtL L → SrtL M → (∀ x, x ∈ L ↔ x ∈ M) → L = M
  | [], [], _, _, _ => rfl
  | [], y :: M, _, _, h => absurd ((h y).2 (List.mem_cons_self ..)) (by simp)
  | x :: L, [], _, _, h => absurd ((h x).1 (List.mem_cons_self ..)) (by simp)
  | x :: L, y :: M, hL, hM, h => by
    have hx := List.pairwise_cons.1 hL
    have hy := List.pairwise_cons.1 hM
    have e : x = y := by
      rcases List.mem_cons.1 ((h x).1 (List.mem_cons_self ..)) with e | e
      · exact e
      · rcases List.mem_cons.1 ((h y).2 (List.mem_cons_self ..)) with f | f
        · exact f.symm
        · have h1 := hy.1 x e
          have h2 := hx.1 y f
          have := cmpV_flip x y
          omega
    subst e
    congr 1
    refine srtL_unique hx.2 hy.2 fun z => ?_
    constructor
    · intro hz
      rcases List.mem_cons.1 ((h z).1 (List.mem_cons_of_mem _ hz)) with e | e
      · subst e; have := hx.1 z hz; rw [cmpV_self] at this; omega
      · exact e
    · intro hz
      rcases List.mem_cons.1 ((h z).2 (List.mem_cons_of_mem _ hz)) with e | e
      · subst e; have := hy.1 z hz; rw [cmpV_self] at this; omega
      · exact e

/-- A list is put into lists in order. -/
def insO (w : List Int) : List (List Int) → List (List Int)
  | [] => [w]
  | x :: L => if cmpV x w < 0 then x :: insO w L else if cmpV x w = 0 then x :: L else w :: x :: L
theorem insO_mem (w x : List Int) : ∀ L : List (List Int), x ∈ insO w L ↔ x = w ∨ x ∈ L
  | [] => by simp [insO]
  | y :: L => by
    unfold insO
    split
    · rw [List.mem_cons, insO_mem w x L, List.mem_cons]
      constructor <;> rintro (h | h | h) <;> simp [h]
    · split
      · rename_i h
        have := cmpV_eq.1 h
        subst this
        simp
      · simp
theorem insO_srt {w : List Int} : ∀ {L : List (List Int)}, SrtL L → SrtL (insO w L)
  | [], _ => by simp [insO, SrtL]
  | y :: L, h => by
    have hy := List.pairwise_cons.1 h
    unfold insO
    split
    · rename_i h1
      refine List.pairwise_cons.2 ⟨fun z hz => ?_, insO_srt hy.2⟩
      rcases (insO_mem w z L).1 hz with rfl | hz
      · exact h1
      · exact hy.1 z hz
    · split
      · exact h
      · have h3 : cmpV w y < 0 := by
          have := cmpV_flip y w
          have := cmpV_range y w
          omega
        refine List.pairwise_cons.2 ⟨fun z hz => ?_, h⟩
        rcases List.mem_cons.1 hz with rfl | hz
        · exact h3
        · exact cmpV_trans h3 (hy.1 z hz)
def ordL (ws : List (List Int)) : List (List Int) := ws.foldl (fun L w => insO w L) []
theorem ordL_go (ws : List (List Int)) : ∀ {L : List (List Int)}, SrtL L → SrtL (ws.foldl (fun L w => insO w L) L) ∧ ∀ x, x ∈ ws.foldl (fun L w => insO w L) L ↔ x ∈ ws ∨ x ∈ L := by
  induction ws with
  | nil => intro L h; exact ⟨h, fun x => by simp⟩
  | cons w ws ih =>
    intro L h
    have := ih (insO_srt (w := w) h)
    refine ⟨this.1, fun x => ?_⟩
    rw [List.foldl_cons, this.2 x, insO_mem, List.mem_cons]
    constructor
    · rintro (h | h | h) <;> simp [h]
    · rintro ((h | h) | h) <;> simp [h]
theorem ordL_ok (ws : List (List Int)) : SrtL (ordL ws) ∧ ∀ x, x ∈ ordL ws ↔ x ∈ ws := by
  have := ordL_go ws (L := []) List.Pairwise.nil
  exact ⟨this.1, fun x => by rw [ordL, this.2 x]; simp⟩
/-- Lists without those that stand beside an equal one. -/
def comp : List (List Int) → List (List Int)
  | [] => []
  | x :: L => match comp L with
    | [] => [x]
    | y :: M => if x = y then y :: M else x :: y :: M
theorem comp_mem (z : List Int) : ∀ L : List (List Int), z ∈ comp L ↔ z ∈ L
  | [] => by simp [comp]
  | x :: L => by
    have ih := comp_mem z L
    unfold comp
    split
    · rename_i h
      rw [h] at ih
      simp at ih
      simp [ih]
    · rename_i y M h
      rw [h] at ih
      split
      · rename_i e
        subst e
        rw [ih, List.mem_cons]
        constructor
        · exact .inr
        · rintro (rfl | h2)
          · exact ih.1 (List.mem_cons_self ..)
          · exact h2
      · rw [List.mem_cons, ih, List.mem_cons]
theorem comp_srt : ∀ {L : List (List Int)}, L.Pairwise (fun a b => cmpV a b ≤ 0) → SrtL (comp L)
  | [], _ => List.Pairwise.nil
  | x :: L, h => by
    have hx := List.pairwise_cons.1 h
    have ih := comp_srt hx.2
    have hm := fun z => comp_mem z L
    unfold comp
    split
    · simp [SrtL]
    · rename_i y M e
      rw [e] at ih hm
      split
      · exact ih
      · rename_i hne
        have hxy : cmpV x y < 0 := by
          have h1 := hx.1 y ((hm y).1 (List.mem_cons_self ..))
          have h2 : cmpV x y ≠ 0 := fun e => hne (cmpV_eq.1 e)
          omega
        refine List.pairwise_cons.2 ⟨fun z hz => ?_, ih⟩
        rcases List.mem_cons.1 hz with rfl | hz
        · exact hxy
        · exact cmpV_trans hxy ((List.pairwise_cons.1 ih).1 z hz)
theorem comp_ord {ws L : List (List Int)} (hp : L.Perm ws) (hs : L.Pairwise fun a b => cmpV a b ≤ 0) : comp L = ordL ws :=
  srtL_unique (comp_srt hs) (ordL_ok ws).1 fun x => by rw [comp_mem, (ordL_ok ws).2, hp.mem_iff]

/-! ### groups -/
def entsM (m : Mx) : List Int := [m.at 0 0, m.at 0 1, m.at 0 2, m.at 1 0, m.at 1 1, m.at 1 2, m.at 2 0, m.at 2 1, m.at 2 2]
def cmpM (g h : Mx) : Int := cmpV (entsM g) (entsM h)
instance (p : Int) (n : Nat) (g : Mx) : Decidable (InM p n g) := by unfold InM; infer_instance
instance (p : Int) (n : Nat) (g : Mx) : Decidable (IsM p n g) := by unfold IsM; infer_instance
/-- A group: elements in order, closed, with the unit. -/
def IsG (p d : Int) (G : List Mx) : Prop := (Pr p ∧ 1 ≤ d ∧ d ≤ 3) ∧ (1 ≤ G.length ∧ G.length ≤ 48) ∧ (∀ g ∈ G, IsM p d.toNat g) ∧
  (∀ i, i < G.length → ∀ a b : Mx, 1 ≤ i → G[i - 1]? = some a → G[i]? = some b → cmpM a b < 0) ∧ (∀ a ∈ G, ∀ b ∈ G, timesM p d.toNat a b ∈ G) ∧ unitM d.toNat ∈ G
theorem nodup_len {α : Type} [DecidableEq α] : ∀ {m l : List α}, m.Nodup → (∀ x ∈ m, x ∈ l) → m.length ≤ l.length
  | [], _, _, _ => Nat.zero_le _
  | a :: m, l, hn, hs => by
    have ha := hs a (List.mem_cons_self ..)
    have h1 := nodup_len (m := m) (l := l.erase a) (List.nodup_cons.1 hn).2 fun x hx => (List.mem_erase_of_ne fun e => (List.nodup_cons.1 hn).1 (by rw [← e]; exact hx)).2 (hs x (List.mem_cons_of_mem _ hx))
    rw [List.length_erase_of_mem ha] at h1
    have : 0 < l.length := List.length_pos_of_mem ha
    simp only [List.length_cons]
    omega
theorem pigeon {α : Type} [DecidableEq α] {l : List α} (hn : l.Nodup) {f : α → α} (hi : ∀ x ∈ l, ∀ y ∈ l, f x = f y → x = y) (hm : ∀ x ∈ l, f x ∈ l) : ∀ y ∈ l, ∃ x ∈ l, f x = y := by
  intro y hy
  refine Classical.byContradiction fun hno => ?_
  have hnd : (l.map f).Nodup := by
    rw [List.Nodup, List.pairwise_map]
    exact List.Pairwise.imp_of_mem (fun {a b} ha hb hab e => hab (hi a ha b hb e)) hn
  have := nodup_len hnd (l := l.erase y) fun z hz => by
    obtain ⟨x, hx, rfl⟩ := List.mem_map.1 hz
    exact (List.mem_erase_of_ne fun e => hno ⟨x, hx, e⟩).2 (hm x hx)
  rw [List.length_map, List.length_erase_of_mem hy] at this
  have := List.length_pos_of_mem hy
  omega
theorem adj_pair {α : Type} {R : α → α → Prop} (ht : ∀ {a b c}, R a b → R b c → R a c) : ∀ {l : List α}, (∀ i, i < l.length → ∀ a b, 1 ≤ i → l[i - 1]? = some a → l[i]? = some b → R a b) → l.Pairwise R
  | [], _ => List.Pairwise.nil
  | [x], _ => by simp
  | x :: y :: l, h => by
    have hxy : R x y := h 1 (by simp) x y (by omega) rfl rfl
    have ih := adj_pair @ht (l := y :: l) fun i hi a b h1 ha hb => by
      obtain ⟨k, rfl⟩ : ∃ k, i = k + 1 := ⟨i - 1, by omega⟩
      exact h (k + 2) (by simp at hi ⊢; omega) a b (by omega) (by simpa using ha) (by simpa using hb)
    refine List.pairwise_cons.2 ⟨fun z hz => ?_, ih⟩
    rcases List.mem_cons.1 hz with rfl | hz
    · exact hxy
    · exact ht hxy ((List.pairwise_cons.1 ih).1 z hz)
theorem IsG.nodup {p d : Int} {G : List Mx} (h : IsG p d G) : G.Nodup :=
  (adj_pair (R := fun a b => cmpM a b < 0) (fun h1 h2 => cmpV_trans h1 h2) h.2.2.2.1).imp fun {a b} hab e => by
    subst e
    rw [cmpM, cmpV_self] at hab
    omega
theorem IsG.back {p d : Int} {G : List Mx} (h : IsG p d G) {b : Mx} (hb : b ∈ G) : ∃ g ∈ G, timesM p d.toNat b g = unitM d.toNat := by
  have hpp := prPos h.1.1
  have hn : 1 ≤ d.toNat ∧ d.toNat ≤ 3 := by have := h.1.2; omega
  obtain ⟨k, hk⟩ := left_inv h.1.1 hn (h.2.2.1 b hb)
  refine pigeon h.nodup (f := timesM p d.toNat b) (fun x hx y hy e => ?_) (fun x hx => h.2.2.2.2.1 b hb x hx) _ h.2.2.2.2.2
  have := congrArg (timesM p d.toNat k) e
  rw [← times_assoc (by omega) (by omega) hn.2, ← times_assoc (by omega) (by omega) hn.2, hk] at this
  rwa [unit_times (by omega) (by omega) hn.2 (h.2.2.1 x hx).1, unit_times (by omega) (by omega) hn.2 (h.2.2.1 y hy).1] at this

/-! ### orbits -/
def orbL (p d : Int) (G : List Mx) (x : List Int) : List (List Int) := ordL (G.map (leadV p d.toNat x))
theorem orb_mem {p d : Int} {G : List Mx} {x y : List Int} : y ∈ orbL p d G x ↔ ∃ g ∈ G, leadV p d.toNat x g = y := by
  rw [orbL, (ordL_ok _).2, List.mem_map]
def leastP (p d : Int) (G : List Mx) (x : List Int) : List Int := (orbL p d G x).getD 0 []
theorem least_mem {p d : Int} {G : List Mx} (h : IsG p d G) (x : List Int) : leastP p d G x ∈ orbL p d G x := by
  obtain ⟨g, hg⟩ : ∃ g, g ∈ G := ⟨_, h.2.2.2.2.2⟩
  have : leadV p d.toNat x g ∈ orbL p d G x := orb_mem.2 ⟨g, hg, rfl⟩
  have hl := List.length_pos_of_mem this
  rw [leastP, List.getD_eq_getElem?_getD, List.getElem?_eq_getElem hl]
  exact List.getElem_mem _
theorem orb_row {p d : Int} {G : List Mx} (hp : 0 < p) {x y : List Int} (h : y ∈ orbL p d G x) : RowOk p d.toNat y := by
  obtain ⟨g, -, rfl⟩ := orb_mem.1 h
  exact leadV_row hp _ _ _

/-! ### points -/
def ptI (p : Int) : Nat → Int → List Int
  | 0, _ => []
  | n + 1, v => v % p :: ptI p n (v / p)
def ptsI (p : Int) (n : Nat) : List (List Int) := (List.range (p.toNat ^ n)).map fun v : Nat => ptI p n v
def ptsS (p : Int) : Nat → List (List Int)
  | 0 => [[]]
  | n + 1 => (ptsS p n).flatMap fun x => (List.range p.toNat).map fun v : Nat => x ++ [(v : Int)]
theorem ptI_len (p : Int) : ∀ (n : Nat) (v : Int), (ptI p n v).length = n
  | 0, _ => rfl
  | n + 1, v => by simp [ptI, ptI_len p n]
theorem ptI_row {p : Int} (hp : 0 < p) (n : Nat) (v : Int) : RowOk p n (ptI p n v) := ⟨ptI_len p n v, by
  induction n generalizing v with
  | zero => intro x hx; simp [ptI] at hx
  | succ n ih =>
    intro x hx
    rcases List.mem_cons.1 hx with rfl | hx
    · exact ⟨Int.emod_nonneg _ (by omega), Int.emod_lt_of_pos _ hp⟩
    · exact ih _ x hx⟩
theorem pow_div {p : Int} (hp : 0 < p) {n : Nat} {v : Int} (h : v < p ^ (n + 1)) : v / p < p ^ n := by
  rw [Int.pow_succ] at h
  exact Int.ediv_lt_of_lt_mul hp h
theorem ptI_inj {p : Int} (hp : 0 < p) : ∀ (n : Nat) {v w : Int}, 0 ≤ v → v < p ^ n → 0 ≤ w → w < p ^ n → ptI p n v = ptI p n w → v = w
  | 0, v, w, h1, h2, h3, h4, _ => by simp at h2 h4; omega
  | n + 1, v, w, h1, h2, h3, h4, e => by
    simp only [ptI, List.cons.injEq] at e
    have := ptI_inj hp n (Int.ediv_nonneg h1 (by omega)) (pow_div hp h2) (Int.ediv_nonneg h3 (by omega)) (pow_div hp h4) e.2
    rw [← Int.mul_ediv_add_emod v p, ← Int.mul_ediv_add_emod w p, this, e.1]
theorem ptI_all {p : Int} (hp : 0 < p) : ∀ (n : Nat) {x : List Int}, RowOk p n x → ∃ v : Int, 0 ≤ v ∧ v < p ^ n ∧ ptI p n v = x
  | 0, x, h => ⟨0, by simp, by simp, (List.length_eq_zero_iff.1 h.1).symm⟩
  | n + 1, [], h => by simp [RowOk] at h
  | n + 1, a :: x, h => by
    obtain ⟨v, h0, h1, rfl⟩ := ptI_all hp n (x := x) ⟨by simpa using h.1, fun y hy => h.2 y (List.mem_cons_of_mem _ hy)⟩
    have ha := h.2 a (List.mem_cons_self ..)
    have hm : 0 ≤ p * v := Int.mul_nonneg (by omega) h0
    refine ⟨a + p * v, by omega, ?_, ?_⟩
    · have : p * v ≤ p * (p ^ n - 1) := Int.mul_le_mul_of_nonneg_left (by omega) (by omega)
      rw [Int.mul_sub, Int.mul_one] at this
      rw [Int.pow_succ, Int.mul_comm (p ^ n) p]
      omega
    · rw [ptI, Int.add_mul_emod_self_left, Int.emod_eq_of_lt ha.1 ha.2, Int.add_mul_ediv_left _ _ (by omega), Int.ediv_eq_zero_of_lt ha.1 ha.2, Int.zero_add]
theorem toNat_pow {p : Int} (hp : 0 < p) (n : Nat) : ((p.toNat ^ n : Nat) : Int) = p ^ n := by
  rw [Int.natCast_pow, Int.toNat_of_nonneg (by omega)]
theorem ptsI_mem {p : Int} (hp : 0 < p) {n : Nat} {x : List Int} : x ∈ ptsI p n ↔ RowOk p n x := by
  rw [ptsI, List.mem_map]
  constructor
  · rintro ⟨v, -, rfl⟩; exact ptI_row hp n v
  · intro h
    obtain ⟨v, h0, h1, rfl⟩ := ptI_all hp n h
    refine ⟨v.toNat, List.mem_range.2 ?_, by rw [Int.toNat_of_nonneg h0]⟩
    have := toNat_pow hp n
    omega
theorem ptsI_nodup {p : Int} (hp : 0 < p) (n : Nat) : (ptsI p n).Nodup := by
  refine range_pair fun i j hij hj e => ?_
  have h := toNat_pow hp n
  have := ptI_inj hp n (Int.natCast_nonneg i) (by omega) (Int.natCast_nonneg j) (by omega) e
  omega
theorem ptsS_mem {p : Int} (hp : 0 < p) : ∀ {n : Nat} {x : List Int}, x ∈ ptsS p n ↔ RowOk p n x
  | 0, x => by
    simp only [ptsS, List.mem_singleton]
    constructor
    · rintro rfl; exact ⟨rfl, fun _ h => (nomatch h)⟩
    · intro h; exact List.length_eq_zero_iff.1 h.1
  | n + 1, x => by
    simp only [ptsS, List.mem_flatMap, List.mem_map, List.mem_range]
    constructor
    · rintro ⟨y, hy, v, hv, rfl⟩
      have := ptsS_mem hp |>.1 hy
      refine ⟨by simp [this.1], fun z hz => ?_⟩
      rcases List.mem_append.1 hz with hz | hz
      · exact this.2 z hz
      · have := List.mem_singleton.1 hz
        omega
    · intro h
      have hne : x ≠ [] := fun e => by rw [e] at h; have := h.1; simp at this
      refine ⟨x.dropLast, ptsS_mem hp |>.2 ⟨by simp [h.1], fun z hz => h.2 z (List.dropLast_subset _ hz)⟩, (x.getLast hne).toNat, ?_, ?_⟩
      · have := h.2 _ (List.getLast_mem hne); omega
      · have := h.2 _ (List.getLast_mem hne)
        rw [Int.toNat_of_nonneg this.1]
        exact List.dropLast_concat_getLast hne
theorem ptsS_nodup (p : Int) : ∀ n : Nat, (ptsS p n).Nodup
  | 0 => by simp [ptsS]
  | n + 1 => by
    rw [ptsS, List.Nodup, List.pairwise_flatMap]
    refine ⟨fun x _ => range_pair fun i j hij _ e => ?_, (ptsS_nodup p n).imp fun {a b} hab x hx y hy e => ?_⟩
    · have := (List.append_inj_right e rfl)
      simp at this; omega
    · obtain ⟨v, -, rfl⟩ := List.mem_map.1 hx
      obtain ⟨w, -, rfl⟩ := List.mem_map.1 hy
      exact hab (List.append_inj_left' e rfl)
theorem pts_perm {p : Int} (hp : 0 < p) (n : Nat) : (ptsI p n).Perm (ptsS p n) := by
  rw [List.perm_iff_count]
  intro a
  by_cases h : RowOk p n a
  · rw [(ptsI_nodup hp n).count, (ptsS_nodup p n).count, if_pos ((ptsI_mem hp).2 h), if_pos ((ptsS_mem hp).2 h)]
  · rw [(ptsI_nodup hp n).count, (ptsS_nodup p n).count, if_neg fun e => h ((ptsI_mem hp).1 e), if_neg fun e => h ((ptsS_mem hp).1 e)]
theorem ptsS_len {p : Int} : ∀ n : Nat, (ptsS p n).length = p.toNat ^ n
  | 0 => rfl
  | n + 1 => by
    rw [ptsS, List.length_flatMap]
    simp only [List.length_map, List.length_range]
    rw [List.map_const', List.sum_replicate_nat, ptsS_len n, Nat.pow_succ]
end Go.Sm

namespace Go.Sm
open Go.RowKit

abbrev Mx.ds (m : Mx) : List D := [u8 m.a, u8 m.b, u8 m.c, u8 m.d, u8 m.e, u8 m.f, u8 m.g, u8 m.h, u8 m.i]
abbrev vMats (G : List Mx) : D := .vw true 9 (G.map Mx.ds)
abbrev oMats (G : List Mx) : D := .own 57 9 (G.map Mx.ds)
abbrev vGroup (p d : Int) (G : List Mx) : RV := .agg [i64 p, i64 d, vMats G]
abbrev oGroup (p d : Int) (G : List Mx) : RV := .agg [i64 p, i64 d, oMats G]

@[simp] theorem wmul1 (x y : UInt8) : IntKind.i64.wrap ((x.toNat : Int) * y.toNat) = x.toNat * y.toNat := by
  have := u8_lt x; have := u8_lt y
  have h0 : (0 : Int) ≤ (x.toNat : Int) * y.toNat := Int.mul_nonneg (by omega) (by omega)
  have h1 : (x.toNat : Int) * y.toNat ≤ 255 * 255 := Int.mul_le_mul (by omega) (by omega) (by omega) (by omega)
  exact wrap64 (by omega) (by omega)
theorem u8_mul (x y : UInt8) : (0 : Int) ≤ (x.toNat : Int) * y.toNat ∧ (x.toNat : Int) * y.toNat ≤ 65025 := by
  have := u8_lt x; have := u8_lt y
  have h0 : (0 : Int) ≤ (x.toNat : Int) * y.toNat := Int.mul_nonneg (by omega) (by omega)
  have h1 : (x.toNat : Int) * y.toNat ≤ 255 * 255 := Int.mul_le_mul (by omega) (by omega) (by omega) (by omega)
  omega
@[simp] theorem wmul2 (x y z w : UInt8) : IntKind.i64.wrap ((x.toNat : Int) * y.toNat + z.toNat * w.toNat) = x.toNat * y.toNat + z.toNat * w.toNat := by
  have := u8_mul x y; have := u8_mul z w
  exact wrap64 (by omega) (by omega)
@[simp] theorem wmul3 (x y z w s t : UInt8) : IntKind.i64.wrap ((x.toNat : Int) * y.toNat + z.toNat * w.toNat + s.toNat * t.toNat) = x.toNat * y.toNat + z.toNat * w.toNat + s.toNat * t.toNat := by
  have := u8_mul x y; have := u8_mul z w; have := u8_mul s t
  exact wrap64 (by omega) (by omega)
@[simp] theorem mulM (a b c d e f g h i : UInt8) : (Mx.mk a b c d e f g h i).ds = [u8 a, u8 b, u8 c, u8 d, u8 e, u8 f, u8 g, u8 h, u8 i] := rfl

end Go.Sm

namespace Go.Sm
open Go.RowKit

theorem u8w {p x : Int} (hp : 2 ≤ p ∧ p ≤ 13) (hx : 0 ≤ x) : IntKind.u8.wrap (x.tmod p) = x % p := by
  rw [Int.tmod_eq_emod_of_nonneg hx]
  have h0 := Int.emod_nonneg x (show p ≠ 0 by omega)
  have h1 := Int.emod_lt_of_pos x (show 0 < p by omega)
  show (x % p) % 2 ^ 8 = x % p
  exact Int.emod_eq_of_lt h0 (by omega)
theorem u8w1 {p : Int} (hp : 2 ≤ p ∧ p ≤ 13) (x y : UInt8) : IntKind.u8.wrap (((x.toNat : Int) * y.toNat).tmod p) = (x.toNat : Int) * y.toNat % p := u8w hp (u8_mul x y).1
theorem u8w2 {p : Int} (hp : 2 ≤ p ∧ p ≤ 13) (x y z w : UInt8) : IntKind.u8.wrap (((x.toNat : Int) * y.toNat + z.toNat * w.toNat).tmod p) = ((x.toNat : Int) * y.toNat + z.toNat * w.toNat) % p :=
  u8w hp (by have := u8_mul x y; have := u8_mul z w; omega)
theorem u8w3 {p : Int} (hp : 2 ≤ p ∧ p ≤ 13) (x y z w s t : UInt8) : IntKind.u8.wrap (((x.toNat : Int) * y.toNat + z.toNat * w.toNat + s.toNat * t.toNat).tmod p) = ((x.toNat : Int) * y.toNat + z.toNat * w.toNat + s.toNat * t.toNat) % p :=
  u8w hp (by have := u8_mul x y; have := u8_mul z w; have := u8_mul s t; omega)
theorem bytm {p : Int} (hp : 2 ≤ p ∧ p ≤ 13) (x : Int) : ((byt (x % p)).toNat : Int) = x % p := by
  have h0 := Int.emod_nonneg x (show p ≠ 0 by omega)
  have h1 := Int.emod_lt_of_pos x (show 0 < p by omega)
  exact byt_toNat h0 (by omega)
@[simp] theorem byt_0 : (byt 0).toNat = 0 := rfl
@[simp] theorem byt_1 : (byt 1).toNat = 1 := rfl

set_option maxRecDepth 20000 in
set_option maxHeartbeats 4000000 in
theorem times_ok1 (p : Int) (g h : Mx) (hp : 2 ≤ p ∧ p ≤ 13) : CallOK Go.Proofs.Try.prog 47 [.one (i64 p), .one (i64 1), .agg g.ds, .agg h.ds] (.agg (timesM p 1 g h).ds) := by
  have hF := fnOk 54 [.cell 8 57]
  refine callOK hF 60 Go.Proofs.Try.func47 rfl rfl rfl (by decide) (by simp) rfl ?_
  intro w0 hw
  have S := @vc_sound w0 _ hF ⟨(.agg (timesM p 1 g h).ds), []⟩ Go.Proofs.Try.f47 rfl (by simp)
  have hp0 : p ≠ 0 := by omega
  have hp1 : 0 < p := by omega
  simp
  refine J.rounds 4 (LpW.step (S 60 _ _ ?_))
  simp
  refine J.rounds 4 (LpW.step (S 60 _ _ ?_))
  simp
  refine J.rounds 4 (LpW.step (S 60 _ _ ?_))
  simp
  refine J.dr hF mixed 14 [[], [], [], [1], [1, 2, 3], [1, 2, 3, 4], [1, 2, 3, 4, 5], [], [], [7], [7, 8, 9], [7, 8, 9, 10], [7, 8, 9, 10, 11], [1, 2, 3, 4, 5, 6, 7, 8, 9, 10, 11, 12], [0, 1, 2, 3, 4, 5, 6, 7, 8, 9, 10, 11, 12, 13], [0, 1, 2, 3, 4, 5, 6, 7, 8, 9, 10, 11, 12, 13, 14]] [[27, 28, 29, 30, 31, 32, 33, 34, 35, 36, 37, 38, 39, 40], [27, 28, 29, 30, 31, 32, 33, 34, 35, 36, 37, 38, 39, 40], [27, 28, 29, 30, 31, 32, 33, 34, 35, 36, 37, 38, 39, 40], [27, 29, 30, 31, 32, 33, 34, 35, 36, 37, 38, 39, 40], [27, 31, 32, 33, 34, 35, 36, 37, 38, 39, 40], [27, 32, 33, 34, 35, 36, 37, 38, 39, 40], [27, 33, 34, 35, 36, 37, 38, 39, 40], [27, 28, 29, 30, 31, 32, 33, 34, 35, 36, 37, 38, 39, 40], [27, 28, 29, 30, 31, 32, 33, 34, 35, 36, 37, 38, 39, 40], [27, 28, 29, 30, 31, 32, 33, 35, 36, 37, 38, 39, 40], [27, 28, 29, 30, 31, 32, 33, 37, 38, 39, 40], [27, 28, 29, 30, 31, 32, 33, 38, 39, 40], [27, 28, 29, 30, 31, 32, 33, 39, 40], [27, 40]] (by decide) ?_
  simp
  refine S 60 _ _ ?_
  simp
  refine LpW.inv (LpW.step (S 60 _ _ ?_))
  simp
  refine J.dr hF mixed 7 [[], [], [], [], [2, 3], [2, 3, 4], [0], [0, 1, 2, 3, 4, 5, 6], [0, 1, 2, 3, 4, 5, 6, 7]] [[43, 44, 45, 46, 47, 48, 49], [43, 44, 45, 46, 47, 48, 49], [43, 44, 45, 46, 47, 48, 49], [43, 44, 45, 46, 47, 48, 49], [43, 44, 47, 48, 49], [43, 44, 48, 49], [44, 45, 46, 47, 48, 49]] (by decide) ?_
  simp [hp0]
  refine S 60 _ _ ?_
  simp
  refine LpW.inv (LpW.step (S 60 _ _ ?_))
  simp
  refine LpW.inv (LpW.step (S 60 _ _ ?_))
  simp
  simp [timesM, mkM, sumN, Mx.at, bytm hp, u8w1 hp]

set_option maxRecDepth 20000 in
set_option maxHeartbeats 4000000 in
theorem times_ok2 (p : Int) (g h : Mx) (hp : 2 ≤ p ∧ p ≤ 13) : CallOK Go.Proofs.Try.prog 47 [.one (i64 p), .one (i64 2), .agg g.ds, .agg h.ds] (.agg (timesM p 2 g h).ds) := by
  have hF := fnOk 54 [.cell 8 57]
  refine callOK hF 60 Go.Proofs.Try.func47 rfl rfl rfl (by decide) (by simp) rfl ?_
  intro w0 hw
  have S := @vc_sound w0 _ hF ⟨(.agg (timesM p 2 g h).ds), []⟩ Go.Proofs.Try.f47 rfl (by simp)
  have hp0 : p ≠ 0 := by omega
  have hp1 : 0 < p := by omega
  simp
  refine J.rounds 4 (LpW.step (S 60 _ _ ?_))
  simp
  refine J.rounds 4 (LpW.step (S 60 _ _ ?_))
  simp
  refine J.rounds 4 (LpW.step (S 60 _ _ ?_))
  simp
  refine J.dr hF mixed 14 [[], [], [], [1], [1, 2, 3], [1, 2, 3, 4], [1, 2, 3, 4, 5], [], [], [7], [7, 8, 9], [7, 8, 9, 10], [7, 8, 9, 10, 11], [1, 2, 3, 4, 5, 6, 7, 8, 9, 10, 11, 12], [0, 1, 2, 3, 4, 5, 6, 7, 8, 9, 10, 11, 12, 13], [0, 1, 2, 3, 4, 5, 6, 7, 8, 9, 10, 11, 12, 13, 14]] [[27, 28, 29, 30, 31, 32, 33, 34, 35, 36, 37, 38, 39, 40], [27, 28, 29, 30, 31, 32, 33, 34, 35, 36, 37, 38, 39, 40], [27, 28, 29, 30, 31, 32, 33, 34, 35, 36, 37, 38, 39, 40], [27, 29, 30, 31, 32, 33, 34, 35, 36, 37, 38, 39, 40], [27, 31, 32, 33, 34, 35, 36, 37, 38, 39, 40], [27, 32, 33, 34, 35, 36, 37, 38, 39, 40], [27, 33, 34, 35, 36, 37, 38, 39, 40], [27, 28, 29, 30, 31, 32, 33, 34, 35, 36, 37, 38, 39, 40], [27, 28, 29, 30, 31, 32, 33, 34, 35, 36, 37, 38, 39, 40], [27, 28, 29, 30, 31, 32, 33, 35, 36, 37, 38, 39, 40], [27, 28, 29, 30, 31, 32, 33, 37, 38, 39, 40], [27, 28, 29, 30, 31, 32, 33, 38, 39, 40], [27, 28, 29, 30, 31, 32, 33, 39, 40], [27, 40]] (by decide) ?_
  simp
  refine S 60 _ _ ?_
  simp
  refine LpW.inv (LpW.step (S 60 _ _ ?_))
  simp
  refine J.dr hF mixed 14 [[], [], [], [1], [1, 2, 3], [1, 2, 3, 4], [1, 2, 3, 4, 5], [], [], [7], [7, 8, 9], [7, 8, 9, 10], [7, 8, 9, 10, 11], [1, 2, 3, 4, 5, 6, 7, 8, 9, 10, 11, 12], [0, 1, 2, 3, 4, 5, 6, 7, 8, 9, 10, 11, 12, 13], [0, 1, 2, 3, 4, 5, 6, 7, 8, 9, 10, 11, 12, 13, 14]] [[27, 28, 29, 30, 31, 32, 33, 34, 35, 36, 37, 38, 39, 40], [27, 28, 29, 30, 31, 32, 33, 34, 35, 36, 37, 38, 39, 40], [27, 28, 29, 30, 31, 32, 33, 34, 35, 36, 37, 38, 39, 40], [27, 29, 30, 31, 32, 33, 34, 35, 36, 37, 38, 39, 40], [27, 31, 32, 33, 34, 35, 36, 37, 38, 39, 40], [27, 32, 33, 34, 35, 36, 37, 38, 39, 40], [27, 33, 34, 35, 36, 37, 38, 39, 40], [27, 28, 29, 30, 31, 32, 33, 34, 35, 36, 37, 38, 39, 40], [27, 28, 29, 30, 31, 32, 33, 34, 35, 36, 37, 38, 39, 40], [27, 28, 29, 30, 31, 32, 33, 35, 36, 37, 38, 39, 40], [27, 28, 29, 30, 31, 32, 33, 37, 38, 39, 40], [27, 28, 29, 30, 31, 32, 33, 38, 39, 40], [27, 28, 29, 30, 31, 32, 33, 39, 40], [27, 40]] (by decide) ?_
  simp
  refine S 60 _ _ ?_
  simp
  refine LpW.inv (LpW.step (S 60 _ _ ?_))
  simp
  refine J.dr hF mixed 7 [[], [], [], [], [2, 3], [2, 3, 4], [0], [0, 1, 2, 3, 4, 5, 6], [0, 1, 2, 3, 4, 5, 6, 7]] [[43, 44, 45, 46, 47, 48, 49], [43, 44, 45, 46, 47, 48, 49], [43, 44, 45, 46, 47, 48, 49], [43, 44, 45, 46, 47, 48, 49], [43, 44, 47, 48, 49], [43, 44, 48, 49], [44, 45, 46, 47, 48, 49]] (by decide) ?_
  simp [hp0]
  refine S 60 _ _ ?_
  simp
  refine LpW.inv (LpW.step (S 60 _ _ ?_))
  simp
  refine J.rounds 4 (LpW.step (S 60 _ _ ?_))
  simp
  refine J.dr hF mixed 14 [[], [], [], [1], [1, 2, 3], [1, 2, 3, 4], [1, 2, 3, 4, 5], [], [], [7], [7, 8, 9], [7, 8, 9, 10], [7, 8, 9, 10, 11], [1, 2, 3, 4, 5, 6, 7, 8, 9, 10, 11, 12], [0, 1, 2, 3, 4, 5, 6, 7, 8, 9, 10, 11, 12, 13], [0, 1, 2, 3, 4, 5, 6, 7, 8, 9, 10, 11, 12, 13, 14]] [[27, 28, 29, 30, 31, 32, 33, 34, 35, 36, 37, 38, 39, 40], [27, 28, 29, 30, 31, 32, 33, 34, 35, 36, 37, 38, 39, 40], [27, 28, 29, 30, 31, 32, 33, 34, 35, 36, 37, 38, 39, 40], [27, 29, 30, 31, 32, 33, 34, 35, 36, 37, 38, 39, 40], [27, 31, 32, 33, 34, 35, 36, 37, 38, 39, 40], [27, 32, 33, 34, 35, 36, 37, 38, 39, 40], [27, 33, 34, 35, 36, 37, 38, 39, 40], [27, 28, 29, 30, 31, 32, 33, 34, 35, 36, 37, 38, 39, 40], [27, 28, 29, 30, 31, 32, 33, 34, 35, 36, 37, 38, 39, 40], [27, 28, 29, 30, 31, 32, 33, 35, 36, 37, 38, 39, 40], [27, 28, 29, 30, 31, 32, 33, 37, 38, 39, 40], [27, 28, 29, 30, 31, 32, 33, 38, 39, 40], [27, 28, 29, 30, 31, 32, 33, 39, 40], [27, 40]] (by decide) ?_
  simp
  refine S 60 _ _ ?_
  simp
  refine LpW.inv (LpW.step (S 60 _ _ ?_))
  simp
  refine J.dr hF mixed 14 [[], [], [], [1], [1, 2, 3], [1, 2, 3, 4], [1, 2, 3, 4, 5], [], [], [7], [7, 8, 9], [7, 8, 9, 10], [7, 8, 9, 10, 11], [1, 2, 3, 4, 5, 6, 7, 8, 9, 10, 11, 12], [0, 1, 2, 3, 4, 5, 6, 7, 8, 9, 10, 11, 12, 13], [0, 1, 2, 3, 4, 5, 6, 7, 8, 9, 10, 11, 12, 13, 14]] [[27, 28, 29, 30, 31, 32, 33, 34, 35, 36, 37, 38, 39, 40], [27, 28, 29, 30, 31, 32, 33, 34, 35, 36, 37, 38, 39, 40], [27, 28, 29, 30, 31, 32, 33, 34, 35, 36, 37, 38, 39, 40], [27, 29, 30, 31, 32, 33, 34, 35, 36, 37, 38, 39, 40], [27, 31, 32, 33, 34, 35, 36, 37, 38, 39, 40], [27, 32, 33, 34, 35, 36, 37, 38, 39, 40], [27, 33, 34, 35, 36, 37, 38, 39, 40], [27, 28, 29, 30, 31, 32, 33, 34, 35, 36, 37, 38, 39, 40], [27, 28, 29, 30, 31, 32, 33, 34, 35, 36, 37, 38, 39, 40], [27, 28, 29, 30, 31, 32, 33, 35, 36, 37, 38, 39, 40], [27, 28, 29, 30, 31, 32, 33, 37, 38, 39, 40], [27, 28, 29, 30, 31, 32, 33, 38, 39, 40], [27, 28, 29, 30, 31, 32, 33, 39, 40], [27, 40]] (by decide) ?_
  simp
  refine S 60 _ _ ?_
  simp
  refine LpW.inv (LpW.step (S 60 _ _ ?_))
  simp
  refine J.dr hF mixed 7 [[], [], [], [], [2, 3], [2, 3, 4], [0], [0, 1, 2, 3, 4, 5, 6], [0, 1, 2, 3, 4, 5, 6, 7]] [[43, 44, 45, 46, 47, 48, 49], [43, 44, 45, 46, 47, 48, 49], [43, 44, 45, 46, 47, 48, 49], [43, 44, 45, 46, 47, 48, 49], [43, 44, 47, 48, 49], [43, 44, 48, 49], [44, 45, 46, 47, 48, 49]] (by decide) ?_
  simp [hp0]
  refine S 60 _ _ ?_
  simp
  refine LpW.inv (LpW.step (S 60 _ _ ?_))
  simp
  refine LpW.inv (LpW.step (S 60 _ _ ?_))
  simp
  refine J.rounds 4 (LpW.step (S 60 _ _ ?_))
  simp
  refine J.rounds 4 (LpW.step (S 60 _ _ ?_))
  simp
  refine J.dr hF mixed 14 [[], [], [], [1], [1, 2, 3], [1, 2, 3, 4], [1, 2, 3, 4, 5], [], [], [7], [7, 8, 9], [7, 8, 9, 10], [7, 8, 9, 10, 11], [1, 2, 3, 4, 5, 6, 7, 8, 9, 10, 11, 12], [0, 1, 2, 3, 4, 5, 6, 7, 8, 9, 10, 11, 12, 13], [0, 1, 2, 3, 4, 5, 6, 7, 8, 9, 10, 11, 12, 13, 14]] [[27, 28, 29, 30, 31, 32, 33, 34, 35, 36, 37, 38, 39, 40], [27, 28, 29, 30, 31, 32, 33, 34, 35, 36, 37, 38, 39, 40], [27, 28, 29, 30, 31, 32, 33, 34, 35, 36, 37, 38, 39, 40], [27, 29, 30, 31, 32, 33, 34, 35, 36, 37, 38, 39, 40], [27, 31, 32, 33, 34, 35, 36, 37, 38, 39, 40], [27, 32, 33, 34, 35, 36, 37, 38, 39, 40], [27, 33, 34, 35, 36, 37, 38, 39, 40], [27, 28, 29, 30, 31, 32, 33, 34, 35, 36, 37, 38, 39, 40], [27, 28, 29, 30, 31, 32, 33, 34, 35, 36, 37, 38, 39, 40], [27, 28, 29, 30, 31, 32, 33, 35, 36, 37, 38, 39, 40], [27, 28, 29, 30, 31, 32, 33, 37, 38, 39, 40], [27, 28, 29, 30, 31, 32, 33, 38, 39, 40], [27, 28, 29, 30, 31, 32, 33, 39, 40], [27, 40]] (by decide) ?_
  simp
  refine S 60 _ _ ?_
  simp
  refine LpW.inv (LpW.step (S 60 _ _ ?_))
  simp
  refine J.dr hF mixed 14 [[], [], [], [1], [1, 2, 3], [1, 2, 3, 4], [1, 2, 3, 4, 5], [], [], [7], [7, 8, 9], [7, 8, 9, 10], [7, 8, 9, 10, 11], [1, 2, 3, 4, 5, 6, 7, 8, 9, 10, 11, 12], [0, 1, 2, 3, 4, 5, 6, 7, 8, 9, 10, 11, 12, 13], [0, 1, 2, 3, 4, 5, 6, 7, 8, 9, 10, 11, 12, 13, 14]] [[27, 28, 29, 30, 31, 32, 33, 34, 35, 36, 37, 38, 39, 40], [27, 28, 29, 30, 31, 32, 33, 34, 35, 36, 37, 38, 39, 40], [27, 28, 29, 30, 31, 32, 33, 34, 35, 36, 37, 38, 39, 40], [27, 29, 30, 31, 32, 33, 34, 35, 36, 37, 38, 39, 40], [27, 31, 32, 33, 34, 35, 36, 37, 38, 39, 40], [27, 32, 33, 34, 35, 36, 37, 38, 39, 40], [27, 33, 34, 35, 36, 37, 38, 39, 40], [27, 28, 29, 30, 31, 32, 33, 34, 35, 36, 37, 38, 39, 40], [27, 28, 29, 30, 31, 32, 33, 34, 35, 36, 37, 38, 39, 40], [27, 28, 29, 30, 31, 32, 33, 35, 36, 37, 38, 39, 40], [27, 28, 29, 30, 31, 32, 33, 37, 38, 39, 40], [27, 28, 29, 30, 31, 32, 33, 38, 39, 40], [27, 28, 29, 30, 31, 32, 33, 39, 40], [27, 40]] (by decide) ?_
  simp
  refine S 60 _ _ ?_
  simp
  refine LpW.inv (LpW.step (S 60 _ _ ?_))
  simp
  refine J.dr hF mixed 7 [[], [], [], [], [2, 3], [2, 3, 4], [0], [0, 1, 2, 3, 4, 5, 6], [0, 1, 2, 3, 4, 5, 6, 7]] [[43, 44, 45, 46, 47, 48, 49], [43, 44, 45, 46, 47, 48, 49], [43, 44, 45, 46, 47, 48, 49], [43, 44, 45, 46, 47, 48, 49], [43, 44, 47, 48, 49], [43, 44, 48, 49], [44, 45, 46, 47, 48, 49]] (by decide) ?_
  simp [hp0]
  refine S 60 _ _ ?_
  simp
  refine LpW.inv (LpW.step (S 60 _ _ ?_))
  simp
  refine J.rounds 4 (LpW.step (S 60 _ _ ?_))
  simp
  refine J.dr hF mixed 14 [[], [], [], [1], [1, 2, 3], [1, 2, 3, 4], [1, 2, 3, 4, 5], [], [], [7], [7, 8, 9], [7, 8, 9, 10], [7, 8, 9, 10, 11], [1, 2, 3, 4, 5, 6, 7, 8, 9, 10, 11, 12], [0, 1, 2, 3, 4, 5, 6, 7, 8, 9, 10, 11, 12, 13], [0, 1, 2, 3, 4, 5, 6, 7, 8, 9, 10, 11, 12, 13, 14]] [[27, 28, 29, 30, 31, 32, 33, 34, 35, 36, 37, 38, 39, 40], [27, 28, 29, 30, 31, 32, 33, 34, 35, 36, 37, 38, 39, 40], [27, 28, 29, 30, 31, 32, 33, 34, 35, 36, 37, 38, 39, 40], [27, 29, 30, 31, 32, 33, 34, 35, 36, 37, 38, 39, 40], [27, 31, 32, 33, 34, 35, 36, 37, 38, 39, 40], [27, 32, 33, 34, 35, 36, 37, 38, 39, 40], [27, 33, 34, 35, 36, 37, 38, 39, 40], [27, 28, 29, 30, 31, 32, 33, 34, 35, 36, 37, 38, 39, 40], [27, 28, 29, 30, 31, 32, 33, 34, 35, 36, 37, 38, 39, 40], [27, 28, 29, 30, 31, 32, 33, 35, 36, 37, 38, 39, 40], [27, 28, 29, 30, 31, 32, 33, 37, 38, 39, 40], [27, 28, 29, 30, 31, 32, 33, 38, 39, 40], [27, 28, 29, 30, 31, 32, 33, 39, 40], [27, 40]] (by decide) ?_
  simp
  refine S 60 _ _ ?_
  simp
  refine LpW.inv (LpW.step (S 60 _ _ ?_))
  simp
  refine J.dr hF mixed 14 [[], [], [], [1], [1, 2, 3], [1, 2, 3, 4], [1, 2, 3, 4, 5], [], [], [7], [7, 8, 9], [7, 8, 9, 10], [7, 8, 9, 10, 11], [1, 2, 3, 4, 5, 6, 7, 8, 9, 10, 11, 12], [0, 1, 2, 3, 4, 5, 6, 7, 8, 9, 10, 11, 12, 13], [0, 1, 2, 3, 4, 5, 6, 7, 8, 9, 10, 11, 12, 13, 14]] [[27, 28, 29, 30, 31, 32, 33, 34, 35, 36, 37, 38, 39, 40], [27, 28, 29, 30, 31, 32, 33, 34, 35, 36, 37, 38, 39, 40], [27, 28, 29, 30, 31, 32, 33, 34, 35, 36, 37, 38, 39, 40], [27, 29, 30, 31, 32, 33, 34, 35, 36, 37, 38, 39, 40], [27, 31, 32, 33, 34, 35, 36, 37, 38, 39, 40], [27, 32, 33, 34, 35, 36, 37, 38, 39, 40], [27, 33, 34, 35, 36, 37, 38, 39, 40], [27, 28, 29, 30, 31, 32, 33, 34, 35, 36, 37, 38, 39, 40], [27, 28, 29, 30, 31, 32, 33, 34, 35, 36, 37, 38, 39, 40], [27, 28, 29, 30, 31, 32, 33, 35, 36, 37, 38, 39, 40], [27, 28, 29, 30, 31, 32, 33, 37, 38, 39, 40], [27, 28, 29, 30, 31, 32, 33, 38, 39, 40], [27, 28, 29, 30, 31, 32, 33, 39, 40], [27, 40]] (by decide) ?_
  simp
  refine S 60 _ _ ?_
  simp
  refine LpW.inv (LpW.step (S 60 _ _ ?_))
  simp
  refine J.dr hF mixed 7 [[], [], [], [], [2, 3], [2, 3, 4], [0], [0, 1, 2, 3, 4, 5, 6], [0, 1, 2, 3, 4, 5, 6, 7]] [[43, 44, 45, 46, 47, 48, 49], [43, 44, 45, 46, 47, 48, 49], [43, 44, 45, 46, 47, 48, 49], [43, 44, 45, 46, 47, 48, 49], [43, 44, 47, 48, 49], [43, 44, 48, 49], [44, 45, 46, 47, 48, 49]] (by decide) ?_
  simp [hp0]
  refine S 60 _ _ ?_
  simp
  refine LpW.inv (LpW.step (S 60 _ _ ?_))
  simp
  refine LpW.inv (LpW.step (S 60 _ _ ?_))
  simp
  simp [timesM, mkM, sumN, Mx.at, bytm hp, u8w2 hp]

set_option maxRecDepth 20000 in
set_option maxHeartbeats 4000000 in
theorem times_ok3 (p : Int) (g h : Mx) (hp : 2 ≤ p ∧ p ≤ 13) : CallOK Go.Proofs.Try.prog 47 [.one (i64 p), .one (i64 3), .agg g.ds, .agg h.ds] (.agg (timesM p 3 g h).ds) := by
  have hF := fnOk 54 [.cell 8 57]
  refine callOK hF 60 Go.Proofs.Try.func47 rfl rfl rfl (by decide) (by simp) rfl ?_
  intro w0 hw
  have S := @vc_sound w0 _ hF ⟨(.agg (timesM p 3 g h).ds), []⟩ Go.Proofs.Try.f47 rfl (by simp)
  have hp0 : p ≠ 0 := by omega
  have hp1 : 0 < p := by omega
  simp
  refine J.rounds 4 (LpW.step (S 60 _ _ ?_))
  simp
  refine J.rounds 4 (LpW.step (S 60 _ _ ?_))
  simp
  refine J.rounds 4 (LpW.step (S 60 _ _ ?_))
  simp
  refine J.dr hF mixed 14 [[], [], [], [1], [1, 2, 3], [1, 2, 3, 4], [1, 2, 3, 4, 5], [], [], [7], [7, 8, 9], [7, 8, 9, 10], [7, 8, 9, 10, 11], [1, 2, 3, 4, 5, 6, 7, 8, 9, 10, 11, 12], [0, 1, 2, 3, 4, 5, 6, 7, 8, 9, 10, 11, 12, 13], [0, 1, 2, 3, 4, 5, 6, 7, 8, 9, 10, 11, 12, 13, 14]] [[27, 28, 29, 30, 31, 32, 33, 34, 35, 36, 37, 38, 39, 40], [27, 28, 29, 30, 31, 32, 33, 34, 35, 36, 37, 38, 39, 40], [27, 28, 29, 30, 31, 32, 33, 34, 35, 36, 37, 38, 39, 40], [27, 29, 30, 31, 32, 33, 34, 35, 36, 37, 38, 39, 40], [27, 31, 32, 33, 34, 35, 36, 37, 38, 39, 40], [27, 32, 33, 34, 35, 36, 37, 38, 39, 40], [27, 33, 34, 35, 36, 37, 38, 39, 40], [27, 28, 29, 30, 31, 32, 33, 34, 35, 36, 37, 38, 39, 40], [27, 28, 29, 30, 31, 32, 33, 34, 35, 36, 37, 38, 39, 40], [27, 28, 29, 30, 31, 32, 33, 35, 36, 37, 38, 39, 40], [27, 28, 29, 30, 31, 32, 33, 37, 38, 39, 40], [27, 28, 29, 30, 31, 32, 33, 38, 39, 40], [27, 28, 29, 30, 31, 32, 33, 39, 40], [27, 40]] (by decide) ?_
  simp
  refine S 60 _ _ ?_
  simp
  refine LpW.inv (LpW.step (S 60 _ _ ?_))
  simp
  refine J.dr hF mixed 14 [[], [], [], [1], [1, 2, 3], [1, 2, 3, 4], [1, 2, 3, 4, 5], [], [], [7], [7, 8, 9], [7, 8, 9, 10], [7, 8, 9, 10, 11], [1, 2, 3, 4, 5, 6, 7, 8, 9, 10, 11, 12], [0, 1, 2, 3, 4, 5, 6, 7, 8, 9, 10, 11, 12, 13], [0, 1, 2, 3, 4, 5, 6, 7, 8, 9, 10, 11, 12, 13, 14]] [[27, 28, 29, 30, 31, 32, 33, 34, 35, 36, 37, 38, 39, 40], [27, 28, 29, 30, 31, 32, 33, 34, 35, 36, 37, 38, 39, 40], [27, 28, 29, 30, 31, 32, 33, 34, 35, 36, 37, 38, 39, 40], [27, 29, 30, 31, 32, 33, 34, 35, 36, 37, 38, 39, 40], [27, 31, 32, 33, 34, 35, 36, 37, 38, 39, 40], [27, 32, 33, 34, 35, 36, 37, 38, 39, 40], [27, 33, 34, 35, 36, 37, 38, 39, 40], [27, 28, 29, 30, 31, 32, 33, 34, 35, 36, 37, 38, 39, 40], [27, 28, 29, 30, 31, 32, 33, 34, 35, 36, 37, 38, 39, 40], [27, 28, 29, 30, 31, 32, 33, 35, 36, 37, 38, 39, 40], [27, 28, 29, 30, 31, 32, 33, 37, 38, 39, 40], [27, 28, 29, 30, 31, 32, 33, 38, 39, 40], [27, 28, 29, 30, 31, 32, 33, 39, 40], [27, 40]] (by decide) ?_
  simp
  refine S 60 _ _ ?_
  simp
  refine LpW.inv (LpW.step (S 60 _ _ ?_))
  simp
  refine J.dr hF mixed 14 [[], [], [], [1], [1, 2, 3], [1, 2, 3, 4], [1, 2, 3, 4, 5], [], [], [7], [7, 8, 9], [7, 8, 9, 10], [7, 8, 9, 10, 11], [1, 2, 3, 4, 5, 6, 7, 8, 9, 10, 11, 12], [0, 1, 2, 3, 4, 5, 6, 7, 8, 9, 10, 11, 12, 13], [0, 1, 2, 3, 4, 5, 6, 7, 8, 9, 10, 11, 12, 13, 14]] [[27, 28, 29, 30, 31, 32, 33, 34, 35, 36, 37, 38, 39, 40], [27, 28, 29, 30, 31, 32, 33, 34, 35, 36, 37, 38, 39, 40], [27, 28, 29, 30, 31, 32, 33, 34, 35, 36, 37, 38, 39, 40], [27, 29, 30, 31, 32, 33, 34, 35, 36, 37, 38, 39, 40], [27, 31, 32, 33, 34, 35, 36, 37, 38, 39, 40], [27, 32, 33, 34, 35, 36, 37, 38, 39, 40], [27, 33, 34, 35, 36, 37, 38, 39, 40], [27, 28, 29, 30, 31, 32, 33, 34, 35, 36, 37, 38, 39, 40], [27, 28, 29, 30, 31, 32, 33, 34, 35, 36, 37, 38, 39, 40], [27, 28, 29, 30, 31, 32, 33, 35, 36, 37, 38, 39, 40], [27, 28, 29, 30, 31, 32, 33, 37, 38, 39, 40], [27, 28, 29, 30, 31, 32, 33, 38, 39, 40], [27, 28, 29, 30, 31, 32, 33, 39, 40], [27, 40]] (by decide) ?_
  simp
  refine S 60 _ _ ?_
  simp
  refine LpW.inv (LpW.step (S 60 _ _ ?_))
  simp
  refine J.dr hF mixed 7 [[], [], [], [], [2, 3], [2, 3, 4], [0], [0, 1, 2, 3, 4, 5, 6], [0, 1, 2, 3, 4, 5, 6, 7]] [[43, 44, 45, 46, 47, 48, 49], [43, 44, 45, 46, 47, 48, 49], [43, 44, 45, 46, 47, 48, 49], [43, 44, 45, 46, 47, 48, 49], [43, 44, 47, 48, 49], [43, 44, 48, 49], [44, 45, 46, 47, 48, 49]] (by decide) ?_
  simp [hp0]
  refine S 60 _ _ ?_
  simp
  refine LpW.inv (LpW.step (S 60 _ _ ?_))
  simp
  refine J.rounds 4 (LpW.step (S 60 _ _ ?_))
  simp
  refine J.dr hF mixed 14 [[], [], [], [1], [1, 2, 3], [1, 2, 3, 4], [1, 2, 3, 4, 5], [], [], [7], [7, 8, 9], [7, 8, 9, 10], [7, 8, 9, 10, 11], [1, 2, 3, 4, 5, 6, 7, 8, 9, 10, 11, 12], [0, 1, 2, 3, 4, 5, 6, 7, 8, 9, 10, 11, 12, 13], [0, 1, 2, 3, 4, 5, 6, 7, 8, 9, 10, 11, 12, 13, 14]] [[27, 28, 29, 30, 31, 32, 33, 34, 35, 36, 37, 38, 39, 40], [27, 28, 29, 30, 31, 32, 33, 34, 35, 36, 37, 38, 39, 40], [27, 28, 29, 30, 31, 32, 33, 34, 35, 36, 37, 38, 39, 40], [27, 29, 30, 31, 32, 33, 34, 35, 36, 37, 38, 39, 40], [27, 31, 32, 33, 34, 35, 36, 37, 38, 39, 40], [27, 32, 33, 34, 35, 36, 37, 38, 39, 40], [27, 33, 34, 35, 36, 37, 38, 39, 40], [27, 28, 29, 30, 31, 32, 33, 34, 35, 36, 37, 38, 39, 40], [27, 28, 29, 30, 31, 32, 33, 34, 35, 36, 37, 38, 39, 40], [27, 28, 29, 30, 31, 32, 33, 35, 36, 37, 38, 39, 40], [27, 28, 29, 30, 31, 32, 33, 37, 38, 39, 40], [27, 28, 29, 30, 31, 32, 33, 38, 39, 40], [27, 28, 29, 30, 31, 32, 33, 39, 40], [27, 40]] (by decide) ?_
  simp
  refine S 60 _ _ ?_
  simp
  refine LpW.inv (LpW.step (S 60 _ _ ?_))
  simp
  refine J.dr hF mixed 14 [[], [], [], [1], [1, 2, 3], [1, 2, 3, 4], [1, 2, 3, 4, 5], [], [], [7], [7, 8, 9], [7, 8, 9, 10], [7, 8, 9, 10, 11], [1, 2, 3, 4, 5, 6, 7, 8, 9, 10, 11, 12], [0, 1, 2, 3, 4, 5, 6, 7, 8, 9, 10, 11, 12, 13], [0, 1, 2, 3, 4, 5, 6, 7, 8, 9, 10, 11, 12, 13, 14]] [[27, 28, 29, 30, 31, 32, 33, 34, 35, 36, 37, 38, 39, 40], [27, 28, 29, 30, 31, 32, 33, 34, 35, 36, 37, 38, 39, 40], [27, 28, 29, 30, 31, 32, 33, 34, 35, 36, 37, 38, 39, 40], [27, 29, 30, 31, 32, 33, 34, 35, 36, 37, 38, 39, 40], [27, 31, 32, 33, 34, 35, 36, 37, 38, 39, 40], [27, 32, 33, 34, 35, 36, 37, 38, 39, 40], [27, 33, 34, 35, 36, 37, 38, 39, 40], [27, 28, 29, 30, 31, 32, 33, 34, 35, 36, 37, 38, 39, 40], [27, 28, 29, 30, 31, 32, 33, 34, 35, 36, 37, 38, 39, 40], [27, 28, 29, 30, 31, 32, 33, 35, 36, 37, 38, 39, 40], [27, 28, 29, 30, 31, 32, 33, 37, 38, 39, 40], [27, 28, 29, 30, 31, 32, 33, 38, 39, 40], [27, 28, 29, 30, 31, 32, 33, 39, 40], [27, 40]] (by decide) ?_
  simp
  refine S 60 _ _ ?_
  simp
  refine LpW.inv (LpW.step (S 60 _ _ ?_))
  simp
  refine J.dr hF mixed 14 [[], [], [], [1], [1, 2, 3], [1, 2, 3, 4], [1, 2, 3, 4, 5], [], [], [7], [7, 8, 9], [7, 8, 9, 10], [7, 8, 9, 10, 11], [1, 2, 3, 4, 5, 6, 7, 8, 9, 10, 11, 12], [0, 1, 2, 3, 4, 5, 6, 7, 8, 9, 10, 11, 12, 13], [0, 1, 2, 3, 4, 5, 6, 7, 8, 9, 10, 11, 12, 13, 14]] [[27, 28, 29, 30, 31, 32, 33, 34, 35, 36, 37, 38, 39, 40], [27, 28, 29, 30, 31, 32, 33, 34, 35, 36, 37, 38, 39, 40], [27, 28, 29, 30, 31, 32, 33, 34, 35, 36, 37, 38, 39, 40], [27, 29, 30, 31, 32, 33, 34, 35, 36, 37, 38, 39, 40], [27, 31, 32, 33, 34, 35, 36, 37, 38, 39, 40], [27, 32, 33, 34, 35, 36, 37, 38, 39, 40], [27, 33, 34, 35, 36, 37, 38, 39, 40], [27, 28, 29, 30, 31, 32, 33, 34, 35, 36, 37, 38, 39, 40], [27, 28, 29, 30, 31, 32, 33, 34, 35, 36, 37, 38, 39, 40], [27, 28, 29, 30, 31, 32, 33, 35, 36, 37, 38, 39, 40], [27, 28, 29, 30, 31, 32, 33, 37, 38, 39, 40], [27, 28, 29, 30, 31, 32, 33, 38, 39, 40], [27, 28, 29, 30, 31, 32, 33, 39, 40], [27, 40]] (by decide) ?_
  simp
  refine S 60 _ _ ?_
  simp
  refine LpW.inv (LpW.step (S 60 _ _ ?_))
  simp
  refine J.dr hF mixed 7 [[], [], [], [], [2, 3], [2, 3, 4], [0], [0, 1, 2, 3, 4, 5, 6], [0, 1, 2, 3, 4, 5, 6, 7]] [[43, 44, 45, 46, 47, 48, 49], [43, 44, 45, 46, 47, 48, 49], [43, 44, 45, 46, 47, 48, 49], [43, 44, 45, 46, 47, 48, 49], [43, 44, 47, 48, 49], [43, 44, 48, 49], [44, 45, 46, 47, 48, 49]] (by decide) ?_
  simp [hp0]
  refine S 60 _ _ ?_
  simp
  refine LpW.inv (LpW.step (S 60 _ _ ?_))
  simp
  refine J.rounds 4 (LpW.step (S 60 _ _ ?_))
  simp
  refine J.dr hF mixed 14 [[], [], [], [1], [1, 2, 3], [1, 2, 3, 4], [1, 2, 3, 4, 5], [], [], [7], [7, 8, 9], [7, 8, 9, 10], [7, 8, 9, 10, 11], [1, 2, 3, 4, 5, 6, 7, 8, 9, 10, 11, 12], [0, 1, 2, 3, 4, 5, 6, 7, 8, 9, 10, 11, 12, 13], [0, 1, 2, 3, 4, 5, 6, 7, 8, 9, 10, 11, 12, 13, 14]] [[27, 28, 29, 30, 31, 32, 33, 34, 35, 36, 37, 38, 39, 40], [27, 28, 29, 30, 31, 32, 33, 34, 35, 36, 37, 38, 39, 40], [27, 28, 29, 30, 31, 32, 33, 34, 35, 36, 37, 38, 39, 40], [27, 29, 30, 31, 32, 33, 34, 35, 36, 37, 38, 39, 40], [27, 31, 32, 33, 34, 35, 36, 37, 38, 39, 40], [27, 32, 33, 34, 35, 36, 37, 38, 39, 40], [27, 33, 34, 35, 36, 37, 38, 39, 40], [27, 28, 29, 30, 31, 32, 33, 34, 35, 36, 37, 38, 39, 40], [27, 28, 29, 30, 31, 32, 33, 34, 35, 36, 37, 38, 39, 40], [27, 28, 29, 30, 31, 32, 33, 35, 36, 37, 38, 39, 40], [27, 28, 29, 30, 31, 32, 33, 37, 38, 39, 40], [27, 28, 29, 30, 31, 32, 33, 38, 39, 40], [27, 28, 29, 30, 31, 32, 33, 39, 40], [27, 40]] (by decide) ?_
  simp
  refine S 60 _ _ ?_
  simp
  refine LpW.inv (LpW.step (S 60 _ _ ?_))
  simp
  refine J.dr hF mixed 14 [[], [], [], [1], [1, 2, 3], [1, 2, 3, 4], [1, 2, 3, 4, 5], [], [], [7], [7, 8, 9], [7, 8, 9, 10], [7, 8, 9, 10, 11], [1, 2, 3, 4, 5, 6, 7, 8, 9, 10, 11, 12], [0, 1, 2, 3, 4, 5, 6, 7, 8, 9, 10, 11, 12, 13], [0, 1, 2, 3, 4, 5, 6, 7, 8, 9, 10, 11, 12, 13, 14]] [[27, 28, 29, 30, 31, 32, 33, 34, 35, 36, 37, 38, 39, 40], [27, 28, 29, 30, 31, 32, 33, 34, 35, 36, 37, 38, 39, 40], [27, 28, 29, 30, 31, 32, 33, 34, 35, 36, 37, 38, 39, 40], [27, 29, 30, 31, 32, 33, 34, 35, 36, 37, 38, 39, 40], [27, 31, 32, 33, 34, 35, 36, 37, 38, 39, 40], [27, 32, 33, 34, 35, 36, 37, 38, 39, 40], [27, 33, 34, 35, 36, 37, 38, 39, 40], [27, 28, 29, 30, 31, 32, 33, 34, 35, 36, 37, 38, 39, 40], [27, 28, 29, 30, 31, 32, 33, 34, 35, 36, 37, 38, 39, 40], [27, 28, 29, 30, 31, 32, 33, 35, 36, 37, 38, 39, 40], [27, 28, 29, 30, 31, 32, 33, 37, 38, 39, 40], [27, 28, 29, 30, 31, 32, 33, 38, 39, 40], [27, 28, 29, 30, 31, 32, 33, 39, 40], [27, 40]] (by decide) ?_
  simp
  refine S 60 _ _ ?_
  simp
  refine LpW.inv (LpW.step (S 60 _ _ ?_))
  simp
  refine J.dr hF mixed 14 [[], [], [], [1], [1, 2, 3], [1, 2, 3, 4], [1, 2, 3, 4, 5], [], [], [7], [7, 8, 9], [7, 8, 9, 10], [7, 8, 9, 10, 11], [1, 2, 3, 4, 5, 6, 7, 8, 9, 10, 11, 12], [0, 1, 2, 3, 4, 5, 6, 7, 8, 9, 10, 11, 12, 13], [0, 1, 2, 3, 4, 5, 6, 7, 8, 9, 10, 11, 12, 13, 14]] [[27, 28, 29, 30, 31, 32, 33, 34, 35, 36, 37, 38, 39, 40], [27, 28, 29, 30, 31, 32, 33, 34, 35, 36, 37, 38, 39, 40], [27, 28, 29, 30, 31, 32, 33, 34, 35, 36, 37, 38, 39, 40], [27, 29, 30, 31, 32, 33, 34, 35, 36, 37, 38, 39, 40], [27, 31, 32, 33, 34, 35, 36, 37, 38, 39, 40], [27, 32, 33, 34, 35, 36, 37, 38, 39, 40], [27, 33, 34, 35, 36, 37, 38, 39, 40], [27, 28, 29, 30, 31, 32, 33, 34, 35, 36, 37, 38, 39, 40], [27, 28, 29, 30, 31, 32, 33, 34, 35, 36, 37, 38, 39, 40], [27, 28, 29, 30, 31, 32, 33, 35, 36, 37, 38, 39, 40], [27, 28, 29, 30, 31, 32, 33, 37, 38, 39, 40], [27, 28, 29, 30, 31, 32, 33, 38, 39, 40], [27, 28, 29, 30, 31, 32, 33, 39, 40], [27, 40]] (by decide) ?_
  simp
  refine S 60 _ _ ?_
  simp
  refine LpW.inv (LpW.step (S 60 _ _ ?_))
  simp
  refine J.dr hF mixed 7 [[], [], [], [], [2, 3], [2, 3, 4], [0], [0, 1, 2, 3, 4, 5, 6], [0, 1, 2, 3, 4, 5, 6, 7]] [[43, 44, 45, 46, 47, 48, 49], [43, 44, 45, 46, 47, 48, 49], [43, 44, 45, 46, 47, 48, 49], [43, 44, 45, 46, 47, 48, 49], [43, 44, 47, 48, 49], [43, 44, 48, 49], [44, 45, 46, 47, 48, 49]] (by decide) ?_
  simp [hp0]
  refine S 60 _ _ ?_
  simp
  refine LpW.inv (LpW.step (S 60 _ _ ?_))
  simp
  refine LpW.inv (LpW.step (S 60 _ _ ?_))
  simp
  refine J.rounds 4 (LpW.step (S 60 _ _ ?_))
  simp
  refine J.rounds 4 (LpW.step (S 60 _ _ ?_))
  simp
  refine J.dr hF mixed 14 [[], [], [], [1], [1, 2, 3], [1, 2, 3, 4], [1, 2, 3, 4, 5], [], [], [7], [7, 8, 9], [7, 8, 9, 10], [7, 8, 9, 10, 11], [1, 2, 3, 4, 5, 6, 7, 8, 9, 10, 11, 12], [0, 1, 2, 3, 4, 5, 6, 7, 8, 9, 10, 11, 12, 13], [0, 1, 2, 3, 4, 5, 6, 7, 8, 9, 10, 11, 12, 13, 14]] [[27, 28, 29, 30, 31, 32, 33, 34, 35, 36, 37, 38, 39, 40], [27, 28, 29, 30, 31, 32, 33, 34, 35, 36, 37, 38, 39, 40], [27, 28, 29, 30, 31, 32, 33, 34, 35, 36, 37, 38, 39, 40], [27, 29, 30, 31, 32, 33, 34, 35, 36, 37, 38, 39, 40], [27, 31, 32, 33, 34, 35, 36, 37, 38, 39, 40], [27, 32, 33, 34, 35, 36, 37, 38, 39, 40], [27, 33, 34, 35, 36, 37, 38, 39, 40], [27, 28, 29, 30, 31, 32, 33, 34, 35, 36, 37, 38, 39, 40], [27, 28, 29, 30, 31, 32, 33, 34, 35, 36, 37, 38, 39, 40], [27, 28, 29, 30, 31, 32, 33, 35, 36, 37, 38, 39, 40], [27, 28, 29, 30, 31, 32, 33, 37, 38, 39, 40], [27, 28, 29, 30, 31, 32, 33, 38, 39, 40], [27, 28, 29, 30, 31, 32, 33, 39, 40], [27, 40]] (by decide) ?_
  simp
  refine S 60 _ _ ?_
  simp
  refine LpW.inv (LpW.step (S 60 _ _ ?_))
  simp
  refine J.dr hF mixed 14 [[], [], [], [1], [1, 2, 3], [1, 2, 3, 4], [1, 2, 3, 4, 5], [], [], [7], [7, 8, 9], [7, 8, 9, 10], [7, 8, 9, 10, 11], [1, 2, 3, 4, 5, 6, 7, 8, 9, 10, 11, 12], [0, 1, 2, 3, 4, 5, 6, 7, 8, 9, 10, 11, 12, 13], [0, 1, 2, 3, 4, 5, 6, 7, 8, 9, 10, 11, 12, 13, 14]] [[27, 28, 29, 30, 31, 32, 33, 34, 35, 36, 37, 38, 39, 40], [27, 28, 29, 30, 31, 32, 33, 34, 35, 36, 37, 38, 39, 40], [27, 28, 29, 30, 31, 32, 33, 34, 35, 36, 37, 38, 39, 40], [27, 29, 30, 31, 32, 33, 34, 35, 36, 37, 38, 39, 40], [27, 31, 32, 33, 34, 35, 36, 37, 38, 39, 40], [27, 32, 33, 34, 35, 36, 37, 38, 39, 40], [27, 33, 34, 35, 36, 37, 38, 39, 40], [27, 28, 29, 30, 31, 32, 33, 34, 35, 36, 37, 38, 39, 40], [27, 28, 29, 30, 31, 32, 33, 34, 35, 36, 37, 38, 39, 40], [27, 28, 29, 30, 31, 32, 33, 35, 36, 37, 38, 39, 40], [27, 28, 29, 30, 31, 32, 33, 37, 38, 39, 40], [27, 28, 29, 30, 31, 32, 33, 38, 39, 40], [27, 28, 29, 30, 31, 32, 33, 39, 40], [27, 40]] (by decide) ?_
  simp
  refine S 60 _ _ ?_
  simp
  refine LpW.inv (LpW.step (S 60 _ _ ?_))
  simp
  refine J.dr hF mixed 14 [[], [], [], [1], [1, 2, 3], [1, 2, 3, 4], [1, 2, 3, 4, 5], [], [], [7], [7, 8, 9], [7, 8, 9, 10], [7, 8, 9, 10, 11], [1, 2, 3, 4, 5, 6, 7, 8, 9, 10, 11, 12], [0, 1, 2, 3, 4, 5, 6, 7, 8, 9, 10, 11, 12, 13], [0, 1, 2, 3, 4, 5, 6, 7, 8, 9, 10, 11, 12, 13, 14]] [[27, 28, 29, 30, 31, 32, 33, 34, 35, 36, 37, 38, 39, 40], [27, 28, 29, 30, 31, 32, 33, 34, 35, 36, 37, 38, 39, 40], [27, 28, 29, 30, 31, 32, 33, 34, 35, 36, 37, 38, 39, 40], [27, 29, 30, 31, 32, 33, 34, 35, 36, 37, 38, 39, 40], [27, 31, 32, 33, 34, 35, 36, 37, 38, 39, 40], [27, 32, 33, 34, 35, 36, 37, 38, 39, 40], [27, 33, 34, 35, 36, 37, 38, 39, 40], [27, 28, 29, 30, 31, 32, 33, 34, 35, 36, 37, 38, 39, 40], [27, 28, 29, 30, 31, 32, 33, 34, 35, 36, 37, 38, 39, 40], [27, 28, 29, 30, 31, 32, 33, 35, 36, 37, 38, 39, 40], [27, 28, 29, 30, 31, 32, 33, 37, 38, 39, 40], [27, 28, 29, 30, 31, 32, 33, 38, 39, 40], [27, 28, 29, 30, 31, 32, 33, 39, 40], [27, 40]] (by decide) ?_
  simp
  refine S 60 _ _ ?_
  simp
  refine LpW.inv (LpW.step (S 60 _ _ ?_))
  simp
  refine J.dr hF mixed 7 [[], [], [], [], [2, 3], [2, 3, 4], [0], [0, 1, 2, 3, 4, 5, 6], [0, 1, 2, 3, 4, 5, 6, 7]] [[43, 44, 45, 46, 47, 48, 49], [43, 44, 45, 46, 47, 48, 49], [43, 44, 45, 46, 47, 48, 49], [43, 44, 45, 46, 47, 48, 49], [43, 44, 47, 48, 49], [43, 44, 48, 49], [44, 45, 46, 47, 48, 49]] (by decide) ?_
  simp [hp0]
  refine S 60 _ _ ?_
  simp
  refine LpW.inv (LpW.step (S 60 _ _ ?_))
  simp
  refine J.rounds 4 (LpW.step (S 60 _ _ ?_))
  simp
  refine J.dr hF mixed 14 [[], [], [], [1], [1, 2, 3], [1, 2, 3, 4], [1, 2, 3, 4, 5], [], [], [7], [7, 8, 9], [7, 8, 9, 10], [7, 8, 9, 10, 11], [1, 2, 3, 4, 5, 6, 7, 8, 9, 10, 11, 12], [0, 1, 2, 3, 4, 5, 6, 7, 8, 9, 10, 11, 12, 13], [0, 1, 2, 3, 4, 5, 6, 7, 8, 9, 10, 11, 12, 13, 14]] [[27, 28, 29, 30, 31, 32, 33, 34, 35, 36, 37, 38, 39, 40], [27, 28, 29, 30, 31, 32, 33, 34, 35, 36, 37, 38, 39, 40], [27, 28, 29, 30, 31, 32, 33, 34, 35, 36, 37, 38, 39, 40], [27, 29, 30, 31, 32, 33, 34, 35, 36, 37, 38, 39, 40], [27, 31, 32, 33, 34, 35, 36, 37, 38, 39, 40], [27, 32, 33, 34, 35, 36, 37, 38, 39, 40], [27, 33, 34, 35, 36, 37, 38, 39, 40], [27, 28, 29, 30, 31, 32, 33, 34, 35, 36, 37, 38, 39, 40], [27, 28, 29, 30, 31, 32, 33, 34, 35, 36, 37, 38, 39, 40], [27, 28, 29, 30, 31, 32, 33, 35, 36, 37, 38, 39, 40], [27, 28, 29, 30, 31, 32, 33, 37, 38, 39, 40], [27, 28, 29, 30, 31, 32, 33, 38, 39, 40], [27, 28, 29, 30, 31, 32, 33, 39, 40], [27, 40]] (by decide) ?_
  simp
  refine S 60 _ _ ?_
  simp
  refine LpW.inv (LpW.step (S 60 _ _ ?_))
  simp
  refine J.dr hF mixed 14 [[], [], [], [1], [1, 2, 3], [1, 2, 3, 4], [1, 2, 3, 4, 5], [], [], [7], [7, 8, 9], [7, 8, 9, 10], [7, 8, 9, 10, 11], [1, 2, 3, 4, 5, 6, 7, 8, 9, 10, 11, 12], [0, 1, 2, 3, 4, 5, 6, 7, 8, 9, 10, 11, 12, 13], [0, 1, 2, 3, 4, 5, 6, 7, 8, 9, 10, 11, 12, 13, 14]] [[27, 28, 29, 30, 31, 32, 33, 34, 35, 36, 37, 38, 39, 40], [27, 28, 29, 30, 31, 32, 33, 34, 35, 36, 37, 38, 39, 40], [27, 28, 29, 30, 31, 32, 33, 34, 35, 36, 37, 38, 39, 40], [27, 29, 30, 31, 32, 33, 34, 35, 36, 37, 38, 39, 40], [27, 31, 32, 33, 34, 35, 36, 37, 38, 39, 40], [27, 32, 33, 34, 35, 36, 37, 38, 39, 40], [27, 33, 34, 35, 36, 37, 38, 39, 40], [27, 28, 29, 30, 31, 32, 33, 34, 35, 36, 37, 38, 39, 40], [27, 28, 29, 30, 31, 32, 33, 34, 35, 36, 37, 38, 39, 40], [27, 28, 29, 30, 31, 32, 33, 35, 36, 37, 38, 39, 40], [27, 28, 29, 30, 31, 32, 33, 37, 38, 39, 40], [27, 28, 29, 30, 31, 32, 33, 38, 39, 40], [27, 28, 29, 30, 31, 32, 33, 39, 40], [27, 40]] (by decide) ?_
  simp
  refine S 60 _ _ ?_
  simp
  refine LpW.inv (LpW.step (S 60 _ _ ?_))
  simp
  refine J.dr hF mixed 14 [[], [], [], [1], [1, 2, 3], [1, 2, 3, 4], [1, 2, 3, 4, 5], [], [], [7], [7, 8, 9], [7, 8, 9, 10], [7, 8, 9, 10, 11], [1, 2, 3, 4, 5, 6, 7, 8, 9, 10, 11, 12], [0, 1, 2, 3, 4, 5, 6, 7, 8, 9, 10, 11, 12, 13], [0, 1, 2, 3, 4, 5, 6, 7, 8, 9, 10, 11, 12, 13, 14]] [[27, 28, 29, 30, 31, 32, 33, 34, 35, 36, 37, 38, 39, 40], [27, 28, 29, 30, 31, 32, 33, 34, 35, 36, 37, 38, 39, 40], [27, 28, 29, 30, 31, 32, 33, 34, 35, 36, 37, 38, 39, 40], [27, 29, 30, 31, 32, 33, 34, 35, 36, 37, 38, 39, 40], [27, 31, 32, 33, 34, 35, 36, 37, 38, 39, 40], [27, 32, 33, 34, 35, 36, 37, 38, 39, 40], [27, 33, 34, 35, 36, 37, 38, 39, 40], [27, 28, 29, 30, 31, 32, 33, 34, 35, 36, 37, 38, 39, 40], [27, 28, 29, 30, 31, 32, 33, 34, 35, 36, 37, 38, 39, 40], [27, 28, 29, 30, 31, 32, 33, 35, 36, 37, 38, 39, 40], [27, 28, 29, 30, 31, 32, 33, 37, 38, 39, 40], [27, 28, 29, 30, 31, 32, 33, 38, 39, 40], [27, 28, 29, 30, 31, 32, 33, 39, 40], [27, 40]] (by decide) ?_
  simp
  refine S 60 _ _ ?_
  simp
  refine LpW.inv (LpW.step (S 60 _ _ ?_))
  simp
  refine J.dr hF mixed 7 [[], [], [], [], [2, 3], [2, 3, 4], [0], [0, 1, 2, 3, 4, 5, 6], [0, 1, 2, 3, 4, 5, 6, 7]] [[43, 44, 45, 46, 47, 48, 49], [43, 44, 45, 46, 47, 48, 49], [43, 44, 45, 46, 47, 48, 49], [43, 44, 45, 46, 47, 48, 49], [43, 44, 47, 48, 49], [43, 44, 48, 49], [44, 45, 46, 47, 48, 49]] (by decide) ?_
  simp [hp0]
  refine S 60 _ _ ?_
  simp
  refine LpW.inv (LpW.step (S 60 _ _ ?_))
  simp
  refine J.rounds 4 (LpW.step (S 60 _ _ ?_))
  simp
  refine J.dr hF mixed 14 [[], [], [], [1], [1, 2, 3], [1, 2, 3, 4], [1, 2, 3, 4, 5], [], [], [7], [7, 8, 9], [7, 8, 9, 10], [7, 8, 9, 10, 11], [1, 2, 3, 4, 5, 6, 7, 8, 9, 10, 11, 12], [0, 1, 2, 3, 4, 5, 6, 7, 8, 9, 10, 11, 12, 13], [0, 1, 2, 3, 4, 5, 6, 7, 8, 9, 10, 11, 12, 13, 14]] [[27, 28, 29, 30, 31, 32, 33, 34, 35, 36, 37, 38, 39, 40], [27, 28, 29, 30, 31, 32, 33, 34, 35, 36, 37, 38, 39, 40], [27, 28, 29, 30, 31, 32, 33, 34, 35, 36, 37, 38, 39, 40], [27, 29, 30, 31, 32, 33, 34, 35, 36, 37, 38, 39, 40], [27, 31, 32, 33, 34, 35, 36, 37, 38, 39, 40], [27, 32, 33, 34, 35, 36, 37, 38, 39, 40], [27, 33, 34, 35, 36, 37, 38, 39, 40], [27, 28, 29, 30, 31, 32, 33, 34, 35, 36, 37, 38, 39, 40], [27, 28, 29, 30, 31, 32, 33, 34, 35, 36, 37, 38, 39, 40], [27, 28, 29, 30, 31, 32, 33, 35, 36, 37, 38, 39, 40], [27, 28, 29, 30, 31, 32, 33, 37, 38, 39, 40], [27, 28, 29, 30, 31, 32, 33, 38, 39, 40], [27, 28, 29, 30, 31, 32, 33, 39, 40], [27, 40]] (by decide) ?_
  simp
  refine S 60 _ _ ?_
  simp
  refine LpW.inv (LpW.step (S 60 _ _ ?_))
  simp
  refine J.dr hF mixed 14 [[], [], [], [1], [1, 2, 3], [1, 2, 3, 4], [1, 2, 3, 4, 5], [], [], [7], [7, 8, 9], [7, 8, 9, 10], [7, 8, 9, 10, 11], [1, 2, 3, 4, 5, 6, 7, 8, 9, 10, 11, 12], [0, 1, 2, 3, 4, 5, 6, 7, 8, 9, 10, 11, 12, 13], [0, 1, 2, 3, 4, 5, 6, 7, 8, 9, 10, 11, 12, 13, 14]] [[27, 28, 29, 30, 31, 32, 33, 34, 35, 36, 37, 38, 39, 40], [27, 28, 29, 30, 31, 32, 33, 34, 35, 36, 37, 38, 39, 40], [27, 28, 29, 30, 31, 32, 33, 34, 35, 36, 37, 38, 39, 40], [27, 29, 30, 31, 32, 33, 34, 35, 36, 37, 38, 39, 40], [27, 31, 32, 33, 34, 35, 36, 37, 38, 39, 40], [27, 32, 33, 34, 35, 36, 37, 38, 39, 40], [27, 33, 34, 35, 36, 37, 38, 39, 40], [27, 28, 29, 30, 31, 32, 33, 34, 35, 36, 37, 38, 39, 40], [27, 28, 29, 30, 31, 32, 33, 34, 35, 36, 37, 38, 39, 40], [27, 28, 29, 30, 31, 32, 33, 35, 36, 37, 38, 39, 40], [27, 28, 29, 30, 31, 32, 33, 37, 38, 39, 40], [27, 28, 29, 30, 31, 32, 33, 38, 39, 40], [27, 28, 29, 30, 31, 32, 33, 39, 40], [27, 40]] (by decide) ?_
  simp
  refine S 60 _ _ ?_
  simp
  refine LpW.inv (LpW.step (S 60 _ _ ?_))
  simp
  refine J.dr hF mixed 14 [[], [], [], [1], [1, 2, 3], [1, 2, 3, 4], [1, 2, 3, 4, 5], [], [], [7], [7, 8, 9], [7, 8, 9, 10], [7, 8, 9, 10, 11], [1, 2, 3, 4, 5, 6, 7, 8, 9, 10, 11, 12], [0, 1, 2, 3, 4, 5, 6, 7, 8, 9, 10, 11, 12, 13], [0, 1, 2, 3, 4, 5, 6, 7, 8, 9, 10, 11, 12, 13, 14]] [[27, 28, 29, 30, 31, 32, 33, 34, 35, 36, 37, 38, 39, 40], [27, 28, 29, 30, 31, 32, 33, 34, 35, 36, 37, 38, 39, 40], [27, 28, 29, 30, 31, 32, 33, 34, 35, 36, 37, 38, 39, 40], [27, 29, 30, 31, 32, 33, 34, 35, 36, 37, 38, 39, 40], [27, 31, 32, 33, 34, 35, 36, 37, 38, 39, 40], [27, 32, 33, 34, 35, 36, 37, 38, 39, 40], [27, 33, 34, 35, 36, 37, 38, 39, 40], [27, 28, 29, 30, 31, 32, 33, 34, 35, 36, 37, 38, 39, 40], [27, 28, 29, 30, 31, 32, 33, 34, 35, 36, 37, 38, 39, 40], [27, 28, 29, 30, 31, 32, 33, 35, 36, 37, 38, 39, 40], [27, 28, 29, 30, 31, 32, 33, 37, 38, 39, 40], [27, 28, 29, 30, 31, 32, 33, 38, 39, 40], [27, 28, 29, 30, 31, 32, 33, 39, 40], [27, 40]] (by decide) ?_
  simp
  refine S 60 _ _ ?_
  simp
  refine LpW.inv (LpW.step (S 60 _ _ ?_))
  simp
  refine J.dr hF mixed 7 [[], [], [], [], [2, 3], [2, 3, 4], [0], [0, 1, 2, 3, 4, 5, 6], [0, 1, 2, 3, 4, 5, 6, 7]] [[43, 44, 45, 46, 47, 48, 49], [43, 44, 45, 46, 47, 48, 49], [43, 44, 45, 46, 47, 48, 49], [43, 44, 45, 46, 47, 48, 49], [43, 44, 47, 48, 49], [43, 44, 48, 49], [44, 45, 46, 47, 48, 49]] (by decide) ?_
  simp [hp0]
  refine S 60 _ _ ?_
  simp
  refine LpW.inv (LpW.step (S 60 _ _ ?_))
  simp
  refine LpW.inv (LpW.step (S 60 _ _ ?_))
  simp
  refine J.rounds 4 (LpW.step (S 60 _ _ ?_))
  simp
  refine J.rounds 4 (LpW.step (S 60 _ _ ?_))
  simp
  refine J.dr hF mixed 14 [[], [], [], [1], [1, 2, 3], [1, 2, 3, 4], [1, 2, 3, 4, 5], [], [], [7], [7, 8, 9], [7, 8, 9, 10], [7, 8, 9, 10, 11], [1, 2, 3, 4, 5, 6, 7, 8, 9, 10, 11, 12], [0, 1, 2, 3, 4, 5, 6, 7, 8, 9, 10, 11, 12, 13], [0, 1, 2, 3, 4, 5, 6, 7, 8, 9, 10, 11, 12, 13, 14]] [[27, 28, 29, 30, 31, 32, 33, 34, 35, 36, 37, 38, 39, 40], [27, 28, 29, 30, 31, 32, 33, 34, 35, 36, 37, 38, 39, 40], [27, 28, 29, 30, 31, 32, 33, 34, 35, 36, 37, 38, 39, 40], [27, 29, 30, 31, 32, 33, 34, 35, 36, 37, 38, 39, 40], [27, 31, 32, 33, 34, 35, 36, 37, 38, 39, 40], [27, 32, 33, 34, 35, 36, 37, 38, 39, 40], [27, 33, 34, 35, 36, 37, 38, 39, 40], [27, 28, 29, 30, 31, 32, 33, 34, 35, 36, 37, 38, 39, 40], [27, 28, 29, 30, 31, 32, 33, 34, 35, 36, 37, 38, 39, 40], [27, 28, 29, 30, 31, 32, 33, 35, 36, 37, 38, 39, 40], [27, 28, 29, 30, 31, 32, 33, 37, 38, 39, 40], [27, 28, 29, 30, 31, 32, 33, 38, 39, 40], [27, 28, 29, 30, 31, 32, 33, 39, 40], [27, 40]] (by decide) ?_
  simp
  refine S 60 _ _ ?_
  simp
  refine LpW.inv (LpW.step (S 60 _ _ ?_))
  simp
  refine J.dr hF mixed 14 [[], [], [], [1], [1, 2, 3], [1, 2, 3, 4], [1, 2, 3, 4, 5], [], [], [7], [7, 8, 9], [7, 8, 9, 10], [7, 8, 9, 10, 11], [1, 2, 3, 4, 5, 6, 7, 8, 9, 10, 11, 12], [0, 1, 2, 3, 4, 5, 6, 7, 8, 9, 10, 11, 12, 13], [0, 1, 2, 3, 4, 5, 6, 7, 8, 9, 10, 11, 12, 13, 14]] [[27, 28, 29, 30, 31, 32, 33, 34, 35, 36, 37, 38, 39, 40], [27, 28, 29, 30, 31, 32, 33, 34, 35, 36, 37, 38, 39, 40], [27, 28, 29, 30, 31, 32, 33, 34, 35, 36, 37, 38, 39, 40], [27, 29, 30, 31, 32, 33, 34, 35, 36, 37, 38, 39, 40], [27, 31, 32, 33, 34, 35, 36, 37, 38, 39, 40], [27, 32, 33, 34, 35, 36, 37, 38, 39, 40], [27, 33, 34, 35, 36, 37, 38, 39, 40], [27, 28, 29, 30, 31, 32, 33, 34, 35, 36, 37, 38, 39, 40], [27, 28, 29, 30, 31, 32, 33, 34, 35, 36, 37, 38, 39, 40], [27, 28, 29, 30, 31, 32, 33, 35, 36, 37, 38, 39, 40], [27, 28, 29, 30, 31, 32, 33, 37, 38, 39, 40], [27, 28, 29, 30, 31, 32, 33, 38, 39, 40], [27, 28, 29, 30, 31, 32, 33, 39, 40], [27, 40]] (by decide) ?_
  simp
  refine S 60 _ _ ?_
  simp
  refine LpW.inv (LpW.step (S 60 _ _ ?_))
  simp
  refine J.dr hF mixed 14 [[], [], [], [1], [1, 2, 3], [1, 2, 3, 4], [1, 2, 3, 4, 5], [], [], [7], [7, 8, 9], [7, 8, 9, 10], [7, 8, 9, 10, 11], [1, 2, 3, 4, 5, 6, 7, 8, 9, 10, 11, 12], [0, 1, 2, 3, 4, 5, 6, 7, 8, 9, 10, 11, 12, 13], [0, 1, 2, 3, 4, 5, 6, 7, 8, 9, 10, 11, 12, 13, 14]] [[27, 28, 29, 30, 31, 32, 33, 34, 35, 36, 37, 38, 39, 40], [27, 28, 29, 30, 31, 32, 33, 34, 35, 36, 37, 38, 39, 40], [27, 28, 29, 30, 31, 32, 33, 34, 35, 36, 37, 38, 39, 40], [27, 29, 30, 31, 32, 33, 34, 35, 36, 37, 38, 39, 40], [27, 31, 32, 33, 34, 35, 36, 37, 38, 39, 40], [27, 32, 33, 34, 35, 36, 37, 38, 39, 40], [27, 33, 34, 35, 36, 37, 38, 39, 40], [27, 28, 29, 30, 31, 32, 33, 34, 35, 36, 37, 38, 39, 40], [27, 28, 29, 30, 31, 32, 33, 34, 35, 36, 37, 38, 39, 40], [27, 28, 29, 30, 31, 32, 33, 35, 36, 37, 38, 39, 40], [27, 28, 29, 30, 31, 32, 33, 37, 38, 39, 40], [27, 28, 29, 30, 31, 32, 33, 38, 39, 40], [27, 28, 29, 30, 31, 32, 33, 39, 40], [27, 40]] (by decide) ?_
  simp
  refine S 60 _ _ ?_
  simp
  refine LpW.inv (LpW.step (S 60 _ _ ?_))
  simp
  refine J.dr hF mixed 7 [[], [], [], [], [2, 3], [2, 3, 4], [0], [0, 1, 2, 3, 4, 5, 6], [0, 1, 2, 3, 4, 5, 6, 7]] [[43, 44, 45, 46, 47, 48, 49], [43, 44, 45, 46, 47, 48, 49], [43, 44, 45, 46, 47, 48, 49], [43, 44, 45, 46, 47, 48, 49], [43, 44, 47, 48, 49], [43, 44, 48, 49], [44, 45, 46, 47, 48, 49]] (by decide) ?_
  simp [hp0]
  refine S 60 _ _ ?_
  simp
  refine LpW.inv (LpW.step (S 60 _ _ ?_))
  simp
  refine J.rounds 4 (LpW.step (S 60 _ _ ?_))
  simp
  refine J.dr hF mixed 14 [[], [], [], [1], [1, 2, 3], [1, 2, 3, 4], [1, 2, 3, 4, 5], [], [], [7], [7, 8, 9], [7, 8, 9, 10], [7, 8, 9, 10, 11], [1, 2, 3, 4, 5, 6, 7, 8, 9, 10, 11, 12], [0, 1, 2, 3, 4, 5, 6, 7, 8, 9, 10, 11, 12, 13], [0, 1, 2, 3, 4, 5, 6, 7, 8, 9, 10, 11, 12, 13, 14]] [[27, 28, 29, 30, 31, 32, 33, 34, 35, 36, 37, 38, 39, 40], [27, 28, 29, 30, 31, 32, 33, 34, 35, 36, 37, 38, 39, 40], [27, 28, 29, 30, 31, 32, 33, 34, 35, 36, 37, 38, 39, 40], [27, 29, 30, 31, 32, 33, 34, 35, 36, 37, 38, 39, 40], [27, 31, 32, 33, 34, 35, 36, 37, 38, 39, 40], [27, 32, 33, 34, 35, 36, 37, 38, 39, 40], [27, 33, 34, 35, 36, 37, 38, 39, 40], [27, 28, 29, 30, 31, 32, 33, 34, 35, 36, 37, 38, 39, 40], [27, 28, 29, 30, 31, 32, 33, 34, 35, 36, 37, 38, 39, 40], [27, 28, 29, 30, 31, 32, 33, 35, 36, 37, 38, 39, 40], [27, 28, 29, 30, 31, 32, 33, 37, 38, 39, 40], [27, 28, 29, 30, 31, 32, 33, 38, 39, 40], [27, 28, 29, 30, 31, 32, 33, 39, 40], [27, 40]] (by decide) ?_
  simp
  refine S 60 _ _ ?_
  simp
  refine LpW.inv (LpW.step (S 60 _ _ ?_))
  simp
  refine J.dr hF mixed 14 [[], [], [], [1], [1, 2, 3], [1, 2, 3, 4], [1, 2, 3, 4, 5], [], [], [7], [7, 8, 9], [7, 8, 9, 10], [7, 8, 9, 10, 11], [1, 2, 3, 4, 5, 6, 7, 8, 9, 10, 11, 12], [0, 1, 2, 3, 4, 5, 6, 7, 8, 9, 10, 11, 12, 13], [0, 1, 2, 3, 4, 5, 6, 7, 8, 9, 10, 11, 12, 13, 14]] [[27, 28, 29, 30, 31, 32, 33, 34, 35, 36, 37, 38, 39, 40], [27, 28, 29, 30, 31, 32, 33, 34, 35, 36, 37, 38, 39, 40], [27, 28, 29, 30, 31, 32, 33, 34, 35, 36, 37, 38, 39, 40], [27, 29, 30, 31, 32, 33, 34, 35, 36, 37, 38, 39, 40], [27, 31, 32, 33, 34, 35, 36, 37, 38, 39, 40], [27, 32, 33, 34, 35, 36, 37, 38, 39, 40], [27, 33, 34, 35, 36, 37, 38, 39, 40], [27, 28, 29, 30, 31, 32, 33, 34, 35, 36, 37, 38, 39, 40], [27, 28, 29, 30, 31, 32, 33, 34, 35, 36, 37, 38, 39, 40], [27, 28, 29, 30, 31, 32, 33, 35, 36, 37, 38, 39, 40], [27, 28, 29, 30, 31, 32, 33, 37, 38, 39, 40], [27, 28, 29, 30, 31, 32, 33, 38, 39, 40], [27, 28, 29, 30, 31, 32, 33, 39, 40], [27, 40]] (by decide) ?_
  simp
  refine S 60 _ _ ?_
  simp
  refine LpW.inv (LpW.step (S 60 _ _ ?_))
  simp
  refine J.dr hF mixed 14 [[], [], [], [1], [1, 2, 3], [1, 2, 3, 4], [1, 2, 3, 4, 5], [], [], [7], [7, 8, 9], [7, 8, 9, 10], [7, 8, 9, 10, 11], [1, 2, 3, 4, 5, 6, 7, 8, 9, 10, 11, 12], [0, 1, 2, 3, 4, 5, 6, 7, 8, 9, 10, 11, 12, 13], [0, 1, 2, 3, 4, 5, 6, 7, 8, 9, 10, 11, 12, 13, 14]] [[27, 28, 29, 30, 31, 32, 33, 34, 35, 36, 37, 38, 39, 40], [27, 28, 29, 30, 31, 32, 33, 34, 35, 36, 37, 38, 39, 40], [27, 28, 29, 30, 31, 32, 33, 34, 35, 36, 37, 38, 39, 40], [27, 29, 30, 31, 32, 33, 34, 35, 36, 37, 38, 39, 40], [27, 31, 32, 33, 34, 35, 36, 37, 38, 39, 40], [27, 32, 33, 34, 35, 36, 37, 38, 39, 40], [27, 33, 34, 35, 36, 37, 38, 39, 40], [27, 28, 29, 30, 31, 32, 33, 34, 35, 36, 37, 38, 39, 40], [27, 28, 29, 30, 31, 32, 33, 34, 35, 36, 37, 38, 39, 40], [27, 28, 29, 30, 31, 32, 33, 35, 36, 37, 38, 39, 40], [27, 28, 29, 30, 31, 32, 33, 37, 38, 39, 40], [27, 28, 29, 30, 31, 32, 33, 38, 39, 40], [27, 28, 29, 30, 31, 32, 33, 39, 40], [27, 40]] (by decide) ?_
  simp
  refine S 60 _ _ ?_
  simp
  refine LpW.inv (LpW.step (S 60 _ _ ?_))
  simp
  refine J.dr hF mixed 7 [[], [], [], [], [2, 3], [2, 3, 4], [0], [0, 1, 2, 3, 4, 5, 6], [0, 1, 2, 3, 4, 5, 6, 7]] [[43, 44, 45, 46, 47, 48, 49], [43, 44, 45, 46, 47, 48, 49], [43, 44, 45, 46, 47, 48, 49], [43, 44, 45, 46, 47, 48, 49], [43, 44, 47, 48, 49], [43, 44, 48, 49], [44, 45, 46, 47, 48, 49]] (by decide) ?_
  simp [hp0]
  refine S 60 _ _ ?_
  simp
  refine LpW.inv (LpW.step (S 60 _ _ ?_))
  simp
  refine J.rounds 4 (LpW.step (S 60 _ _ ?_))
  simp
  refine J.dr hF mixed 14 [[], [], [], [1], [1, 2, 3], [1, 2, 3, 4], [1, 2, 3, 4, 5], [], [], [7], [7, 8, 9], [7, 8, 9, 10], [7, 8, 9, 10, 11], [1, 2, 3, 4, 5, 6, 7, 8, 9, 10, 11, 12], [0, 1, 2, 3, 4, 5, 6, 7, 8, 9, 10, 11, 12, 13], [0, 1, 2, 3, 4, 5, 6, 7, 8, 9, 10, 11, 12, 13, 14]] [[27, 28, 29, 30, 31, 32, 33, 34, 35, 36, 37, 38, 39, 40], [27, 28, 29, 30, 31, 32, 33, 34, 35, 36, 37, 38, 39, 40], [27, 28, 29, 30, 31, 32, 33, 34, 35, 36, 37, 38, 39, 40], [27, 29, 30, 31, 32, 33, 34, 35, 36, 37, 38, 39, 40], [27, 31, 32, 33, 34, 35, 36, 37, 38, 39, 40], [27, 32, 33, 34, 35, 36, 37, 38, 39, 40], [27, 33, 34, 35, 36, 37, 38, 39, 40], [27, 28, 29, 30, 31, 32, 33, 34, 35, 36, 37, 38, 39, 40], [27, 28, 29, 30, 31, 32, 33, 34, 35, 36, 37, 38, 39, 40], [27, 28, 29, 30, 31, 32, 33, 35, 36, 37, 38, 39, 40], [27, 28, 29, 30, 31, 32, 33, 37, 38, 39, 40], [27, 28, 29, 30, 31, 32, 33, 38, 39, 40], [27, 28, 29, 30, 31, 32, 33, 39, 40], [27, 40]] (by decide) ?_
  simp
  refine S 60 _ _ ?_
  simp
  refine LpW.inv (LpW.step (S 60 _ _ ?_))
  simp
  refine J.dr hF mixed 14 [[], [], [], [1], [1, 2, 3], [1, 2, 3, 4], [1, 2, 3, 4, 5], [], [], [7], [7, 8, 9], [7, 8, 9, 10], [7, 8, 9, 10, 11], [1, 2, 3, 4, 5, 6, 7, 8, 9, 10, 11, 12], [0, 1, 2, 3, 4, 5, 6, 7, 8, 9, 10, 11, 12, 13], [0, 1, 2, 3, 4, 5, 6, 7, 8, 9, 10, 11, 12, 13, 14]] [[27, 28, 29, 30, 31, 32, 33, 34, 35, 36, 37, 38, 39, 40], [27, 28, 29, 30, 31, 32, 33, 34, 35, 36, 37, 38, 39, 40], [27, 28, 29, 30, 31, 32, 33, 34, 35, 36, 37, 38, 39, 40], [27, 29, 30, 31, 32, 33, 34, 35, 36, 37, 38, 39, 40], [27, 31, 32, 33, 34, 35, 36, 37, 38, 39, 40], [27, 32, 33, 34, 35, 36, 37, 38, 39, 40], [27, 33, 34, 35, 36, 37, 38, 39, 40], [27, 28, 29, 30, 31, 32, 33, 34, 35, 36, 37, 38, 39, 40], [27, 28, 29, 30, 31, 32, 33, 34, 35, 36, 37, 38, 39, 40], [27, 28, 29, 30, 31, 32, 33, 35, 36, 37, 38, 39, 40], [27, 28, 29, 30, 31, 32, 33, 37, 38, 39, 40], [27, 28, 29, 30, 31, 32, 33, 38, 39, 40], [27, 28, 29, 30, 31, 32, 33, 39, 40], [27, 40]] (by decide) ?_
  simp
  refine S 60 _ _ ?_
  simp
  refine LpW.inv (LpW.step (S 60 _ _ ?_))
  simp
  refine J.dr hF mixed 14 [[], [], [], [1], [1, 2, 3], [1, 2, 3, 4], [1, 2, 3, 4, 5], [], [], [7], [7, 8, 9], [7, 8, 9, 10], [7, 8, 9, 10, 11], [1, 2, 3, 4, 5, 6, 7, 8, 9, 10, 11, 12], [0, 1, 2, 3, 4, 5, 6, 7, 8, 9, 10, 11, 12, 13], [0, 1, 2, 3, 4, 5, 6, 7, 8, 9, 10, 11, 12, 13, 14]] [[27, 28, 29, 30, 31, 32, 33, 34, 35, 36, 37, 38, 39, 40], [27, 28, 29, 30, 31, 32, 33, 34, 35, 36, 37, 38, 39, 40], [27, 28, 29, 30, 31, 32, 33, 34, 35, 36, 37, 38, 39, 40], [27, 29, 30, 31, 32, 33, 34, 35, 36, 37, 38, 39, 40], [27, 31, 32, 33, 34, 35, 36, 37, 38, 39, 40], [27, 32, 33, 34, 35, 36, 37, 38, 39, 40], [27, 33, 34, 35, 36, 37, 38, 39, 40], [27, 28, 29, 30, 31, 32, 33, 34, 35, 36, 37, 38, 39, 40], [27, 28, 29, 30, 31, 32, 33, 34, 35, 36, 37, 38, 39, 40], [27, 28, 29, 30, 31, 32, 33, 35, 36, 37, 38, 39, 40], [27, 28, 29, 30, 31, 32, 33, 37, 38, 39, 40], [27, 28, 29, 30, 31, 32, 33, 38, 39, 40], [27, 28, 29, 30, 31, 32, 33, 39, 40], [27, 40]] (by decide) ?_
  simp
  refine S 60 _ _ ?_
  simp
  refine LpW.inv (LpW.step (S 60 _ _ ?_))
  simp
  refine J.dr hF mixed 7 [[], [], [], [], [2, 3], [2, 3, 4], [0], [0, 1, 2, 3, 4, 5, 6], [0, 1, 2, 3, 4, 5, 6, 7]] [[43, 44, 45, 46, 47, 48, 49], [43, 44, 45, 46, 47, 48, 49], [43, 44, 45, 46, 47, 48, 49], [43, 44, 45, 46, 47, 48, 49], [43, 44, 47, 48, 49], [43, 44, 48, 49], [44, 45, 46, 47, 48, 49]] (by decide) ?_
  simp [hp0]
  refine S 60 _ _ ?_
  simp
  refine LpW.inv (LpW.step (S 60 _ _ ?_))
  simp
  refine LpW.inv (LpW.step (S 60 _ _ ?_))
  simp
  simp [timesM, mkM, sumN, Mx.at, bytm hp, u8w3 hp]

set_option maxRecDepth 20000 in
set_option maxHeartbeats 4000000 in
theorem l02Times_ok1 (p : Int) (g h : Mx) (hp : 2 ≤ p ∧ p ≤ 13) : CallOK Go.Proofs.Try.prog 33 [.one (i64 p), .one (i64 1), .agg g.ds, .agg h.ds] (.agg (timesM p 1 g h).ds) := by
  have hF := fnOk 54 [.cell 8 57]
  refine callOK hF 60 Go.Proofs.Try.func33 rfl rfl rfl (by decide) (by simp) rfl ?_
  intro w0 hw
  have S := @vc_sound w0 _ hF ⟨(.agg (timesM p 1 g h).ds), []⟩ Go.Proofs.Try.f33 rfl (by simp)
  have hp0 : p ≠ 0 := by omega
  have hp1 : 0 < p := by omega
  simp
  refine J.rounds 4 (LpW.step (S 60 _ _ ?_))
  simp
  refine J.rounds 4 (LpW.step (S 60 _ _ ?_))
  simp
  refine J.rounds 4 (LpW.step (S 60 _ _ ?_))
  simp
  refine J.dr hF mixed 14 [[], [], [], [1], [1, 2, 3], [1, 2, 3, 4], [1, 2, 3, 4, 5], [], [], [7], [7, 8, 9], [7, 8, 9, 10], [7, 8, 9, 10, 11], [1, 2, 3, 4, 5, 6, 7, 8, 9, 10, 11, 12], [0, 1, 2, 3, 4, 5, 6, 7, 8, 9, 10, 11, 12, 13], [0, 1, 2, 3, 4, 5, 6, 7, 8, 9, 10, 11, 12, 13, 14]] [[30, 31, 32, 33, 34, 35, 36, 37, 38, 39, 40, 41, 42, 43], [30, 31, 32, 33, 34, 35, 36, 37, 38, 39, 40, 41, 42, 43], [30, 31, 32, 33, 34, 35, 36, 37, 38, 39, 40, 41, 42, 43], [30, 32, 33, 34, 35, 36, 37, 38, 39, 40, 41, 42, 43], [30, 34, 35, 36, 37, 38, 39, 40, 41, 42, 43], [30, 35, 36, 37, 38, 39, 40, 41, 42, 43], [30, 36, 37, 38, 39, 40, 41, 42, 43], [30, 31, 32, 33, 34, 35, 36, 37, 38, 39, 40, 41, 42, 43], [30, 31, 32, 33, 34, 35, 36, 37, 38, 39, 40, 41, 42, 43], [30, 31, 32, 33, 34, 35, 36, 38, 39, 40, 41, 42, 43], [30, 31, 32, 33, 34, 35, 36, 40, 41, 42, 43], [30, 31, 32, 33, 34, 35, 36, 41, 42, 43], [30, 31, 32, 33, 34, 35, 36, 42, 43], [30, 43]] (by decide) ?_
  simp
  refine S 60 _ _ ?_
  simp
  refine LpW.inv (LpW.step (S 60 _ _ ?_))
  simp
  refine J.dr hF mixed 7 [[], [], [], [], [2, 3], [2, 3, 4], [0], [0, 1, 2, 3, 4, 5, 6], [0, 1, 2, 3, 4, 5, 6, 7]] [[45, 46, 47, 48, 49, 50, 51], [45, 46, 47, 48, 49, 50, 51], [45, 46, 47, 48, 49, 50, 51], [45, 46, 47, 48, 49, 50, 51], [45, 46, 49, 50, 51], [45, 46, 50, 51], [46, 47, 48, 49, 50, 51]] (by decide) ?_
  simp [hp0]
  refine S 60 _ _ ?_
  simp
  refine LpW.inv (LpW.step (S 60 _ _ ?_))
  simp
  refine LpW.inv (LpW.step (S 60 _ _ ?_))
  simp
  simp [timesM, mkM, sumN, Mx.at, bytm hp, u8w1 hp]

set_option maxRecDepth 20000 in
set_option maxHeartbeats 4000000 in
theorem l02Times_ok2 (p : Int) (g h : Mx) (hp : 2 ≤ p ∧ p ≤ 13) : CallOK Go.Proofs.Try.prog 33 [.one (i64 p), .one (i64 2), .agg g.ds, .agg h.ds] (.agg (timesM p 2 g h).ds) := by
  have hF := fnOk 54 [.cell 8 57]
  refine callOK hF 60 Go.Proofs.Try.func33 rfl rfl rfl (by decide) (by simp) rfl ?_
  intro w0 hw
  have S := @vc_sound w0 _ hF ⟨(.agg (timesM p 2 g h).ds), []⟩ Go.Proofs.Try.f33 rfl (by simp)
  have hp0 : p ≠ 0 := by omega
  have hp1 : 0 < p := by omega
  simp
  refine J.rounds 4 (LpW.step (S 60 _ _ ?_))
  simp
  refine J.rounds 4 (LpW.step (S 60 _ _ ?_))
  simp
  refine J.rounds 4 (LpW.step (S 60 _ _ ?_))
  simp
  refine J.dr hF mixed 14 [[], [], [], [1], [1, 2, 3], [1, 2, 3, 4], [1, 2, 3, 4, 5], [], [], [7], [7, 8, 9], [7, 8, 9, 10], [7, 8, 9, 10, 11], [1, 2, 3, 4, 5, 6, 7, 8, 9, 10, 11, 12], [0, 1, 2, 3, 4, 5, 6, 7, 8, 9, 10, 11, 12, 13], [0, 1, 2, 3, 4, 5, 6, 7, 8, 9, 10, 11, 12, 13, 14]] [[30, 31, 32, 33, 34, 35, 36, 37, 38, 39, 40, 41, 42, 43], [30, 31, 32, 33, 34, 35, 36, 37, 38, 39, 40, 41, 42, 43], [30, 31, 32, 33, 34, 35, 36, 37, 38, 39, 40, 41, 42, 43], [30, 32, 33, 34, 35, 36, 37, 38, 39, 40, 41, 42, 43], [30, 34, 35, 36, 37, 38, 39, 40, 41, 42, 43], [30, 35, 36, 37, 38, 39, 40, 41, 42, 43], [30, 36, 37, 38, 39, 40, 41, 42, 43], [30, 31, 32, 33, 34, 35, 36, 37, 38, 39, 40, 41, 42, 43], [30, 31, 32, 33, 34, 35, 36, 37, 38, 39, 40, 41, 42, 43], [30, 31, 32, 33, 34, 35, 36, 38, 39, 40, 41, 42, 43], [30, 31, 32, 33, 34, 35, 36, 40, 41, 42, 43], [30, 31, 32, 33, 34, 35, 36, 41, 42, 43], [30, 31, 32, 33, 34, 35, 36, 42, 43], [30, 43]] (by decide) ?_
  simp
  refine S 60 _ _ ?_
  simp
  refine LpW.inv (LpW.step (S 60 _ _ ?_))
  simp
  refine J.dr hF mixed 14 [[], [], [], [1], [1, 2, 3], [1, 2, 3, 4], [1, 2, 3, 4, 5], [], [], [7], [7, 8, 9], [7, 8, 9, 10], [7, 8, 9, 10, 11], [1, 2, 3, 4, 5, 6, 7, 8, 9, 10, 11, 12], [0, 1, 2, 3, 4, 5, 6, 7, 8, 9, 10, 11, 12, 13], [0, 1, 2, 3, 4, 5, 6, 7, 8, 9, 10, 11, 12, 13, 14]] [[30, 31, 32, 33, 34, 35, 36, 37, 38, 39, 40, 41, 42, 43], [30, 31, 32, 33, 34, 35, 36, 37, 38, 39, 40, 41, 42, 43], [30, 31, 32, 33, 34, 35, 36, 37, 38, 39, 40, 41, 42, 43], [30, 32, 33, 34, 35, 36, 37, 38, 39, 40, 41, 42, 43], [30, 34, 35, 36, 37, 38, 39, 40, 41, 42, 43], [30, 35, 36, 37, 38, 39, 40, 41, 42, 43], [30, 36, 37, 38, 39, 40, 41, 42, 43], [30, 31, 32, 33, 34, 35, 36, 37, 38, 39, 40, 41, 42, 43], [30, 31, 32, 33, 34, 35, 36, 37, 38, 39, 40, 41, 42, 43], [30, 31, 32, 33, 34, 35, 36, 38, 39, 40, 41, 42, 43], [30, 31, 32, 33, 34, 35, 36, 40, 41, 42, 43], [30, 31, 32, 33, 34, 35, 36, 41, 42, 43], [30, 31, 32, 33, 34, 35, 36, 42, 43], [30, 43]] (by decide) ?_
  simp
  refine S 60 _ _ ?_
  simp
  refine LpW.inv (LpW.step (S 60 _ _ ?_))
  simp
  refine J.dr hF mixed 7 [[], [], [], [], [2, 3], [2, 3, 4], [0], [0, 1, 2, 3, 4, 5, 6], [0, 1, 2, 3, 4, 5, 6, 7]] [[45, 46, 47, 48, 49, 50, 51], [45, 46, 47, 48, 49, 50, 51], [45, 46, 47, 48, 49, 50, 51], [45, 46, 47, 48, 49, 50, 51], [45, 46, 49, 50, 51], [45, 46, 50, 51], [46, 47, 48, 49, 50, 51]] (by decide) ?_
  simp [hp0]
  refine S 60 _ _ ?_
  simp
  refine LpW.inv (LpW.step (S 60 _ _ ?_))
  simp
  refine J.rounds 4 (LpW.step (S 60 _ _ ?_))
  simp
  refine J.dr hF mixed 14 [[], [], [], [1], [1, 2, 3], [1, 2, 3, 4], [1, 2, 3, 4, 5], [], [], [7], [7, 8, 9], [7, 8, 9, 10], [7, 8, 9, 10, 11], [1, 2, 3, 4, 5, 6, 7, 8, 9, 10, 11, 12], [0, 1, 2, 3, 4, 5, 6, 7, 8, 9, 10, 11, 12, 13], [0, 1, 2, 3, 4, 5, 6, 7, 8, 9, 10, 11, 12, 13, 14]] [[30, 31, 32, 33, 34, 35, 36, 37, 38, 39, 40, 41, 42, 43], [30, 31, 32, 33, 34, 35, 36, 37, 38, 39, 40, 41, 42, 43], [30, 31, 32, 33, 34, 35, 36, 37, 38, 39, 40, 41, 42, 43], [30, 32, 33, 34, 35, 36, 37, 38, 39, 40, 41, 42, 43], [30, 34, 35, 36, 37, 38, 39, 40, 41, 42, 43], [30, 35, 36, 37, 38, 39, 40, 41, 42, 43], [30, 36, 37, 38, 39, 40, 41, 42, 43], [30, 31, 32, 33, 34, 35, 36, 37, 38, 39, 40, 41, 42, 43], [30, 31, 32, 33, 34, 35, 36, 37, 38, 39, 40, 41, 42, 43], [30, 31, 32, 33, 34, 35, 36, 38, 39, 40, 41, 42, 43], [30, 31, 32, 33, 34, 35, 36, 40, 41, 42, 43], [30, 31, 32, 33, 34, 35, 36, 41, 42, 43], [30, 31, 32, 33, 34, 35, 36, 42, 43], [30, 43]] (by decide) ?_
  simp
  refine S 60 _ _ ?_
  simp
  refine LpW.inv (LpW.step (S 60 _ _ ?_))
  simp
  refine J.dr hF mixed 14 [[], [], [], [1], [1, 2, 3], [1, 2, 3, 4], [1, 2, 3, 4, 5], [], [], [7], [7, 8, 9], [7, 8, 9, 10], [7, 8, 9, 10, 11], [1, 2, 3, 4, 5, 6, 7, 8, 9, 10, 11, 12], [0, 1, 2, 3, 4, 5, 6, 7, 8, 9, 10, 11, 12, 13], [0, 1, 2, 3, 4, 5, 6, 7, 8, 9, 10, 11, 12, 13, 14]] [[30, 31, 32, 33, 34, 35, 36, 37, 38, 39, 40, 41, 42, 43], [30, 31, 32, 33, 34, 35, 36, 37, 38, 39, 40, 41, 42, 43], [30, 31, 32, 33, 34, 35, 36, 37, 38, 39, 40, 41, 42, 43], [30, 32, 33, 34, 35, 36, 37, 38, 39, 40, 41, 42, 43], [30, 34, 35, 36, 37, 38, 39, 40, 41, 42, 43], [30, 35, 36, 37, 38, 39, 40, 41, 42, 43], [30, 36, 37, 38, 39, 40, 41, 42, 43], [30, 31, 32, 33, 34, 35, 36, 37, 38, 39, 40, 41, 42, 43], [30, 31, 32, 33, 34, 35, 36, 37, 38, 39, 40, 41, 42, 43], [30, 31, 32, 33, 34, 35, 36, 38, 39, 40, 41, 42, 43], [30, 31, 32, 33, 34, 35, 36, 40, 41, 42, 43], [30, 31, 32, 33, 34, 35, 36, 41, 42, 43], [30, 31, 32, 33, 34, 35, 36, 42, 43], [30, 43]] (by decide) ?_
  simp
  refine S 60 _ _ ?_
  simp
  refine LpW.inv (LpW.step (S 60 _ _ ?_))
  simp
  refine J.dr hF mixed 7 [[], [], [], [], [2, 3], [2, 3, 4], [0], [0, 1, 2, 3, 4, 5, 6], [0, 1, 2, 3, 4, 5, 6, 7]] [[45, 46, 47, 48, 49, 50, 51], [45, 46, 47, 48, 49, 50, 51], [45, 46, 47, 48, 49, 50, 51], [45, 46, 47, 48, 49, 50, 51], [45, 46, 49, 50, 51], [45, 46, 50, 51], [46, 47, 48, 49, 50, 51]] (by decide) ?_
  simp [hp0]
  refine S 60 _ _ ?_
  simp
  refine LpW.inv (LpW.step (S 60 _ _ ?_))
  simp
  refine LpW.inv (LpW.step (S 60 _ _ ?_))
  simp
  refine J.rounds 4 (LpW.step (S 60 _ _ ?_))
  simp
  refine J.rounds 4 (LpW.step (S 60 _ _ ?_))
  simp
  refine J.dr hF mixed 14 [[], [], [], [1], [1, 2, 3], [1, 2, 3, 4], [1, 2, 3, 4, 5], [], [], [7], [7, 8, 9], [7, 8, 9, 10], [7, 8, 9, 10, 11], [1, 2, 3, 4, 5, 6, 7, 8, 9, 10, 11, 12], [0, 1, 2, 3, 4, 5, 6, 7, 8, 9, 10, 11, 12, 13], [0, 1, 2, 3, 4, 5, 6, 7, 8, 9, 10, 11, 12, 13, 14]] [[30, 31, 32, 33, 34, 35, 36, 37, 38, 39, 40, 41, 42, 43], [30, 31, 32, 33, 34, 35, 36, 37, 38, 39, 40, 41, 42, 43], [30, 31, 32, 33, 34, 35, 36, 37, 38, 39, 40, 41, 42, 43], [30, 32, 33, 34, 35, 36, 37, 38, 39, 40, 41, 42, 43], [30, 34, 35, 36, 37, 38, 39, 40, 41, 42, 43], [30, 35, 36, 37, 38, 39, 40, 41, 42, 43], [30, 36, 37, 38, 39, 40, 41, 42, 43], [30, 31, 32, 33, 34, 35, 36, 37, 38, 39, 40, 41, 42, 43], [30, 31, 32, 33, 34, 35, 36, 37, 38, 39, 40, 41, 42, 43], [30, 31, 32, 33, 34, 35, 36, 38, 39, 40, 41, 42, 43], [30, 31, 32, 33, 34, 35, 36, 40, 41, 42, 43], [30, 31, 32, 33, 34, 35, 36, 41, 42, 43], [30, 31, 32, 33, 34, 35, 36, 42, 43], [30, 43]] (by decide) ?_
  simp
  refine S 60 _ _ ?_
  simp
  refine LpW.inv (LpW.step (S 60 _ _ ?_))
  simp
  refine J.dr hF mixed 14 [[], [], [], [1], [1, 2, 3], [1, 2, 3, 4], [1, 2, 3, 4, 5], [], [], [7], [7, 8, 9], [7, 8, 9, 10], [7, 8, 9, 10, 11], [1, 2, 3, 4, 5, 6, 7, 8, 9, 10, 11, 12], [0, 1, 2, 3, 4, 5, 6, 7, 8, 9, 10, 11, 12, 13], [0, 1, 2, 3, 4, 5, 6, 7, 8, 9, 10, 11, 12, 13, 14]] [[30, 31, 32, 33, 34, 35, 36, 37, 38, 39, 40, 41, 42, 43], [30, 31, 32, 33, 34, 35, 36, 37, 38, 39, 40, 41, 42, 43], [30, 31, 32, 33, 34, 35, 36, 37, 38, 39, 40, 41, 42, 43], [30, 32, 33, 34, 35, 36, 37, 38, 39, 40, 41, 42, 43], [30, 34, 35, 36, 37, 38, 39, 40, 41, 42, 43], [30, 35, 36, 37, 38, 39, 40, 41, 42, 43], [30, 36, 37, 38, 39, 40, 41, 42, 43], [30, 31, 32, 33, 34, 35, 36, 37, 38, 39, 40, 41, 42, 43], [30, 31, 32, 33, 34, 35, 36, 37, 38, 39, 40, 41, 42, 43], [30, 31, 32, 33, 34, 35, 36, 38, 39, 40, 41, 42, 43], [30, 31, 32, 33, 34, 35, 36, 40, 41, 42, 43], [30, 31, 32, 33, 34, 35, 36, 41, 42, 43], [30, 31, 32, 33, 34, 35, 36, 42, 43], [30, 43]] (by decide) ?_
  simp
  refine S 60 _ _ ?_
  simp
  refine LpW.inv (LpW.step (S 60 _ _ ?_))
  simp
  refine J.dr hF mixed 7 [[], [], [], [], [2, 3], [2, 3, 4], [0], [0, 1, 2, 3, 4, 5, 6], [0, 1, 2, 3, 4, 5, 6, 7]] [[45, 46, 47, 48, 49, 50, 51], [45, 46, 47, 48, 49, 50, 51], [45, 46, 47, 48, 49, 50, 51], [45, 46, 47, 48, 49, 50, 51], [45, 46, 49, 50, 51], [45, 46, 50, 51], [46, 47, 48, 49, 50, 51]] (by decide) ?_
  simp [hp0]
  refine S 60 _ _ ?_
  simp
  refine LpW.inv (LpW.step (S 60 _ _ ?_))
  simp
  refine J.rounds 4 (LpW.step (S 60 _ _ ?_))
  simp
  refine J.dr hF mixed 14 [[], [], [], [1], [1, 2, 3], [1, 2, 3, 4], [1, 2, 3, 4, 5], [], [], [7], [7, 8, 9], [7, 8, 9, 10], [7, 8, 9, 10, 11], [1, 2, 3, 4, 5, 6, 7, 8, 9, 10, 11, 12], [0, 1, 2, 3, 4, 5, 6, 7, 8, 9, 10, 11, 12, 13], [0, 1, 2, 3, 4, 5, 6, 7, 8, 9, 10, 11, 12, 13, 14]] [[30, 31, 32, 33, 34, 35, 36, 37, 38, 39, 40, 41, 42, 43], [30, 31, 32, 33, 34, 35, 36, 37, 38, 39, 40, 41, 42, 43], [30, 31, 32, 33, 34, 35, 36, 37, 38, 39, 40, 41, 42, 43], [30, 32, 33, 34, 35, 36, 37, 38, 39, 40, 41, 42, 43], [30, 34, 35, 36, 37, 38, 39, 40, 41, 42, 43], [30, 35, 36, 37, 38, 39, 40, 41, 42, 43], [30, 36, 37, 38, 39, 40, 41, 42, 43], [30, 31, 32, 33, 34, 35, 36, 37, 38, 39, 40, 41, 42, 43], [30, 31, 32, 33, 34, 35, 36, 37, 38, 39, 40, 41, 42, 43], [30, 31, 32, 33, 34, 35, 36, 38, 39, 40, 41, 42, 43], [30, 31, 32, 33, 34, 35, 36, 40, 41, 42, 43], [30, 31, 32, 33, 34, 35, 36, 41, 42, 43], [30, 31, 32, 33, 34, 35, 36, 42, 43], [30, 43]] (by decide) ?_
  simp
  refine S 60 _ _ ?_
  simp
  refine LpW.inv (LpW.step (S 60 _ _ ?_))
  simp
  refine J.dr hF mixed 14 [[], [], [], [1], [1, 2, 3], [1, 2, 3, 4], [1, 2, 3, 4, 5], [], [], [7], [7, 8, 9], [7, 8, 9, 10], [7, 8, 9, 10, 11], [1, 2, 3, 4, 5, 6, 7, 8, 9, 10, 11, 12], [0, 1, 2, 3, 4, 5, 6, 7, 8, 9, 10, 11, 12, 13], [0, 1, 2, 3, 4, 5, 6, 7, 8, 9, 10, 11, 12, 13, 14]] [[30, 31, 32, 33, 34, 35, 36, 37, 38, 39, 40, 41, 42, 43], [30, 31, 32, 33, 34, 35, 36, 37, 38, 39, 40, 41, 42, 43], [30, 31, 32, 33, 34, 35, 36, 37, 38, 39, 40, 41, 42, 43], [30, 32, 33, 34, 35, 36, 37, 38, 39, 40, 41, 42, 43], [30, 34, 35, 36, 37, 38, 39, 40, 41, 42, 43], [30, 35, 36, 37, 38, 39, 40, 41, 42, 43], [30, 36, 37, 38, 39, 40, 41, 42, 43], [30, 31, 32, 33, 34, 35, 36, 37, 38, 39, 40, 41, 42, 43], [30, 31, 32, 33, 34, 35, 36, 37, 38, 39, 40, 41, 42, 43], [30, 31, 32, 33, 34, 35, 36, 38, 39, 40, 41, 42, 43], [30, 31, 32, 33, 34, 35, 36, 40, 41, 42, 43], [30, 31, 32, 33, 34, 35, 36, 41, 42, 43], [30, 31, 32, 33, 34, 35, 36, 42, 43], [30, 43]] (by decide) ?_
  simp
  refine S 60 _ _ ?_
  simp
  refine LpW.inv (LpW.step (S 60 _ _ ?_))
  simp
  refine J.dr hF mixed 7 [[], [], [], [], [2, 3], [2, 3, 4], [0], [0, 1, 2, 3, 4, 5, 6], [0, 1, 2, 3, 4, 5, 6, 7]] [[45, 46, 47, 48, 49, 50, 51], [45, 46, 47, 48, 49, 50, 51], [45, 46, 47, 48, 49, 50, 51], [45, 46, 47, 48, 49, 50, 51], [45, 46, 49, 50, 51], [45, 46, 50, 51], [46, 47, 48, 49, 50, 51]] (by decide) ?_
  simp [hp0]
  refine S 60 _ _ ?_
  simp
  refine LpW.inv (LpW.step (S 60 _ _ ?_))
  simp
  refine LpW.inv (LpW.step (S 60 _ _ ?_))
  simp
  simp [timesM, mkM, sumN, Mx.at, bytm hp, u8w2 hp]

set_option maxRecDepth 20000 in
set_option maxHeartbeats 4000000 in
theorem l02Times_ok3 (p : Int) (g h : Mx) (hp : 2 ≤ p ∧ p ≤ 13) : CallOK Go.Proofs.Try.prog 33 [.one (i64 p), .one (i64 3), .agg g.ds, .agg h.ds] (.agg (timesM p 3 g h).ds) := by
  have hF := fnOk 54 [.cell 8 57]
  refine callOK hF 60 Go.Proofs.Try.func33 rfl rfl rfl (by decide) (by simp) rfl ?_
  intro w0 hw
  have S := @vc_sound w0 _ hF ⟨(.agg (timesM p 3 g h).ds), []⟩ Go.Proofs.Try.f33 rfl (by simp)
  have hp0 : p ≠ 0 := by omega
  have hp1 : 0 < p := by omega
  simp
  refine J.rounds 4 (LpW.step (S 60 _ _ ?_))
  simp
  refine J.rounds 4 (LpW.step (S 60 _ _ ?_))
  simp
  refine J.rounds 4 (LpW.step (S 60 _ _ ?_))
  simp
  refine J.dr hF mixed 14 [[], [], [], [1], [1, 2, 3], [1, 2, 3, 4], [1, 2, 3, 4, 5], [], [], [7], [7, 8, 9], [7, 8, 9, 10], [7, 8, 9, 10, 11], [1, 2, 3, 4, 5, 6, 7, 8, 9, 10, 11, 12], [0, 1, 2, 3, 4, 5, 6, 7, 8, 9, 10, 11, 12, 13], [0, 1, 2, 3, 4, 5, 6, 7, 8, 9, 10, 11, 12, 13, 14]] [[30, 31, 32, 33, 34, 35, 36, 37, 38, 39, 40, 41, 42, 43], [30, 31, 32, 33, 34, 35, 36, 37, 38, 39, 40, 41, 42, 43], [30, 31, 32, 33, 34, 35, 36, 37, 38, 39, 40, 41, 42, 43], [30, 32, 33, 34, 35, 36, 37, 38, 39, 40, 41, 42, 43], [30, 34, 35, 36, 37, 38, 39, 40, 41, 42, 43], [30, 35, 36, 37, 38, 39, 40, 41, 42, 43], [30, 36, 37, 38, 39, 40, 41, 42, 43], [30, 31, 32, 33, 34, 35, 36, 37, 38, 39, 40, 41, 42, 43], [30, 31, 32, 33, 34, 35, 36, 37, 38, 39, 40, 41, 42, 43], [30, 31, 32, 33, 34, 35, 36, 38, 39, 40, 41, 42, 43], [30, 31, 32, 33, 34, 35, 36, 40, 41, 42, 43], [30, 31, 32, 33, 34, 35, 36, 41, 42, 43], [30, 31, 32, 33, 34, 35, 36, 42, 43], [30, 43]] (by decide) ?_
  simp
  refine S 60 _ _ ?_
  simp
  refine LpW.inv (LpW.step (S 60 _ _ ?_))
  simp
  refine J.dr hF mixed 14 [[], [], [], [1], [1, 2, 3], [1, 2, 3, 4], [1, 2, 3, 4, 5], [], [], [7], [7, 8, 9], [7, 8, 9, 10], [7, 8, 9, 10, 11], [1, 2, 3, 4, 5, 6, 7, 8, 9, 10, 11, 12], [0, 1, 2, 3, 4, 5, 6, 7, 8, 9, 10, 11, 12, 13], [0, 1, 2, 3, 4, 5, 6, 7, 8, 9, 10, 11, 12, 13, 14]] [[30, 31, 32, 33, 34, 35, 36, 37, 38, 39, 40, 41, 42, 43], [30, 31, 32, 33, 34, 35, 36, 37, 38, 39, 40, 41, 42, 43], [30, 31, 32, 33, 34, 35, 36, 37, 38, 39, 40, 41, 42, 43], [30, 32, 33, 34, 35, 36, 37, 38, 39, 40, 41, 42, 43], [30, 34, 35, 36, 37, 38, 39, 40, 41, 42, 43], [30, 35, 36, 37, 38, 39, 40, 41, 42, 43], [30, 36, 37, 38, 39, 40, 41, 42, 43], [30, 31, 32, 33, 34, 35, 36, 37, 38, 39, 40, 41, 42, 43], [30, 31, 32, 33, 34, 35, 36, 37, 38, 39, 40, 41, 42, 43], [30, 31, 32, 33, 34, 35, 36, 38, 39, 40, 41, 42, 43], [30, 31, 32, 33, 34, 35, 36, 40, 41, 42, 43], [30, 31, 32, 33, 34, 35, 36, 41, 42, 43], [30, 31, 32, 33, 34, 35, 36, 42, 43], [30, 43]] (by decide) ?_
  simp
  refine S 60 _ _ ?_
  simp
  refine LpW.inv (LpW.step (S 60 _ _ ?_))
  simp
  refine J.dr hF mixed 14 [[], [], [], [1], [1, 2, 3], [1, 2, 3, 4], [1, 2, 3, 4, 5], [], [], [7], [7, 8, 9], [7, 8, 9, 10], [7, 8, 9, 10, 11], [1, 2, 3, 4, 5, 6, 7, 8, 9, 10, 11, 12], [0, 1, 2, 3, 4, 5, 6, 7, 8, 9, 10, 11, 12, 13], [0, 1, 2, 3, 4, 5, 6, 7, 8, 9, 10, 11, 12, 13, 14]] [[30, 31, 32, 33, 34, 35, 36, 37, 38, 39, 40, 41, 42, 43], [30, 31, 32, 33, 34, 35, 36, 37, 38, 39, 40, 41, 42, 43], [30, 31, 32, 33, 34, 35, 36, 37, 38, 39, 40, 41, 42, 43], [30, 32, 33, 34, 35, 36, 37, 38, 39, 40, 41, 42, 43], [30, 34, 35, 36, 37, 38, 39, 40, 41, 42, 43], [30, 35, 36, 37, 38, 39, 40, 41, 42, 43], [30, 36, 37, 38, 39, 40, 41, 42, 43], [30, 31, 32, 33, 34, 35, 36, 37, 38, 39, 40, 41, 42, 43], [30, 31, 32, 33, 34, 35, 36, 37, 38, 39, 40, 41, 42, 43], [30, 31, 32, 33, 34, 35, 36, 38, 39, 40, 41, 42, 43], [30, 31, 32, 33, 34, 35, 36, 40, 41, 42, 43], [30, 31, 32, 33, 34, 35, 36, 41, 42, 43], [30, 31, 32, 33, 34, 35, 36, 42, 43], [30, 43]] (by decide) ?_
  simp
  refine S 60 _ _ ?_
  simp
  refine LpW.inv (LpW.step (S 60 _ _ ?_))
  simp
  refine J.dr hF mixed 7 [[], [], [], [], [2, 3], [2, 3, 4], [0], [0, 1, 2, 3, 4, 5, 6], [0, 1, 2, 3, 4, 5, 6, 7]] [[45, 46, 47, 48, 49, 50, 51], [45, 46, 47, 48, 49, 50, 51], [45, 46, 47, 48, 49, 50, 51], [45, 46, 47, 48, 49, 50, 51], [45, 46, 49, 50, 51], [45, 46, 50, 51], [46, 47, 48, 49, 50, 51]] (by decide) ?_
  simp [hp0]
  refine S 60 _ _ ?_
  simp
  refine LpW.inv (LpW.step (S 60 _ _ ?_))
  simp
  refine J.rounds 4 (LpW.step (S 60 _ _ ?_))
  simp
  refine J.dr hF mixed 14 [[], [], [], [1], [1, 2, 3], [1, 2, 3, 4], [1, 2, 3, 4, 5], [], [], [7], [7, 8, 9], [7, 8, 9, 10], [7, 8, 9, 10, 11], [1, 2, 3, 4, 5, 6, 7, 8, 9, 10, 11, 12], [0, 1, 2, 3, 4, 5, 6, 7, 8, 9, 10, 11, 12, 13], [0, 1, 2, 3, 4, 5, 6, 7, 8, 9, 10, 11, 12, 13, 14]] [[30, 31, 32, 33, 34, 35, 36, 37, 38, 39, 40, 41, 42, 43], [30, 31, 32, 33, 34, 35, 36, 37, 38, 39, 40, 41, 42, 43], [30, 31, 32, 33, 34, 35, 36, 37, 38, 39, 40, 41, 42, 43], [30, 32, 33, 34, 35, 36, 37, 38, 39, 40, 41, 42, 43], [30, 34, 35, 36, 37, 38, 39, 40, 41, 42, 43], [30, 35, 36, 37, 38, 39, 40, 41, 42, 43], [30, 36, 37, 38, 39, 40, 41, 42, 43], [30, 31, 32, 33, 34, 35, 36, 37, 38, 39, 40, 41, 42, 43], [30, 31, 32, 33, 34, 35, 36, 37, 38, 39, 40, 41, 42, 43], [30, 31, 32, 33, 34, 35, 36, 38, 39, 40, 41, 42, 43], [30, 31, 32, 33, 34, 35, 36, 40, 41, 42, 43], [30, 31, 32, 33, 34, 35, 36, 41, 42, 43], [30, 31, 32, 33, 34, 35, 36, 42, 43], [30, 43]] (by decide) ?_
  simp
  refine S 60 _ _ ?_
  simp
  refine LpW.inv (LpW.step (S 60 _ _ ?_))
  simp
  refine J.dr hF mixed 14 [[], [], [], [1], [1, 2, 3], [1, 2, 3, 4], [1, 2, 3, 4, 5], [], [], [7], [7, 8, 9], [7, 8, 9, 10], [7, 8, 9, 10, 11], [1, 2, 3, 4, 5, 6, 7, 8, 9, 10, 11, 12], [0, 1, 2, 3, 4, 5, 6, 7, 8, 9, 10, 11, 12, 13], [0, 1, 2, 3, 4, 5, 6, 7, 8, 9, 10, 11, 12, 13, 14]] [[30, 31, 32, 33, 34, 35, 36, 37, 38, 39, 40, 41, 42, 43], [30, 31, 32, 33, 34, 35, 36, 37, 38, 39, 40, 41, 42, 43], [30, 31, 32, 33, 34, 35, 36, 37, 38, 39, 40, 41, 42, 43], [30, 32, 33, 34, 35, 36, 37, 38, 39, 40, 41, 42, 43], [30, 34, 35, 36, 37, 38, 39, 40, 41, 42, 43], [30, 35, 36, 37, 38, 39, 40, 41, 42, 43], [30, 36, 37, 38, 39, 40, 41, 42, 43], [30, 31, 32, 33, 34, 35, 36, 37, 38, 39, 40, 41, 42, 43], [30, 31, 32, 33, 34, 35, 36, 37, 38, 39, 40, 41, 42, 43], [30, 31, 32, 33, 34, 35, 36, 38, 39, 40, 41, 42, 43], [30, 31, 32, 33, 34, 35, 36, 40, 41, 42, 43], [30, 31, 32, 33, 34, 35, 36, 41, 42, 43], [30, 31, 32, 33, 34, 35, 36, 42, 43], [30, 43]] (by decide) ?_
  simp
  refine S 60 _ _ ?_
  simp
  refine LpW.inv (LpW.step (S 60 _ _ ?_))
  simp
  refine J.dr hF mixed 14 [[], [], [], [1], [1, 2, 3], [1, 2, 3, 4], [1, 2, 3, 4, 5], [], [], [7], [7, 8, 9], [7, 8, 9, 10], [7, 8, 9, 10, 11], [1, 2, 3, 4, 5, 6, 7, 8, 9, 10, 11, 12], [0, 1, 2, 3, 4, 5, 6, 7, 8, 9, 10, 11, 12, 13], [0, 1, 2, 3, 4, 5, 6, 7, 8, 9, 10, 11, 12, 13, 14]] [[30, 31, 32, 33, 34, 35, 36, 37, 38, 39, 40, 41, 42, 43], [30, 31, 32, 33, 34, 35, 36, 37, 38, 39, 40, 41, 42, 43], [30, 31, 32, 33, 34, 35, 36, 37, 38, 39, 40, 41, 42, 43], [30, 32, 33, 34, 35, 36, 37, 38, 39, 40, 41, 42, 43], [30, 34, 35, 36, 37, 38, 39, 40, 41, 42, 43], [30, 35, 36, 37, 38, 39, 40, 41, 42, 43], [30, 36, 37, 38, 39, 40, 41, 42, 43], [30, 31, 32, 33, 34, 35, 36, 37, 38, 39, 40, 41, 42, 43], [30, 31, 32, 33, 34, 35, 36, 37, 38, 39, 40, 41, 42, 43], [30, 31, 32, 33, 34, 35, 36, 38, 39, 40, 41, 42, 43], [30, 31, 32, 33, 34, 35, 36, 40, 41, 42, 43], [30, 31, 32, 33, 34, 35, 36, 41, 42, 43], [30, 31, 32, 33, 34, 35, 36, 42, 43], [30, 43]] (by decide) ?_
  simp
  refine S 60 _ _ ?_
  simp
  refine LpW.inv (LpW.step (S 60 _ _ ?_))
  simp
  refine J.dr hF mixed 7 [[], [], [], [], [2, 3], [2, 3, 4], [0], [0, 1, 2, 3, 4, 5, 6], [0, 1, 2, 3, 4, 5, 6, 7]] [[45, 46, 47, 48, 49, 50, 51], [45, 46, 47, 48, 49, 50, 51], [45, 46, 47, 48, 49, 50, 51], [45, 46, 47, 48, 49, 50, 51], [45, 46, 49, 50, 51], [45, 46, 50, 51], [46, 47, 48, 49, 50, 51]] (by decide) ?_
  simp [hp0]
  refine S 60 _ _ ?_
  simp
  refine LpW.inv (LpW.step (S 60 _ _ ?_))
  simp
  refine J.rounds 4 (LpW.step (S 60 _ _ ?_))
  simp
  refine J.dr hF mixed 14 [[], [], [], [1], [1, 2, 3], [1, 2, 3, 4], [1, 2, 3, 4, 5], [], [], [7], [7, 8, 9], [7, 8, 9, 10], [7, 8, 9, 10, 11], [1, 2, 3, 4, 5, 6, 7, 8, 9, 10, 11, 12], [0, 1, 2, 3, 4, 5, 6, 7, 8, 9, 10, 11, 12, 13], [0, 1, 2, 3, 4, 5, 6, 7, 8, 9, 10, 11, 12, 13, 14]] [[30, 31, 32, 33, 34, 35, 36, 37, 38, 39, 40, 41, 42, 43], [30, 31, 32, 33, 34, 35, 36, 37, 38, 39, 40, 41, 42, 43], [30, 31, 32, 33, 34, 35, 36, 37, 38, 39, 40, 41, 42, 43], [30, 32, 33, 34, 35, 36, 37, 38, 39, 40, 41, 42, 43], [30, 34, 35, 36, 37, 38, 39, 40, 41, 42, 43], [30, 35, 36, 37, 38, 39, 40, 41, 42, 43], [30, 36, 37, 38, 39, 40, 41, 42, 43], [30, 31, 32, 33, 34, 35, 36, 37, 38, 39, 40, 41, 42, 43], [30, 31, 32, 33, 34, 35, 36, 37, 38, 39, 40, 41, 42, 43], [30, 31, 32, 33, 34, 35, 36, 38, 39, 40, 41, 42, 43], [30, 31, 32, 33, 34, 35, 36, 40, 41, 42, 43], [30, 31, 32, 33, 34, 35, 36, 41, 42, 43], [30, 31, 32, 33, 34, 35, 36, 42, 43], [30, 43]] (by decide) ?_
  simp
  refine S 60 _ _ ?_
  simp
  refine LpW.inv (LpW.step (S 60 _ _ ?_))
  simp
  refine J.dr hF mixed 14 [[], [], [], [1], [1, 2, 3], [1, 2, 3, 4], [1, 2, 3, 4, 5], [], [], [7], [7, 8, 9], [7, 8, 9, 10], [7, 8, 9, 10, 11], [1, 2, 3, 4, 5, 6, 7, 8, 9, 10, 11, 12], [0, 1, 2, 3, 4, 5, 6, 7, 8, 9, 10, 11, 12, 13], [0, 1, 2, 3, 4, 5, 6, 7, 8, 9, 10, 11, 12, 13, 14]] [[30, 31, 32, 33, 34, 35, 36, 37, 38, 39, 40, 41, 42, 43], [30, 31, 32, 33, 34, 35, 36, 37, 38, 39, 40, 41, 42, 43], [30, 31, 32, 33, 34, 35, 36, 37, 38, 39, 40, 41, 42, 43], [30, 32, 33, 34, 35, 36, 37, 38, 39, 40, 41, 42, 43], [30, 34, 35, 36, 37, 38, 39, 40, 41, 42, 43], [30, 35, 36, 37, 38, 39, 40, 41, 42, 43], [30, 36, 37, 38, 39, 40, 41, 42, 43], [30, 31, 32, 33, 34, 35, 36, 37, 38, 39, 40, 41, 42, 43], [30, 31, 32, 33, 34, 35, 36, 37, 38, 39, 40, 41, 42, 43], [30, 31, 32, 33, 34, 35, 36, 38, 39, 40, 41, 42, 43], [30, 31, 32, 33, 34, 35, 36, 40, 41, 42, 43], [30, 31, 32, 33, 34, 35, 36, 41, 42, 43], [30, 31, 32, 33, 34, 35, 36, 42, 43], [30, 43]] (by decide) ?_
  simp
  refine S 60 _ _ ?_
  simp
  refine LpW.inv (LpW.step (S 60 _ _ ?_))
  simp
  refine J.dr hF mixed 14 [[], [], [], [1], [1, 2, 3], [1, 2, 3, 4], [1, 2, 3, 4, 5], [], [], [7], [7, 8, 9], [7, 8, 9, 10], [7, 8, 9, 10, 11], [1, 2, 3, 4, 5, 6, 7, 8, 9, 10, 11, 12], [0, 1, 2, 3, 4, 5, 6, 7, 8, 9, 10, 11, 12, 13], [0, 1, 2, 3, 4, 5, 6, 7, 8, 9, 10, 11, 12, 13, 14]] [[30, 31, 32, 33, 34, 35, 36, 37, 38, 39, 40, 41, 42, 43], [30, 31, 32, 33, 34, 35, 36, 37, 38, 39, 40, 41, 42, 43], [30, 31, 32, 33, 34, 35, 36, 37, 38, 39, 40, 41, 42, 43], [30, 32, 33, 34, 35, 36, 37, 38, 39, 40, 41, 42, 43], [30, 34, 35, 36, 37, 38, 39, 40, 41, 42, 43], [30, 35, 36, 37, 38, 39, 40, 41, 42, 43], [30, 36, 37, 38, 39, 40, 41, 42, 43], [30, 31, 32, 33, 34, 35, 36, 37, 38, 39, 40, 41, 42, 43], [30, 31, 32, 33, 34, 35, 36, 37, 38, 39, 40, 41, 42, 43], [30, 31, 32, 33, 34, 35, 36, 38, 39, 40, 41, 42, 43], [30, 31, 32, 33, 34, 35, 36, 40, 41, 42, 43], [30, 31, 32, 33, 34, 35, 36, 41, 42, 43], [30, 31, 32, 33, 34, 35, 36, 42, 43], [30, 43]] (by decide) ?_
  simp
  refine S 60 _ _ ?_
  simp
  refine LpW.inv (LpW.step (S 60 _ _ ?_))
  simp
  refine J.dr hF mixed 7 [[], [], [], [], [2, 3], [2, 3, 4], [0], [0, 1, 2, 3, 4, 5, 6], [0, 1, 2, 3, 4, 5, 6, 7]] [[45, 46, 47, 48, 49, 50, 51], [45, 46, 47, 48, 49, 50, 51], [45, 46, 47, 48, 49, 50, 51], [45, 46, 47, 48, 49, 50, 51], [45, 46, 49, 50, 51], [45, 46, 50, 51], [46, 47, 48, 49, 50, 51]] (by decide) ?_
  simp [hp0]
  refine S 60 _ _ ?_
  simp
  refine LpW.inv (LpW.step (S 60 _ _ ?_))
  simp
  refine LpW.inv (LpW.step (S 60 _ _ ?_))
  simp
  refine J.rounds 4 (LpW.step (S 60 _ _ ?_))
  simp
  refine J.rounds 4 (LpW.step (S 60 _ _ ?_))
  simp
  refine J.dr hF mixed 14 [[], [], [], [1], [1, 2, 3], [1, 2, 3, 4], [1, 2, 3, 4, 5], [], [], [7], [7, 8, 9], [7, 8, 9, 10], [7, 8, 9, 10, 11], [1, 2, 3, 4, 5, 6, 7, 8, 9, 10, 11, 12], [0, 1, 2, 3, 4, 5, 6, 7, 8, 9, 10, 11, 12, 13], [0, 1, 2, 3, 4, 5, 6, 7, 8, 9, 10, 11, 12, 13, 14]] [[30, 31, 32, 33, 34, 35, 36, 37, 38, 39, 40, 41, 42, 43], [30, 31, 32, 33, 34, 35, 36, 37, 38, 39, 40, 41, 42, 43], [30, 31, 32, 33, 34, 35, 36, 37, 38, 39, 40, 41, 42, 43], [30, 32, 33, 34, 35, 36, 37, 38, 39, 40, 41, 42, 43], [30, 34, 35, 36, 37, 38, 39, 40, 41, 42, 43], [30, 35, 36, 37, 38, 39, 40, 41, 42, 43], [30, 36, 37, 38, 39, 40, 41, 42, 43], [30, 31, 32, 33, 34, 35, 36, 37, 38, 39, 40, 41, 42, 43], [30, 31, 32, 33, 34, 35, 36, 37, 38, 39, 40, 41, 42, 43], [30, 31, 32, 33, 34, 35, 36, 38, 39, 40, 41, 42, 43], [30, 31, 32, 33, 34, 35, 36, 40, 41, 42, 43], [30, 31, 32, 33, 34, 35, 36, 41, 42, 43], [30, 31, 32, 33, 34, 35, 36, 42, 43], [30, 43]] (by decide) ?_
  simp
  refine S 60 _ _ ?_
  simp
  refine LpW.inv (LpW.step (S 60 _ _ ?_))
  simp
  refine J.dr hF mixed 14 [[], [], [], [1], [1, 2, 3], [1, 2, 3, 4], [1, 2, 3, 4, 5], [], [], [7], [7, 8, 9], [7, 8, 9, 10], [7, 8, 9, 10, 11], [1, 2, 3, 4, 5, 6, 7, 8, 9, 10, 11, 12], [0, 1, 2, 3, 4, 5, 6, 7, 8, 9, 10, 11, 12, 13], [0, 1, 2, 3, 4, 5, 6, 7, 8, 9, 10, 11, 12, 13, 14]] [[30, 31, 32, 33, 34, 35, 36, 37, 38, 39, 40, 41, 42, 43], [30, 31, 32, 33, 34, 35, 36, 37, 38, 39, 40, 41, 42, 43], [30, 31, 32, 33, 34, 35, 36, 37, 38, 39, 40, 41, 42, 43], [30, 32, 33, 34, 35, 36, 37, 38, 39, 40, 41, 42, 43], [30, 34, 35, 36, 37, 38, 39, 40, 41, 42, 43], [30, 35, 36, 37, 38, 39, 40, 41, 42, 43], [30, 36, 37, 38, 39, 40, 41, 42, 43], [30, 31, 32, 33, 34, 35, 36, 37, 38, 39, 40, 41, 42, 43], [30, 31, 32, 33, 34, 35, 36, 37, 38, 39, 40, 41, 42, 43], [30, 31, 32, 33, 34, 35, 36, 38, 39, 40, 41, 42, 43], [30, 31, 32, 33, 34, 35, 36, 40, 41, 42, 43], [30, 31, 32, 33, 34, 35, 36, 41, 42, 43], [30, 31, 32, 33, 34, 35, 36, 42, 43], [30, 43]] (by decide) ?_
  simp
  refine S 60 _ _ ?_
  simp
  refine LpW.inv (LpW.step (S 60 _ _ ?_))
  simp
  refine J.dr hF mixed 14 [[], [], [], [1], [1, 2, 3], [1, 2, 3, 4], [1, 2, 3, 4, 5], [], [], [7], [7, 8, 9], [7, 8, 9, 10], [7, 8, 9, 10, 11], [1, 2, 3, 4, 5, 6, 7, 8, 9, 10, 11, 12], [0, 1, 2, 3, 4, 5, 6, 7, 8, 9, 10, 11, 12, 13], [0, 1, 2, 3, 4, 5, 6, 7, 8, 9, 10, 11, 12, 13, 14]] [[30, 31, 32, 33, 34, 35, 36, 37, 38, 39, 40, 41, 42, 43], [30, 31, 32, 33, 34, 35, 36, 37, 38, 39, 40, 41, 42, 43], [30, 31, 32, 33, 34, 35, 36, 37, 38, 39, 40, 41, 42, 43], [30, 32, 33, 34, 35, 36, 37, 38, 39, 40, 41, 42, 43], [30, 34, 35, 36, 37, 38, 39, 40, 41, 42, 43], [30, 35, 36, 37, 38, 39, 40, 41, 42, 43], [30, 36, 37, 38, 39, 40, 41, 42, 43], [30, 31, 32, 33, 34, 35, 36, 37, 38, 39, 40, 41, 42, 43], [30, 31, 32, 33, 34, 35, 36, 37, 38, 39, 40, 41, 42, 43], [30, 31, 32, 33, 34, 35, 36, 38, 39, 40, 41, 42, 43], [30, 31, 32, 33, 34, 35, 36, 40, 41, 42, 43], [30, 31, 32, 33, 34, 35, 36, 41, 42, 43], [30, 31, 32, 33, 34, 35, 36, 42, 43], [30, 43]] (by decide) ?_
  simp
  refine S 60 _ _ ?_
  simp
  refine LpW.inv (LpW.step (S 60 _ _ ?_))
  simp
  refine J.dr hF mixed 7 [[], [], [], [], [2, 3], [2, 3, 4], [0], [0, 1, 2, 3, 4, 5, 6], [0, 1, 2, 3, 4, 5, 6, 7]] [[45, 46, 47, 48, 49, 50, 51], [45, 46, 47, 48, 49, 50, 51], [45, 46, 47, 48, 49, 50, 51], [45, 46, 47, 48, 49, 50, 51], [45, 46, 49, 50, 51], [45, 46, 50, 51], [46, 47, 48, 49, 50, 51]] (by decide) ?_
  simp [hp0]
  refine S 60 _ _ ?_
  simp
  refine LpW.inv (LpW.step (S 60 _ _ ?_))
  simp
  refine J.rounds 4 (LpW.step (S 60 _ _ ?_))
  simp
  refine J.dr hF mixed 14 [[], [], [], [1], [1, 2, 3], [1, 2, 3, 4], [1, 2, 3, 4, 5], [], [], [7], [7, 8, 9], [7, 8, 9, 10], [7, 8, 9, 10, 11], [1, 2, 3, 4, 5, 6, 7, 8, 9, 10, 11, 12], [0, 1, 2, 3, 4, 5, 6, 7, 8, 9, 10, 11, 12, 13], [0, 1, 2, 3, 4, 5, 6, 7, 8, 9, 10, 11, 12, 13, 14]] [[30, 31, 32, 33, 34, 35, 36, 37, 38, 39, 40, 41, 42, 43], [30, 31, 32, 33, 34, 35, 36, 37, 38, 39, 40, 41, 42, 43], [30, 31, 32, 33, 34, 35, 36, 37, 38, 39, 40, 41, 42, 43], [30, 32, 33, 34, 35, 36, 37, 38, 39, 40, 41, 42, 43], [30, 34, 35, 36, 37, 38, 39, 40, 41, 42, 43], [30, 35, 36, 37, 38, 39, 40, 41, 42, 43], [30, 36, 37, 38, 39, 40, 41, 42, 43], [30, 31, 32, 33, 34, 35, 36, 37, 38, 39, 40, 41, 42, 43], [30, 31, 32, 33, 34, 35, 36, 37, 38, 39, 40, 41, 42, 43], [30, 31, 32, 33, 34, 35, 36, 38, 39, 40, 41, 42, 43], [30, 31, 32, 33, 34, 35, 36, 40, 41, 42, 43], [30, 31, 32, 33, 34, 35, 36, 41, 42, 43], [30, 31, 32, 33, 34, 35, 36, 42, 43], [30, 43]] (by decide) ?_
  simp
  refine S 60 _ _ ?_
  simp
  refine LpW.inv (LpW.step (S 60 _ _ ?_))
  simp
  refine J.dr hF mixed 14 [[], [], [], [1], [1, 2, 3], [1, 2, 3, 4], [1, 2, 3, 4, 5], [], [], [7], [7, 8, 9], [7, 8, 9, 10], [7, 8, 9, 10, 11], [1, 2, 3, 4, 5, 6, 7, 8, 9, 10, 11, 12], [0, 1, 2, 3, 4, 5, 6, 7, 8, 9, 10, 11, 12, 13], [0, 1, 2, 3, 4, 5, 6, 7, 8, 9, 10, 11, 12, 13, 14]] [[30, 31, 32, 33, 34, 35, 36, 37, 38, 39, 40, 41, 42, 43], [30, 31, 32, 33, 34, 35, 36, 37, 38, 39, 40, 41, 42, 43], [30, 31, 32, 33, 34, 35, 36, 37, 38, 39, 40, 41, 42, 43], [30, 32, 33, 34, 35, 36, 37, 38, 39, 40, 41, 42, 43], [30, 34, 35, 36, 37, 38, 39, 40, 41, 42, 43], [30, 35, 36, 37, 38, 39, 40, 41, 42, 43], [30, 36, 37, 38, 39, 40, 41, 42, 43], [30, 31, 32, 33, 34, 35, 36, 37, 38, 39, 40, 41, 42, 43], [30, 31, 32, 33, 34, 35, 36, 37, 38, 39, 40, 41, 42, 43], [30, 31, 32, 33, 34, 35, 36, 38, 39, 40, 41, 42, 43], [30, 31, 32, 33, 34, 35, 36, 40, 41, 42, 43], [30, 31, 32, 33, 34, 35, 36, 41, 42, 43], [30, 31, 32, 33, 34, 35, 36, 42, 43], [30, 43]] (by decide) ?_
  simp
  refine S 60 _ _ ?_
  simp
  refine LpW.inv (LpW.step (S 60 _ _ ?_))
  simp
  refine J.dr hF mixed 14 [[], [], [], [1], [1, 2, 3], [1, 2, 3, 4], [1, 2, 3, 4, 5], [], [], [7], [7, 8, 9], [7, 8, 9, 10], [7, 8, 9, 10, 11], [1, 2, 3, 4, 5, 6, 7, 8, 9, 10, 11, 12], [0, 1, 2, 3, 4, 5, 6, 7, 8, 9, 10, 11, 12, 13], [0, 1, 2, 3, 4, 5, 6, 7, 8, 9, 10, 11, 12, 13, 14]] [[30, 31, 32, 33, 34, 35, 36, 37, 38, 39, 40, 41, 42, 43], [30, 31, 32, 33, 34, 35, 36, 37, 38, 39, 40, 41, 42, 43], [30, 31, 32, 33, 34, 35, 36, 37, 38, 39, 40, 41, 42, 43], [30, 32, 33, 34, 35, 36, 37, 38, 39, 40, 41, 42, 43], [30, 34, 35, 36, 37, 38, 39, 40, 41, 42, 43], [30, 35, 36, 37, 38, 39, 40, 41, 42, 43], [30, 36, 37, 38, 39, 40, 41, 42, 43], [30, 31, 32, 33, 34, 35, 36, 37, 38, 39, 40, 41, 42, 43], [30, 31, 32, 33, 34, 35, 36, 37, 38, 39, 40, 41, 42, 43], [30, 31, 32, 33, 34, 35, 36, 38, 39, 40, 41, 42, 43], [30, 31, 32, 33, 34, 35, 36, 40, 41, 42, 43], [30, 31, 32, 33, 34, 35, 36, 41, 42, 43], [30, 31, 32, 33, 34, 35, 36, 42, 43], [30, 43]] (by decide) ?_
  simp
  refine S 60 _ _ ?_
  simp
  refine LpW.inv (LpW.step (S 60 _ _ ?_))
  simp
  refine J.dr hF mixed 7 [[], [], [], [], [2, 3], [2, 3, 4], [0], [0, 1, 2, 3, 4, 5, 6], [0, 1, 2, 3, 4, 5, 6, 7]] [[45, 46, 47, 48, 49, 50, 51], [45, 46, 47, 48, 49, 50, 51], [45, 46, 47, 48, 49, 50, 51], [45, 46, 47, 48, 49, 50, 51], [45, 46, 49, 50, 51], [45, 46, 50, 51], [46, 47, 48, 49, 50, 51]] (by decide) ?_
  simp [hp0]
  refine S 60 _ _ ?_
  simp
  refine LpW.inv (LpW.step (S 60 _ _ ?_))
  simp
  refine J.rounds 4 (LpW.step (S 60 _ _ ?_))
  simp
  refine J.dr hF mixed 14 [[], [], [], [1], [1, 2, 3], [1, 2, 3, 4], [1, 2, 3, 4, 5], [], [], [7], [7, 8, 9], [7, 8, 9, 10], [7, 8, 9, 10, 11], [1, 2, 3, 4, 5, 6, 7, 8, 9, 10, 11, 12], [0, 1, 2, 3, 4, 5, 6, 7, 8, 9, 10, 11, 12, 13], [0, 1, 2, 3, 4, 5, 6, 7, 8, 9, 10, 11, 12, 13, 14]] [[30, 31, 32, 33, 34, 35, 36, 37, 38, 39, 40, 41, 42, 43], [30, 31, 32, 33, 34, 35, 36, 37, 38, 39, 40, 41, 42, 43], [30, 31, 32, 33, 34, 35, 36, 37, 38, 39, 40, 41, 42, 43], [30, 32, 33, 34, 35, 36, 37, 38, 39, 40, 41, 42, 43], [30, 34, 35, 36, 37, 38, 39, 40, 41, 42, 43], [30, 35, 36, 37, 38, 39, 40, 41, 42, 43], [30, 36, 37, 38, 39, 40, 41, 42, 43], [30, 31, 32, 33, 34, 35, 36, 37, 38, 39, 40, 41, 42, 43], [30, 31, 32, 33, 34, 35, 36, 37, 38, 39, 40, 41, 42, 43], [30, 31, 32, 33, 34, 35, 36, 38, 39, 40, 41, 42, 43], [30, 31, 32, 33, 34, 35, 36, 40, 41, 42, 43], [30, 31, 32, 33, 34, 35, 36, 41, 42, 43], [30, 31, 32, 33, 34, 35, 36, 42, 43], [30, 43]] (by decide) ?_
  simp
  refine S 60 _ _ ?_
  simp
  refine LpW.inv (LpW.step (S 60 _ _ ?_))
  simp
  refine J.dr hF mixed 14 [[], [], [], [1], [1, 2, 3], [1, 2, 3, 4], [1, 2, 3, 4, 5], [], [], [7], [7, 8, 9], [7, 8, 9, 10], [7, 8, 9, 10, 11], [1, 2, 3, 4, 5, 6, 7, 8, 9, 10, 11, 12], [0, 1, 2, 3, 4, 5, 6, 7, 8, 9, 10, 11, 12, 13], [0, 1, 2, 3, 4, 5, 6, 7, 8, 9, 10, 11, 12, 13, 14]] [[30, 31, 32, 33, 34, 35, 36, 37, 38, 39, 40, 41, 42, 43], [30, 31, 32, 33, 34, 35, 36, 37, 38, 39, 40, 41, 42, 43], [30, 31, 32, 33, 34, 35, 36, 37, 38, 39, 40, 41, 42, 43], [30, 32, 33, 34, 35, 36, 37, 38, 39, 40, 41, 42, 43], [30, 34, 35, 36, 37, 38, 39, 40, 41, 42, 43], [30, 35, 36, 37, 38, 39, 40, 41, 42, 43], [30, 36, 37, 38, 39, 40, 41, 42, 43], [30, 31, 32, 33, 34, 35, 36, 37, 38, 39, 40, 41, 42, 43], [30, 31, 32, 33, 34, 35, 36, 37, 38, 39, 40, 41, 42, 43], [30, 31, 32, 33, 34, 35, 36, 38, 39, 40, 41, 42, 43], [30, 31, 32, 33, 34, 35, 36, 40, 41, 42, 43], [30, 31, 32, 33, 34, 35, 36, 41, 42, 43], [30, 31, 32, 33, 34, 35, 36, 42, 43], [30, 43]] (by decide) ?_
  simp
  refine S 60 _ _ ?_
  simp
  refine LpW.inv (LpW.step (S 60 _ _ ?_))
  simp
  refine J.dr hF mixed 14 [[], [], [], [1], [1, 2, 3], [1, 2, 3, 4], [1, 2, 3, 4, 5], [], [], [7], [7, 8, 9], [7, 8, 9, 10], [7, 8, 9, 10, 11], [1, 2, 3, 4, 5, 6, 7, 8, 9, 10, 11, 12], [0, 1, 2, 3, 4, 5, 6, 7, 8, 9, 10, 11, 12, 13], [0, 1, 2, 3, 4, 5, 6, 7, 8, 9, 10, 11, 12, 13, 14]] [[30, 31, 32, 33, 34, 35, 36, 37, 38, 39, 40, 41, 42, 43], [30, 31, 32, 33, 34, 35, 36, 37, 38, 39, 40, 41, 42, 43], [30, 31, 32, 33, 34, 35, 36, 37, 38, 39, 40, 41, 42, 43], [30, 32, 33, 34, 35, 36, 37, 38, 39, 40, 41, 42, 43], [30, 34, 35, 36, 37, 38, 39, 40, 41, 42, 43], [30, 35, 36, 37, 38, 39, 40, 41, 42, 43], [30, 36, 37, 38, 39, 40, 41, 42, 43], [30, 31, 32, 33, 34, 35, 36, 37, 38, 39, 40, 41, 42, 43], [30, 31, 32, 33, 34, 35, 36, 37, 38, 39, 40, 41, 42, 43], [30, 31, 32, 33, 34, 35, 36, 38, 39, 40, 41, 42, 43], [30, 31, 32, 33, 34, 35, 36, 40, 41, 42, 43], [30, 31, 32, 33, 34, 35, 36, 41, 42, 43], [30, 31, 32, 33, 34, 35, 36, 42, 43], [30, 43]] (by decide) ?_
  simp
  refine S 60 _ _ ?_
  simp
  refine LpW.inv (LpW.step (S 60 _ _ ?_))
  simp
  refine J.dr hF mixed 7 [[], [], [], [], [2, 3], [2, 3, 4], [0], [0, 1, 2, 3, 4, 5, 6], [0, 1, 2, 3, 4, 5, 6, 7]] [[45, 46, 47, 48, 49, 50, 51], [45, 46, 47, 48, 49, 50, 51], [45, 46, 47, 48, 49, 50, 51], [45, 46, 47, 48, 49, 50, 51], [45, 46, 49, 50, 51], [45, 46, 50, 51], [46, 47, 48, 49, 50, 51]] (by decide) ?_
  simp [hp0]
  refine S 60 _ _ ?_
  simp
  refine LpW.inv (LpW.step (S 60 _ _ ?_))
  simp
  refine LpW.inv (LpW.step (S 60 _ _ ?_))
  simp
  refine J.rounds 4 (LpW.step (S 60 _ _ ?_))
  simp
  refine J.rounds 4 (LpW.step (S 60 _ _ ?_))
  simp
  refine J.dr hF mixed 14 [[], [], [], [1], [1, 2, 3], [1, 2, 3, 4], [1, 2, 3, 4, 5], [], [], [7], [7, 8, 9], [7, 8, 9, 10], [7, 8, 9, 10, 11], [1, 2, 3, 4, 5, 6, 7, 8, 9, 10, 11, 12], [0, 1, 2, 3, 4, 5, 6, 7, 8, 9, 10, 11, 12, 13], [0, 1, 2, 3, 4, 5, 6, 7, 8, 9, 10, 11, 12, 13, 14]] [[30, 31, 32, 33, 34, 35, 36, 37, 38, 39, 40, 41, 42, 43], [30, 31, 32, 33, 34, 35, 36, 37, 38, 39, 40, 41, 42, 43], [30, 31, 32, 33, 34, 35, 36, 37, 38, 39, 40, 41, 42, 43], [30, 32, 33, 34, 35, 36, 37, 38, 39, 40, 41, 42, 43], [30, 34, 35, 36, 37, 38, 39, 40, 41, 42, 43], [30, 35, 36, 37, 38, 39, 40, 41, 42, 43], [30, 36, 37, 38, 39, 40, 41, 42, 43], [30, 31, 32, 33, 34, 35, 36, 37, 38, 39, 40, 41, 42, 43], [30, 31, 32, 33, 34, 35, 36, 37, 38, 39, 40, 41, 42, 43], [30, 31, 32, 33, 34, 35, 36, 38, 39, 40, 41, 42, 43], [30, 31, 32, 33, 34, 35, 36, 40, 41, 42, 43], [30, 31, 32, 33, 34, 35, 36, 41, 42, 43], [30, 31, 32, 33, 34, 35, 36, 42, 43], [30, 43]] (by decide) ?_
  simp
  refine S 60 _ _ ?_
  simp
  refine LpW.inv (LpW.step (S 60 _ _ ?_))
  simp
  refine J.dr hF mixed 14 [[], [], [], [1], [1, 2, 3], [1, 2, 3, 4], [1, 2, 3, 4, 5], [], [], [7], [7, 8, 9], [7, 8, 9, 10], [7, 8, 9, 10, 11], [1, 2, 3, 4, 5, 6, 7, 8, 9, 10, 11, 12], [0, 1, 2, 3, 4, 5, 6, 7, 8, 9, 10, 11, 12, 13], [0, 1, 2, 3, 4, 5, 6, 7, 8, 9, 10, 11, 12, 13, 14]] [[30, 31, 32, 33, 34, 35, 36, 37, 38, 39, 40, 41, 42, 43], [30, 31, 32, 33, 34, 35, 36, 37, 38, 39, 40, 41, 42, 43], [30, 31, 32, 33, 34, 35, 36, 37, 38, 39, 40, 41, 42, 43], [30, 32, 33, 34, 35, 36, 37, 38, 39, 40, 41, 42, 43], [30, 34, 35, 36, 37, 38, 39, 40, 41, 42, 43], [30, 35, 36, 37, 38, 39, 40, 41, 42, 43], [30, 36, 37, 38, 39, 40, 41, 42, 43], [30, 31, 32, 33, 34, 35, 36, 37, 38, 39, 40, 41, 42, 43], [30, 31, 32, 33, 34, 35, 36, 37, 38, 39, 40, 41, 42, 43], [30, 31, 32, 33, 34, 35, 36, 38, 39, 40, 41, 42, 43], [30, 31, 32, 33, 34, 35, 36, 40, 41, 42, 43], [30, 31, 32, 33, 34, 35, 36, 41, 42, 43], [30, 31, 32, 33, 34, 35, 36, 42, 43], [30, 43]] (by decide) ?_
  simp
  refine S 60 _ _ ?_
  simp
  refine LpW.inv (LpW.step (S 60 _ _ ?_))
  simp
  refine J.dr hF mixed 14 [[], [], [], [1], [1, 2, 3], [1, 2, 3, 4], [1, 2, 3, 4, 5], [], [], [7], [7, 8, 9], [7, 8, 9, 10], [7, 8, 9, 10, 11], [1, 2, 3, 4, 5, 6, 7, 8, 9, 10, 11, 12], [0, 1, 2, 3, 4, 5, 6, 7, 8, 9, 10, 11, 12, 13], [0, 1, 2, 3, 4, 5, 6, 7, 8, 9, 10, 11, 12, 13, 14]] [[30, 31, 32, 33, 34, 35, 36, 37, 38, 39, 40, 41, 42, 43], [30, 31, 32, 33, 34, 35, 36, 37, 38, 39, 40, 41, 42, 43], [30, 31, 32, 33, 34, 35, 36, 37, 38, 39, 40, 41, 42, 43], [30, 32, 33, 34, 35, 36, 37, 38, 39, 40, 41, 42, 43], [30, 34, 35, 36, 37, 38, 39, 40, 41, 42, 43], [30, 35, 36, 37, 38, 39, 40, 41, 42, 43], [30, 36, 37, 38, 39, 40, 41, 42, 43], [30, 31, 32, 33, 34, 35, 36, 37, 38, 39, 40, 41, 42, 43], [30, 31, 32, 33, 34, 35, 36, 37, 38, 39, 40, 41, 42, 43], [30, 31, 32, 33, 34, 35, 36, 38, 39, 40, 41, 42, 43], [30, 31, 32, 33, 34, 35, 36, 40, 41, 42, 43], [30, 31, 32, 33, 34, 35, 36, 41, 42, 43], [30, 31, 32, 33, 34, 35, 36, 42, 43], [30, 43]] (by decide) ?_
  simp
  refine S 60 _ _ ?_
  simp
  refine LpW.inv (LpW.step (S 60 _ _ ?_))
  simp
  refine J.dr hF mixed 7 [[], [], [], [], [2, 3], [2, 3, 4], [0], [0, 1, 2, 3, 4, 5, 6], [0, 1, 2, 3, 4, 5, 6, 7]] [[45, 46, 47, 48, 49, 50, 51], [45, 46, 47, 48, 49, 50, 51], [45, 46, 47, 48, 49, 50, 51], [45, 46, 47, 48, 49, 50, 51], [45, 46, 49, 50, 51], [45, 46, 50, 51], [46, 47, 48, 49, 50, 51]] (by decide) ?_
  simp [hp0]
  refine S 60 _ _ ?_
  simp
  refine LpW.inv (LpW.step (S 60 _ _ ?_))
  simp
  refine J.rounds 4 (LpW.step (S 60 _ _ ?_))
  simp
  refine J.dr hF mixed 14 [[], [], [], [1], [1, 2, 3], [1, 2, 3, 4], [1, 2, 3, 4, 5], [], [], [7], [7, 8, 9], [7, 8, 9, 10], [7, 8, 9, 10, 11], [1, 2, 3, 4, 5, 6, 7, 8, 9, 10, 11, 12], [0, 1, 2, 3, 4, 5, 6, 7, 8, 9, 10, 11, 12, 13], [0, 1, 2, 3, 4, 5, 6, 7, 8, 9, 10, 11, 12, 13, 14]] [[30, 31, 32, 33, 34, 35, 36, 37, 38, 39, 40, 41, 42, 43], [30, 31, 32, 33, 34, 35, 36, 37, 38, 39, 40, 41, 42, 43], [30, 31, 32, 33, 34, 35, 36, 37, 38, 39, 40, 41, 42, 43], [30, 32, 33, 34, 35, 36, 37, 38, 39, 40, 41, 42, 43], [30, 34, 35, 36, 37, 38, 39, 40, 41, 42, 43], [30, 35, 36, 37, 38, 39, 40, 41, 42, 43], [30, 36, 37, 38, 39, 40, 41, 42, 43], [30, 31, 32, 33, 34, 35, 36, 37, 38, 39, 40, 41, 42, 43], [30, 31, 32, 33, 34, 35, 36, 37, 38, 39, 40, 41, 42, 43], [30, 31, 32, 33, 34, 35, 36, 38, 39, 40, 41, 42, 43], [30, 31, 32, 33, 34, 35, 36, 40, 41, 42, 43], [30, 31, 32, 33, 34, 35, 36, 41, 42, 43], [30, 31, 32, 33, 34, 35, 36, 42, 43], [30, 43]] (by decide) ?_
  simp
  refine S 60 _ _ ?_
  simp
  refine LpW.inv (LpW.step (S 60 _ _ ?_))
  simp
  refine J.dr hF mixed 14 [[], [], [], [1], [1, 2, 3], [1, 2, 3, 4], [1, 2, 3, 4, 5], [], [], [7], [7, 8, 9], [7, 8, 9, 10], [7, 8, 9, 10, 11], [1, 2, 3, 4, 5, 6, 7, 8, 9, 10, 11, 12], [0, 1, 2, 3, 4, 5, 6, 7, 8, 9, 10, 11, 12, 13], [0, 1, 2, 3, 4, 5, 6, 7, 8, 9, 10, 11, 12, 13, 14]] [[30, 31, 32, 33, 34, 35, 36, 37, 38, 39, 40, 41, 42, 43], [30, 31, 32, 33, 34, 35, 36, 37, 38, 39, 40, 41, 42, 43], [30, 31, 32, 33, 34, 35, 36, 37, 38, 39, 40, 41, 42, 43], [30, 32, 33, 34, 35, 36, 37, 38, 39, 40, 41, 42, 43], [30, 34, 35, 36, 37, 38, 39, 40, 41, 42, 43], [30, 35, 36, 37, 38, 39, 40, 41, 42, 43], [30, 36, 37, 38, 39, 40, 41, 42, 43], [30, 31, 32, 33, 34, 35, 36, 37, 38, 39, 40, 41, 42, 43], [30, 31, 32, 33, 34, 35, 36, 37, 38, 39, 40, 41, 42, 43], [30, 31, 32, 33, 34, 35, 36, 38, 39, 40, 41, 42, 43], [30, 31, 32, 33, 34, 35, 36, 40, 41, 42, 43], [30, 31, 32, 33, 34, 35, 36, 41, 42, 43], [30, 31, 32, 33, 34, 35, 36, 42, 43], [30, 43]] (by decide) ?_
  simp
  refine S 60 _ _ ?_
  simp
  refine LpW.inv (LpW.step (S 60 _ _ ?_))
  simp
  refine J.dr hF mixed 14 [[], [], [], [1], [1, 2, 3], [1, 2, 3, 4], [1, 2, 3, 4, 5], [], [], [7], [7, 8, 9], [7, 8, 9, 10], [7, 8, 9, 10, 11], [1, 2, 3, 4, 5, 6, 7, 8, 9, 10, 11, 12], [0, 1, 2, 3, 4, 5, 6, 7, 8, 9, 10, 11, 12, 13], [0, 1, 2, 3, 4, 5, 6, 7, 8, 9, 10, 11, 12, 13, 14]] [[30, 31, 32, 33, 34, 35, 36, 37, 38, 39, 40, 41, 42, 43], [30, 31, 32, 33, 34, 35, 36, 37, 38, 39, 40, 41, 42, 43], [30, 31, 32, 33, 34, 35, 36, 37, 38, 39, 40, 41, 42, 43], [30, 32, 33, 34, 35, 36, 37, 38, 39, 40, 41, 42, 43], [30, 34, 35, 36, 37, 38, 39, 40, 41, 42, 43], [30, 35, 36, 37, 38, 39, 40, 41, 42, 43], [30, 36, 37, 38, 39, 40, 41, 42, 43], [30, 31, 32, 33, 34, 35, 36, 37, 38, 39, 40, 41, 42, 43], [30, 31, 32, 33, 34, 35, 36, 37, 38, 39, 40, 41, 42, 43], [30, 31, 32, 33, 34, 35, 36, 38, 39, 40, 41, 42, 43], [30, 31, 32, 33, 34, 35, 36, 40, 41, 42, 43], [30, 31, 32, 33, 34, 35, 36, 41, 42, 43], [30, 31, 32, 33, 34, 35, 36, 42, 43], [30, 43]] (by decide) ?_
  simp
  refine S 60 _ _ ?_
  simp
  refine LpW.inv (LpW.step (S 60 _ _ ?_))
  simp
  refine J.dr hF mixed 7 [[], [], [], [], [2, 3], [2, 3, 4], [0], [0, 1, 2, 3, 4, 5, 6], [0, 1, 2, 3, 4, 5, 6, 7]] [[45, 46, 47, 48, 49, 50, 51], [45, 46, 47, 48, 49, 50, 51], [45, 46, 47, 48, 49, 50, 51], [45, 46, 47, 48, 49, 50, 51], [45, 46, 49, 50, 51], [45, 46, 50, 51], [46, 47, 48, 49, 50, 51]] (by decide) ?_
  simp [hp0]
  refine S 60 _ _ ?_
  simp
  refine LpW.inv (LpW.step (S 60 _ _ ?_))
  simp
  refine J.rounds 4 (LpW.step (S 60 _ _ ?_))
  simp
  refine J.dr hF mixed 14 [[], [], [], [1], [1, 2, 3], [1, 2, 3, 4], [1, 2, 3, 4, 5], [], [], [7], [7, 8, 9], [7, 8, 9, 10], [7, 8, 9, 10, 11], [1, 2, 3, 4, 5, 6, 7, 8, 9, 10, 11, 12], [0, 1, 2, 3, 4, 5, 6, 7, 8, 9, 10, 11, 12, 13], [0, 1, 2, 3, 4, 5, 6, 7, 8, 9, 10, 11, 12, 13, 14]] [[30, 31, 32, 33, 34, 35, 36, 37, 38, 39, 40, 41, 42, 43], [30, 31, 32, 33, 34, 35, 36, 37, 38, 39, 40, 41, 42, 43], [30, 31, 32, 33, 34, 35, 36, 37, 38, 39, 40, 41, 42, 43], [30, 32, 33, 34, 35, 36, 37, 38, 39, 40, 41, 42, 43], [30, 34, 35, 36, 37, 38, 39, 40, 41, 42, 43], [30, 35, 36, 37, 38, 39, 40, 41, 42, 43], [30, 36, 37, 38, 39, 40, 41, 42, 43], [30, 31, 32, 33, 34, 35, 36, 37, 38, 39, 40, 41, 42, 43], [30, 31, 32, 33, 34, 35, 36, 37, 38, 39, 40, 41, 42, 43], [30, 31, 32, 33, 34, 35, 36, 38, 39, 40, 41, 42, 43], [30, 31, 32, 33, 34, 35, 36, 40, 41, 42, 43], [30, 31, 32, 33, 34, 35, 36, 41, 42, 43], [30, 31, 32, 33, 34, 35, 36, 42, 43], [30, 43]] (by decide) ?_
  simp
  refine S 60 _ _ ?_
  simp
  refine LpW.inv (LpW.step (S 60 _ _ ?_))
  simp
  refine J.dr hF mixed 14 [[], [], [], [1], [1, 2, 3], [1, 2, 3, 4], [1, 2, 3, 4, 5], [], [], [7], [7, 8, 9], [7, 8, 9, 10], [7, 8, 9, 10, 11], [1, 2, 3, 4, 5, 6, 7, 8, 9, 10, 11, 12], [0, 1, 2, 3, 4, 5, 6, 7, 8, 9, 10, 11, 12, 13], [0, 1, 2, 3, 4, 5, 6, 7, 8, 9, 10, 11, 12, 13, 14]] [[30, 31, 32, 33, 34, 35, 36, 37, 38, 39, 40, 41, 42, 43], [30, 31, 32, 33, 34, 35, 36, 37, 38, 39, 40, 41, 42, 43], [30, 31, 32, 33, 34, 35, 36, 37, 38, 39, 40, 41, 42, 43], [30, 32, 33, 34, 35, 36, 37, 38, 39, 40, 41, 42, 43], [30, 34, 35, 36, 37, 38, 39, 40, 41, 42, 43], [30, 35, 36, 37, 38, 39, 40, 41, 42, 43], [30, 36, 37, 38, 39, 40, 41, 42, 43], [30, 31, 32, 33, 34, 35, 36, 37, 38, 39, 40, 41, 42, 43], [30, 31, 32, 33, 34, 35, 36, 37, 38, 39, 40, 41, 42, 43], [30, 31, 32, 33, 34, 35, 36, 38, 39, 40, 41, 42, 43], [30, 31, 32, 33, 34, 35, 36, 40, 41, 42, 43], [30, 31, 32, 33, 34, 35, 36, 41, 42, 43], [30, 31, 32, 33, 34, 35, 36, 42, 43], [30, 43]] (by decide) ?_
  simp
  refine S 60 _ _ ?_
  simp
  refine LpW.inv (LpW.step (S 60 _ _ ?_))
  simp
  refine J.dr hF mixed 14 [[], [], [], [1], [1, 2, 3], [1, 2, 3, 4], [1, 2, 3, 4, 5], [], [], [7], [7, 8, 9], [7, 8, 9, 10], [7, 8, 9, 10, 11], [1, 2, 3, 4, 5, 6, 7, 8, 9, 10, 11, 12], [0, 1, 2, 3, 4, 5, 6, 7, 8, 9, 10, 11, 12, 13], [0, 1, 2, 3, 4, 5, 6, 7, 8, 9, 10, 11, 12, 13, 14]] [[30, 31, 32, 33, 34, 35, 36, 37, 38, 39, 40, 41, 42, 43], [30, 31, 32, 33, 34, 35, 36, 37, 38, 39, 40, 41, 42, 43], [30, 31, 32, 33, 34, 35, 36, 37, 38, 39, 40, 41, 42, 43], [30, 32, 33, 34, 35, 36, 37, 38, 39, 40, 41, 42, 43], [30, 34, 35, 36, 37, 38, 39, 40, 41, 42, 43], [30, 35, 36, 37, 38, 39, 40, 41, 42, 43], [30, 36, 37, 38, 39, 40, 41, 42, 43], [30, 31, 32, 33, 34, 35, 36, 37, 38, 39, 40, 41, 42, 43], [30, 31, 32, 33, 34, 35, 36, 37, 38, 39, 40, 41, 42, 43], [30, 31, 32, 33, 34, 35, 36, 38, 39, 40, 41, 42, 43], [30, 31, 32, 33, 34, 35, 36, 40, 41, 42, 43], [30, 31, 32, 33, 34, 35, 36, 41, 42, 43], [30, 31, 32, 33, 34, 35, 36, 42, 43], [30, 43]] (by decide) ?_
  simp
  refine S 60 _ _ ?_
  simp
  refine LpW.inv (LpW.step (S 60 _ _ ?_))
  simp
  refine J.dr hF mixed 7 [[], [], [], [], [2, 3], [2, 3, 4], [0], [0, 1, 2, 3, 4, 5, 6], [0, 1, 2, 3, 4, 5, 6, 7]] [[45, 46, 47, 48, 49, 50, 51], [45, 46, 47, 48, 49, 50, 51], [45, 46, 47, 48, 49, 50, 51], [45, 46, 47, 48, 49, 50, 51], [45, 46, 49, 50, 51], [45, 46, 50, 51], [46, 47, 48, 49, 50, 51]] (by decide) ?_
  simp [hp0]
  refine S 60 _ _ ?_
  simp
  refine LpW.inv (LpW.step (S 60 _ _ ?_))
  simp
  refine LpW.inv (LpW.step (S 60 _ _ ?_))
  simp
  simp [timesM, mkM, sumN, Mx.at, bytm hp, u8w3 hp]

theorem times_ok (p d : Int) (g h : Mx) (hp : Pr p) (hd : 1 ≤ d ∧ d ≤ 3) : CallOK Go.Proofs.Try.prog 47 [.one (i64 p), .one (i64 d), .agg g.ds, .agg h.ds] (.agg (timesM p d.toNat g h).ds) := by
  have hpp := prPos hp
  have h3 : d = 1 ∨ d = 2 ∨ d = 3 := by omega
  rcases h3 with rfl | rfl | rfl
  · exact times_ok1 p g h hpp
  · exact times_ok2 p g h hpp
  · exact times_ok3 p g h hpp
theorem l02Times_ok (p d : Int) (g h : Mx) (hp : Pr p) (hd : 1 ≤ d ∧ d ≤ 3) : CallOK Go.Proofs.Try.prog 33 [.one (i64 p), .one (i64 d), .agg g.ds, .agg h.ds] (.agg (timesM p d.toNat g h).ds) := by
  have hpp := prPos hp
  have h3 : d = 1 ∨ d = 2 ∨ d = 3 := by omega
  rcases h3 with rfl | rfl | rfl
  · exact l02Times_ok1 p g h hpp
  · exact l02Times_ok2 p g h hpp
  · exact l02Times_ok3 p g h hpp
end Go.Sm

namespace Go.Sm
open Go.RowKit

@[simp] theorem Mx.beq9 (x y : Mx) : (x.a == y.a && (x.b == y.b && (x.c == y.c && (x.d == y.d && (x.e == y.e && (x.f == y.f && (x.g == y.g && (x.h == y.h && x.i == y.i)))))))) = decide (x = y) := by
  cases x; cases y
  rw [Bool.eq_iff_iff]
  simp

set_option maxHeartbeats 1000000 in
theorem unit_ok (d : Int) (hd : 1 ≤ d ∧ d ≤ 3) : CallOK Go.Proofs.Try.prog 48 [.one (i64 d)] (.agg (unitM d.toNat).ds) := by
  have hF := fnOk 16 [.cell 2 57]
  refine callOK hF 60 Go.Proofs.Try.func48 rfl rfl rfl (by decide) (by simp) rfl ?_
  intro w0 hw
  have S := @vc_sound w0 _ hF ⟨(.agg (unitM d.toNat).ds), []⟩ Go.Proofs.Try.f48 rfl (by simp)
  have h3 : d = 1 ∨ d = 2 ∨ d = 3 := by omega
  rcases h3 with rfl | rfl | rfl
  · simp
    refine J.rounds 4 (LpW.step (S 60 _ _ ?_))
    simp
    refine LpW.inv (LpW.step (S 60 _ _ ?_))
    simp [unitM, mkM]
  · simp
    refine J.rounds 4 (LpW.step (S 60 _ _ ?_))
    simp
    refine LpW.inv (LpW.step (S 60 _ _ ?_))
    simp
    refine LpW.inv (LpW.step (S 60 _ _ ?_))
    simp [unitM, mkM]
  · simp
    refine J.rounds 4 (LpW.step (S 60 _ _ ?_))
    simp
    refine LpW.inv (LpW.step (S 60 _ _ ?_))
    simp
    refine LpW.inv (LpW.step (S 60 _ _ ?_))
    simp
    refine LpW.inv (LpW.step (S 60 _ _ ?_))
    simp [unitM, mkM]
set_option maxHeartbeats 1000000 in
theorem l02Unit_ok (d : Int) (hd : 1 ≤ d ∧ d ≤ 3) : CallOK Go.Proofs.Try.prog 34 [.one (i64 d)] (.agg (unitM d.toNat).ds) := by
  have hF := fnOk 16 [.cell 2 57]
  refine callOK hF 60 Go.Proofs.Try.func34 rfl rfl rfl (by decide) (by simp) rfl ?_
  intro w0 hw
  have S := @vc_sound w0 _ hF ⟨(.agg (unitM d.toNat).ds), []⟩ Go.Proofs.Try.f34 rfl (by simp)
  have h3 : d = 1 ∨ d = 2 ∨ d = 3 := by omega
  rcases h3 with rfl | rfl | rfl
  · simp
    refine J.rounds 4 (LpW.step (S 60 _ _ ?_))
    simp
    refine LpW.inv (LpW.step (S 60 _ _ ?_))
    simp [unitM, mkM]
  · simp
    refine J.rounds 4 (LpW.step (S 60 _ _ ?_))
    simp
    refine LpW.inv (LpW.step (S 60 _ _ ?_))
    simp
    refine LpW.inv (LpW.step (S 60 _ _ ?_))
    simp [unitM, mkM]
  · simp
    refine J.rounds 4 (LpW.step (S 60 _ _ ?_))
    simp
    refine LpW.inv (LpW.step (S 60 _ _ ?_))
    simp
    refine LpW.inv (LpW.step (S 60 _ _ ?_))
    simp
    refine LpW.inv (LpW.step (S 60 _ _ ?_))
    simp [unitM, mkM]

def findZ (G : List Mx) (g : Mx) : Int := if g ∈ G then (G.findIdx fun x => x == g : Nat) else -1
theorem findZ_at {G : List Mx} {g : Mx} {i : Nat} (h : G[i]? = some g) (hb : ∀ x ∈ G.take i, ¬ x = g) : findZ G g = i := by
  obtain ⟨hi, he⟩ := List.getElem?_eq_some_iff.1 h
  rw [findZ, if_pos (List.mem_of_getElem? h), (List.findIdx_eq hi).2 ⟨by rw [he]; simp, fun j hj => ?_⟩]
  have := hb G[j] (by rw [List.mem_take_iff_getElem]; exact ⟨j, by omega, rfl⟩)
  simpa using this
theorem findZ_none {G : List Mx} {g : Mx} (h : ¬ g ∈ G) : findZ G g = -1 := if_neg h
theorem findZ_neg {G : List Mx} {g : Mx} : findZ G g < 0 ↔ ¬ g ∈ G := by
  unfold findZ
  split
  · rename_i h; exact ⟨fun h2 => by omega, fun h2 => absurd h h2⟩
  · rename_i h; exact ⟨fun _ => h, fun _ => by omega⟩
theorem take_all {G : List Mx} {g : Mx} {i : Nat} (hge : G.length ≤ i) (hb : ∀ x ∈ G.take i, ¬ x = g) : ¬ g ∈ G := fun h => hb g (by rw [List.take_of_length_le hge]; exact h) rfl
theorem take_step {G : List Mx} {g x : Mx} {i : Nat} (hx : G[i]? = some x) (hne : ¬ x = g) (hb : ∀ x ∈ G.take i, ¬ x = g) : ∀ x ∈ G.take (i + 1), ¬ x = g := fun y hy => by
  rw [List.take_add_one, hx] at hy
  simp only [Option.toList, List.mem_append, List.mem_singleton] at hy
  rcases hy with h | rfl
  · exact hb y h
  · exact hne

set_option maxHeartbeats 1000000 in
theorem l02Find_ok (G : List Mx) (g : Mx) (hl : G.length ≤ 1048576) : CallOK Go.Proofs.Try.prog 32 [.one (vMats G), .agg g.ds] (.one (i64 (findZ G g))) := by
  have hF := fnOk 19 [.tmp 4]
  refine callOK hF 60 Go.Proofs.Try.func32 rfl rfl rfl (by decide) (by simp) rfl ?_
  intro w0 hw
  have S := @vc_sound w0 _ hF ⟨(.one (i64 (findZ G g))), []⟩ Go.Proofs.Try.f32 rfl (by simp)
  simp
  refine J.loop hw (fun i : Nat => ⟨[(0, .c (.d (vMats G))), (3, .c (.ref 64003 0)), (5, .c (.d (i64 i)))], [(64003, .var [.d (u8 g.a), .d (u8 g.b), .d (u8 g.c), .d (u8 g.d), .d (u8 g.e), .d (u8 g.f), .d (u8 g.g), .d (u8 g.h), .d (u8 g.i)])]⟩)
    (fun i => i ≤ G.length ∧ ∀ x ∈ G.take i, ¬ x = g) (fun i => G.length - i) 0 (by simp) (by simp) ?_
  rintro i ⟨hi, hall⟩
  refine S 12 _ _ ?_
  simp
  refine ⟨fun hlt => ?_, fun hge => ?_⟩
  · obtain ⟨x, hx⟩ : ∃ x, G[i]? = some x := ⟨G[i], List.getElem?_eq_getElem hlt⟩
    refine S 60 _ _ ?_
    simp
    refine J.dr hF mixed 5 [[], [], [0, 1], [0, 1, 2], [], [0, 1, 2, 3, 4]] [[12, 13, 14, 15, 16], [12, 13, 14, 15, 16], [14, 15, 16], [15, 16], [12, 13, 14, 15, 16]] (by decide) ?_
    simp
    refine ⟨hlt, fun a ha => ?_⟩
    obtain rfl : x = a := Option.some.inj (hx.symm.trans ha)
    refine S 60 _ _ ?_
    simp
    refine ⟨fun e => ?_, fun e => ?_⟩
    · subst e; exact (findZ_at hx hall).symm
    · exact Nxt.mk (i + 1) ⟨hlt, take_step hx e hall⟩ (by simp [wrapS (i := i) (n := G.length) hlt (by omega)]) (by omega)
  · refine S 60 _ _ ?_
    simp
    exact (findZ_none (take_all hge hall)).symm

set_option maxHeartbeats 1000000 in
theorem IndexM_ok (G : List Mx) (g : Mx) (hl : G.length ≤ 1048576) : CallOK Go.Proofs.Try.prog 79 [.one (vMats G), .agg g.ds] (.one (i64 (findZ G g))) := by
  have hF := fnOk 19 [.tmp 4]
  refine callOK hF 60 Go.Proofs.Try.func79 rfl rfl rfl (by decide) (by simp) rfl ?_
  intro w0 hw
  have S := @vc_sound w0 _ hF ⟨(.one (i64 (findZ G g))), []⟩ Go.Proofs.Try.f79 rfl (by simp)
  simp
  refine J.loop hw (fun i : Nat => ⟨[(0, .c (.d (vMats G))), (3, .c (.ref 64003 0)), (7, .c (.d (i64 G.length))), (8, .c (.d (i64 i)))], [(64003, .var [.d (u8 g.a), .d (u8 g.b), .d (u8 g.c), .d (u8 g.d), .d (u8 g.e), .d (u8 g.f), .d (u8 g.g), .d (u8 g.h), .d (u8 g.i)])]⟩)
    (fun i => i ≤ G.length ∧ ∀ x ∈ G.take i, ¬ x = g) (fun i => G.length - i) 0 (by simp) (by simp) ?_
  rintro i ⟨hi, hall⟩
  refine S 8 _ _ ?_
  simp
  refine ⟨fun hlt => ?_, fun hge => ?_⟩
  · obtain ⟨x, hx⟩ : ∃ x, G[i]? = some x := ⟨G[i], List.getElem?_eq_getElem hlt⟩
    refine S 60 _ _ ?_
    simp
    refine J.dr hF mixed 5 [[], [], [], [1, 2], [1, 2, 3], [0, 1, 2, 3, 4]] [[11, 12, 13, 14, 15], [11, 12, 13, 14, 15], [11, 12, 13, 14, 15], [11, 14, 15], [11, 15]] (by decide) ?_
    simp
    refine ⟨hlt, fun a ha => ?_⟩
    obtain rfl : x = a := Option.some.inj (hx.symm.trans ha)
    refine S 60 _ _ ?_
    simp
    refine ⟨fun e => ?_, fun e => ?_⟩
    · subst e; exact (findZ_at hx hall).symm
    · exact Nxt.mk (i + 1) ⟨hlt, take_step hx (fun h => e h.symm) hall⟩ (by simp [wrapS (i := i) (n := G.length) hlt (by omega)]) (by omega)
  · refine S 60 _ _ ?_
    simp
    exact (findZ_none (take_all hge hall)).symm

theorem ContainsM_ok (G : List Mx) (g : Mx) (hl : G.length ≤ 1048576) : CallOK Go.Proofs.Try.prog 63 [.one (vMats G), .agg g.ds] (.one (bo (decide (g ∈ G)))) := by
  have hF := fnOk 9 [.tmp 4]
  refine callOK hF 60 Go.Proofs.Try.func63 rfl rfl rfl (by decide) (by simp) rfl ?_
  intro w0 hw
  have S := @vc_sound w0 _ hF ⟨(.one (bo (decide (g ∈ G)))), []⟩ Go.Proofs.Try.f63 rfl (by simp)
  have c1 := IndexM_ok G g hl
  have e : decide (g ∈ G) = decide (0 ≤ findZ G g) := decide_eq_decide.2 ⟨fun h => by have := findZ_neg (G := G) (g := g); by_cases h0 : findZ G g < 0 <;> simp_all, fun h => by
    have := findZ_neg (G := G) (g := g)
    exact Classical.byContradiction fun hn => by have := this.2 hn; omega⟩
  rw [e] at S ⊢
  generalize findZ G g = z at c1 S ⊢
  simp
  refine CallW.ok (by decide) (by simp) c1 (by simp) (S 60 _ _ ?_)
  simp

theorem has_ok (p d : Int) (G : List Mx) (g : Mx) (hl : G.length ≤ 1048576) : CallOK Go.Proofs.Try.prog 46 [vGroup p d G, .agg g.ds] (.one (bo (decide (g ∈ G)))) := by
  have hF := fnOk 9 [.tmp 4]
  refine callOK hF 60 Go.Proofs.Try.func46 rfl rfl rfl (by decide) (by simp) rfl ?_
  intro w0 hw
  have S := @vc_sound w0 _ hF ⟨(.one (bo (decide (g ∈ G)))), []⟩ Go.Proofs.Try.f46 rfl (by simp)
  have c1 := ContainsM_ok G g hl
  simp
  refine CallW.ok (by decide) (by simp) c1 (by simp) (S 60 _ _ ?_)
  simp
end Go.Sm

namespace Go.Sm
open Go.RowKit

def detO (g : Mx) : List (Nat × Ob) := [(1, .var [.d (u8 g.a), .d (u8 g.b), .d (u8 g.c), .d (u8 g.d), .d (u8 g.e), .d (u8 g.f), .d (u8 g.g), .d (u8 g.h), .d (u8 g.i)])]
set_option maxHeartbeats 1000000 in
theorem detAt_ok (g : Mx) {w0 : Base} (hw : w0.ok64) : ∀ i < 3, ∀ j < 3, ClosV Go.Proofs.Try.prog w0 88 [.c (.d (i64 (i : Nat))), .c (.d (i64 (j : Nat))), .c (.ref 1 0)] (detO g) (.int .i64 (g.at i j)) := by
  have hF := fnOk 12 []
  have key : ∀ i j : Nat, i < 3 → j < 3 → (i = 0 ∨ i = 1 ∨ i = 2) ∧ (j = 0 ∨ j = 1 ∨ j = 2) := fun i j h1 h2 => by omega
  intro i hi j hj
  obtain ⟨h1, h2⟩ := key i j hi hj
  refine ClosV.of (F := ⟨Go.Proofs.Try.prog, tab, etab, 12, []⟩) (fn := Go.Proofs.Try.f88) Go.Proofs.Try.func88 rfl rfl (by decide) (by simp) ?_
  have S := @vc_soundQ w0 _ hF (CVQ Go.Proofs.Try.prog w0 Go.Proofs.Try.f88 (detO g) (.int .i64 (g.at i j))) (EndsV (detO g) 5 (.int .i64 (g.at i j))) (closV_ret hw rfl)
  unfold detO at S ⊢
  rcases h1 with rfl | rfl | rfl <;> rcases h2 with rfl | rfl | rfl <;>
  · refine S 60 _ _ ?_
    simp [fsTm, EndsV]
    rfl

/-! ### whole numbers that fit -/
theorem wd2 (x y z w : UInt8) : IntKind.i64.wrap ((x.toNat : Int) * y.toNat - z.toNat * w.toNat) = x.toNat * y.toNat - z.toNat * w.toNat := by
  have := u8_mul x y; have := u8_mul z w
  exact wrap64 (by omega) (by omega)
theorem u8_mul3 (x y z w v : UInt8) : -16646400 ≤ (x.toNat : Int) * (y.toNat * z.toNat - w.toNat * v.toNat) ∧ (x.toNat : Int) * (y.toNat * z.toNat - w.toNat * v.toNat) ≤ 16646400 := by
  have h1 := u8_mul y z; have h2 := u8_mul w v; have hx := u8_lt x
  generalize (y.toNat : Int) * z.toNat = a at h1 ⊢
  generalize (w.toNat : Int) * v.toNat = b at h2 ⊢
  have e1 : (x.toNat : Int) * (a - b) ≤ x.toNat * 65025 := Int.mul_le_mul_of_nonneg_left (by omega) (by omega)
  have e2 : (x.toNat : Int) * (-65025) ≤ x.toNat * (a - b) := Int.mul_le_mul_of_nonneg_left (by omega) (by omega)
  omega
theorem wd3 (x y z w v : UInt8) : IntKind.i64.wrap ((x.toNat : Int) * (y.toNat * z.toNat - w.toNat * v.toNat)) = x.toNat * (y.toNat * z.toNat - w.toNat * v.toNat) := by
  have := u8_mul3 x y z w v
  exact wrap64 (by omega) (by omega)
theorem wd4 (x y z w v x' y' z' w' v' : UInt8) : IntKind.i64.wrap ((x.toNat : Int) * (y.toNat * z.toNat - w.toNat * v.toNat) - x'.toNat * (y'.toNat * z'.toNat - w'.toNat * v'.toNat)) = x.toNat * (y.toNat * z.toNat - w.toNat * v.toNat) - x'.toNat * (y'.toNat * z'.toNat - w'.toNat * v'.toNat) := by
  have := u8_mul3 x y z w v; have := u8_mul3 x' y' z' w' v'
  exact wrap64 (by omega) (by omega)
theorem wd5 (x y z w v x' y' z' w' v' s t u r q : UInt8) : IntKind.i64.wrap ((x.toNat : Int) * (y.toNat * z.toNat - w.toNat * v.toNat) - x'.toNat * (y'.toNat * z'.toNat - w'.toNat * v'.toNat) + s.toNat * (t.toNat * u.toNat - r.toNat * q.toNat)) = x.toNat * (y.toNat * z.toNat - w.toNat * v.toNat) - x'.toNat * (y'.toNat * z'.toNat - w'.toNat * v'.toNat) + s.toNat * (t.toNat * u.toNat - r.toNat * q.toNat) := by
  have := u8_mul3 x y z w v; have := u8_mul3 x' y' z' w' v'; have := u8_mul3 s t u r q
  exact wrap64 (by omega) (by omega)
theorem wd6 {p : Int} (hp : 2 ≤ p ∧ p ≤ 13) (x : Int) : IntKind.i64.wrap (x.tmod p + p) = x.tmod p + p := by
  have := tmod_range x p (by omega)
  exact wrap64 (by omega) (by omega)

set_option maxRecDepth 20000 in
set_option maxHeartbeats 4000000 in
theorem det_ok1 (p : Int) (g : Mx) (hp : 2 ≤ p ∧ p ≤ 13) : CallOK Go.Proofs.Try.prog 77 [.one (i64 p), .one (i64 1), .agg g.ds] (.one (i64 (detM p 1 g))) := by
  have hF := fnOk 79 [.tmp 6]
  refine callOKn hF 5 Go.Proofs.Try.func77 rfl rfl rfl (by decide) (by simp) rfl ?_
  intro w0 hw hnone
  have S := @vc_sound w0 _ hF ⟨.one (i64 (detM p 1 g)), []⟩ Go.Proofs.Try.f77 rfl (by simp)
  have hp0 : p ≠ 0 := by omega
  simp
  refine J.cut hw (t := ⟨[(0, .c (.d (i64 p))), (1, .c (.d (i64 1))), (5, .c (.ref 1 0))], detO g⟩) (by simp [detO]) ?_
  refine J.name (F := ⟨Go.Proofs.Try.prog, tab, etab, 79, [.tmp 6]⟩) (r := ⟨.one (i64 (detM p 1 g)), []⟩) (fn := Go.Proofs.Try.f77) (K := 1) (hnone 1) (by simp [detO]) (by simp) ?_
  intro c1
  have hw1 := ok64_named hw (K := 1) (by decide) c1
  have S1 := @vc_sound (w0.named 1 c1) _ hF ⟨.one (i64 (detM p 1 g)), []⟩ Go.Proofs.Try.f77 rfl (by simp)
  have f1 : (w0.named 1 c1).fix 1 = some c1 := by simp [Base.named]
  generalize w0.named 1 c1 = w1 at hw1 S1 f1 ⊢
  have hA := detAt_ok g hw1
  refine S1 60 _ _ ?_
  simp [detO]
  refine OpW.mkFunc [1] [c1] rfl rfl (by decide) ⟨1, _, c1, _, rfl, rfl, by simp, f1, rfl, rfl⟩ ?_
  refine S1 60 _ _ ?_
  simp
  refine OpW.closV hw1 (y := .int .i64 (g.a.toNat : Int)) rfl (g := 88) (vs := [c1]) (rs := [.c (.d (i64 0)), .c (.d (i64 0))]) [1] [0, 1, 7] rfl rfl rfl (by decide) (by simp) (by simp [argsV]) (by simp [FV.stable]) (by simp [f1]) (by simp [isVar, detO]) (hA 0 (by omega) 0 (by omega)) (by simp [detO]) (by simp [FV.stable]) ?_
  refine S1 60 _ _ ?_
  simp
  exact ⟨hp0, by rw [wd6 hp, tmod_mod _ _ (by omega)]; rfl⟩

set_option maxRecDepth 20000 in
set_option maxHeartbeats 4000000 in
theorem det_ok2 (p : Int) (g : Mx) (hp : 2 ≤ p ∧ p ≤ 13) : CallOK Go.Proofs.Try.prog 77 [.one (i64 p), .one (i64 2), .agg g.ds] (.one (i64 (detM p 2 g))) := by
  have hF := fnOk 79 [.tmp 6]
  refine callOKn hF 5 Go.Proofs.Try.func77 rfl rfl rfl (by decide) (by simp) rfl ?_
  intro w0 hw hnone
  have S := @vc_sound w0 _ hF ⟨.one (i64 (detM p 2 g)), []⟩ Go.Proofs.Try.f77 rfl (by simp)
  have hp0 : p ≠ 0 := by omega
  simp
  refine J.cut hw (t := ⟨[(0, .c (.d (i64 p))), (1, .c (.d (i64 2))), (5, .c (.ref 1 0))], detO g⟩) (by simp [detO]) ?_
  refine J.name (F := ⟨Go.Proofs.Try.prog, tab, etab, 79, [.tmp 6]⟩) (r := ⟨.one (i64 (detM p 2 g)), []⟩) (fn := Go.Proofs.Try.f77) (K := 1) (hnone 1) (by simp [detO]) (by simp) ?_
  intro c1
  have hw1 := ok64_named hw (K := 1) (by decide) c1
  have S1 := @vc_sound (w0.named 1 c1) _ hF ⟨.one (i64 (detM p 2 g)), []⟩ Go.Proofs.Try.f77 rfl (by simp)
  have f1 : (w0.named 1 c1).fix 1 = some c1 := by simp [Base.named]
  generalize w0.named 1 c1 = w1 at hw1 S1 f1 ⊢
  have hA := detAt_ok g hw1
  refine S1 60 _ _ ?_
  simp [detO]
  refine OpW.mkFunc [1] [c1] rfl rfl (by decide) ⟨1, _, c1, _, rfl, rfl, by simp, f1, rfl, rfl⟩ ?_
  refine S1 60 _ _ ?_
  simp
  refine OpW.closV hw1 (y := .int .i64 (g.a.toNat : Int)) rfl (g := 88) (vs := [c1]) (rs := [.c (.d (i64 0)), .c (.d (i64 0))]) [1] [0, 1, 7] rfl rfl rfl (by decide) (by simp) (by simp [argsV]) (by simp [FV.stable]) (by simp [f1]) (by simp [isVar, detO]) (hA 0 (by omega) 0 (by omega)) (by simp [detO]) (by simp [FV.stable]) ?_
  refine S1 60 _ _ ?_
  simp
  refine OpW.closV hw1 (y := .int .i64 (g.a.toNat : Int)) rfl (g := 88) (vs := [c1]) (rs := [.c (.d (i64 0)), .c (.d (i64 0))]) [1] [0, 1, 7] rfl rfl rfl (by decide) (by simp) (by simp [argsV]) (by simp [FV.stable]) (by simp [f1]) (by simp [isVar, detO]) (hA 0 (by omega) 0 (by omega)) (by simp [detO]) (by simp [FV.stable]) ?_
  refine S1 60 _ _ ?_
  simp
  refine OpW.closV hw1 (y := .int .i64 (g.e.toNat : Int)) rfl (g := 88) (vs := [c1]) (rs := [.c (.d (i64 1)), .c (.d (i64 1))]) [1] [0, 1, 7, 16] rfl rfl rfl (by decide) (by simp) (by simp [argsV]) (by simp [FV.stable]) (by simp [f1]) (by simp [isVar, detO]) (hA 1 (by omega) 1 (by omega)) (by simp [detO]) (by simp [FV.stable]) ?_
  refine S1 60 _ _ ?_
  simp [wmul1]
  refine OpW.closV hw1 (y := .int .i64 (g.b.toNat : Int)) rfl (g := 88) (vs := [c1]) (rs := [.c (.d (i64 0)), .c (.d (i64 1))]) [1] [0, 1, 7, 19] rfl rfl rfl (by decide) (by simp) (by simp [argsV]) (by simp [FV.stable]) (by simp [f1]) (by simp [isVar, detO]) (hA 0 (by omega) 1 (by omega)) (by simp [detO]) (by simp [FV.stable]) ?_
  refine S1 60 _ _ ?_
  simp
  refine OpW.closV hw1 (y := .int .i64 (g.d.toNat : Int)) rfl (g := 88) (vs := [c1]) (rs := [.c (.d (i64 1)), .c (.d (i64 0))]) [1] [0, 1, 7, 19, 21] rfl rfl rfl (by decide) (by simp) (by simp [argsV]) (by simp [FV.stable]) (by simp [f1]) (by simp [isVar, detO]) (hA 1 (by omega) 0 (by omega)) (by simp [detO]) (by simp [FV.stable]) ?_
  refine S1 60 _ _ ?_
  simp [wmul1, wd2]
  exact ⟨hp0, by rw [wd6 hp, tmod_mod _ _ (by omega)]; rfl⟩

set_option maxRecDepth 20000 in
set_option maxHeartbeats 4000000 in
theorem det_ok3 (p : Int) (g : Mx) (hp : 2 ≤ p ∧ p ≤ 13) : CallOK Go.Proofs.Try.prog 77 [.one (i64 p), .one (i64 3), .agg g.ds] (.one (i64 (detM p 3 g))) := by
  have hF := fnOk 79 [.tmp 6]
  refine callOKn hF 5 Go.Proofs.Try.func77 rfl rfl rfl (by decide) (by simp) rfl ?_
  intro w0 hw hnone
  have S := @vc_sound w0 _ hF ⟨.one (i64 (detM p 3 g)), []⟩ Go.Proofs.Try.f77 rfl (by simp)
  have hp0 : p ≠ 0 := by omega
  simp
  refine J.cut hw (t := ⟨[(0, .c (.d (i64 p))), (1, .c (.d (i64 3))), (5, .c (.ref 1 0))], detO g⟩) (by simp [detO]) ?_
  refine J.name (F := ⟨Go.Proofs.Try.prog, tab, etab, 79, [.tmp 6]⟩) (r := ⟨.one (i64 (detM p 3 g)), []⟩) (fn := Go.Proofs.Try.f77) (K := 1) (hnone 1) (by simp [detO]) (by simp) ?_
  intro c1
  have hw1 := ok64_named hw (K := 1) (by decide) c1
  have S1 := @vc_sound (w0.named 1 c1) _ hF ⟨.one (i64 (detM p 3 g)), []⟩ Go.Proofs.Try.f77 rfl (by simp)
  have f1 : (w0.named 1 c1).fix 1 = some c1 := by simp [Base.named]
  generalize w0.named 1 c1 = w1 at hw1 S1 f1 ⊢
  have hA := detAt_ok g hw1
  refine S1 60 _ _ ?_
  simp [detO]
  refine OpW.mkFunc [1] [c1] rfl rfl (by decide) ⟨1, _, c1, _, rfl, rfl, by simp, f1, rfl, rfl⟩ ?_
  refine S1 60 _ _ ?_
  simp
  refine OpW.closV hw1 (y := .int .i64 (g.a.toNat : Int)) rfl (g := 88) (vs := [c1]) (rs := [.c (.d (i64 0)), .c (.d (i64 0))]) [1] [0, 1, 7] rfl rfl rfl (by decide) (by simp) (by simp [argsV]) (by simp [FV.stable]) (by simp [f1]) (by simp [isVar, detO]) (hA 0 (by omega) 0 (by omega)) (by simp [detO]) (by simp [FV.stable]) ?_
  refine S1 60 _ _ ?_
  simp
  refine OpW.closV hw1 (y := .int .i64 (g.a.toNat : Int)) rfl (g := 88) (vs := [c1]) (rs := [.c (.d (i64 0)), .c (.d (i64 0))]) [1] [0, 1, 7] rfl rfl rfl (by decide) (by simp) (by simp [argsV]) (by simp [FV.stable]) (by simp [f1]) (by simp [isVar, detO]) (hA 0 (by omega) 0 (by omega)) (by simp [detO]) (by simp [FV.stable]) ?_
  refine S1 60 _ _ ?_
  simp
  refine OpW.closV hw1 (y := .int .i64 (g.e.toNat : Int)) rfl (g := 88) (vs := [c1]) (rs := [.c (.d (i64 1)), .c (.d (i64 1))]) [1] [0, 1, 7, 29] rfl rfl rfl (by decide) (by simp) (by simp [argsV]) (by simp [FV.stable]) (by simp [f1]) (by simp [isVar, detO]) (hA 1 (by omega) 1 (by omega)) (by simp [detO]) (by simp [FV.stable]) ?_
  refine S1 60 _ _ ?_
  simp
  refine OpW.closV hw1 (y := .int .i64 (g.i.toNat : Int)) rfl (g := 88) (vs := [c1]) (rs := [.c (.d (i64 2)), .c (.d (i64 2))]) [1] [0, 1, 7, 29, 31] rfl rfl rfl (by decide) (by simp) (by simp [argsV]) (by simp [FV.stable]) (by simp [f1]) (by simp [isVar, detO]) (hA 2 (by omega) 2 (by omega)) (by simp [detO]) (by simp [FV.stable]) ?_
  refine S1 60 _ _ ?_
  simp [wmul1]
  refine OpW.closV hw1 (y := .int .i64 (g.f.toNat : Int)) rfl (g := 88) (vs := [c1]) (rs := [.c (.d (i64 1)), .c (.d (i64 2))]) [1] [0, 1, 7, 29, 34] rfl rfl rfl (by decide) (by simp) (by simp [argsV]) (by simp [FV.stable]) (by simp [f1]) (by simp [isVar, detO]) (hA 1 (by omega) 2 (by omega)) (by simp [detO]) (by simp [FV.stable]) ?_
  refine S1 60 _ _ ?_
  simp
  refine OpW.closV hw1 (y := .int .i64 (g.h.toNat : Int)) rfl (g := 88) (vs := [c1]) (rs := [.c (.d (i64 2)), .c (.d (i64 1))]) [1] [0, 1, 7, 29, 34, 36] rfl rfl rfl (by decide) (by simp) (by simp [argsV]) (by simp [FV.stable]) (by simp [f1]) (by simp [isVar, detO]) (hA 2 (by omega) 1 (by omega)) (by simp [detO]) (by simp [FV.stable]) ?_
  refine S1 60 _ _ ?_
  simp [wmul1, wd2, wd3]
  refine OpW.closV hw1 (y := .int .i64 (g.b.toNat : Int)) rfl (g := 88) (vs := [c1]) (rs := [.c (.d (i64 0)), .c (.d (i64 1))]) [1] [0, 1, 7, 41] rfl rfl rfl (by decide) (by simp) (by simp [argsV]) (by simp [FV.stable]) (by simp [f1]) (by simp [isVar, detO]) (hA 0 (by omega) 1 (by omega)) (by simp [detO]) (by simp [FV.stable]) ?_
  refine S1 60 _ _ ?_
  simp
  refine OpW.closV hw1 (y := .int .i64 (g.d.toNat : Int)) rfl (g := 88) (vs := [c1]) (rs := [.c (.d (i64 1)), .c (.d (i64 0))]) [1] [0, 1, 7, 41, 43] rfl rfl rfl (by decide) (by simp) (by simp [argsV]) (by simp [FV.stable]) (by simp [f1]) (by simp [isVar, detO]) (hA 1 (by omega) 0 (by omega)) (by simp [detO]) (by simp [FV.stable]) ?_
  refine S1 60 _ _ ?_
  simp
  refine OpW.closV hw1 (y := .int .i64 (g.i.toNat : Int)) rfl (g := 88) (vs := [c1]) (rs := [.c (.d (i64 2)), .c (.d (i64 2))]) [1] [0, 1, 7, 41, 43, 45] rfl rfl rfl (by decide) (by simp) (by simp [argsV]) (by simp [FV.stable]) (by simp [f1]) (by simp [isVar, detO]) (hA 2 (by omega) 2 (by omega)) (by simp [detO]) (by simp [FV.stable]) ?_
  refine S1 60 _ _ ?_
  simp [wmul1]
  refine OpW.closV hw1 (y := .int .i64 (g.f.toNat : Int)) rfl (g := 88) (vs := [c1]) (rs := [.c (.d (i64 1)), .c (.d (i64 2))]) [1] [0, 1, 7, 41, 43, 48] rfl rfl rfl (by decide) (by simp) (by simp [argsV]) (by simp [FV.stable]) (by simp [f1]) (by simp [isVar, detO]) (hA 1 (by omega) 2 (by omega)) (by simp [detO]) (by simp [FV.stable]) ?_
  refine S1 60 _ _ ?_
  simp
  refine OpW.closV hw1 (y := .int .i64 (g.g.toNat : Int)) rfl (g := 88) (vs := [c1]) (rs := [.c (.d (i64 2)), .c (.d (i64 0))]) [1] [0, 1, 7, 41, 43, 48, 50] rfl rfl rfl (by decide) (by simp) (by simp [argsV]) (by simp [FV.stable]) (by simp [f1]) (by simp [isVar, detO]) (hA 2 (by omega) 0 (by omega)) (by simp [detO]) (by simp [FV.stable]) ?_
  refine S1 60 _ _ ?_
  simp [wmul1, wd2, wd3, wd4]
  refine OpW.closV hw1 (y := .int .i64 (g.c.toNat : Int)) rfl (g := 88) (vs := [c1]) (rs := [.c (.d (i64 0)), .c (.d (i64 2))]) [1] [0, 1, 7, 56] rfl rfl rfl (by decide) (by simp) (by simp [argsV]) (by simp [FV.stable]) (by simp [f1]) (by simp [isVar, detO]) (hA 0 (by omega) 2 (by omega)) (by simp [detO]) (by simp [FV.stable]) ?_
  refine S1 60 _ _ ?_
  simp
  refine OpW.closV hw1 (y := .int .i64 (g.d.toNat : Int)) rfl (g := 88) (vs := [c1]) (rs := [.c (.d (i64 1)), .c (.d (i64 0))]) [1] [0, 1, 7, 56, 58] rfl rfl rfl (by decide) (by simp) (by simp [argsV]) (by simp [FV.stable]) (by simp [f1]) (by simp [isVar, detO]) (hA 1 (by omega) 0 (by omega)) (by simp [detO]) (by simp [FV.stable]) ?_
  refine S1 60 _ _ ?_
  simp
  refine OpW.closV hw1 (y := .int .i64 (g.h.toNat : Int)) rfl (g := 88) (vs := [c1]) (rs := [.c (.d (i64 2)), .c (.d (i64 1))]) [1] [0, 1, 7, 56, 58, 60] rfl rfl rfl (by decide) (by simp) (by simp [argsV]) (by simp [FV.stable]) (by simp [f1]) (by simp [isVar, detO]) (hA 2 (by omega) 1 (by omega)) (by simp [detO]) (by simp [FV.stable]) ?_
  refine S1 60 _ _ ?_
  simp [wmul1]
  refine OpW.closV hw1 (y := .int .i64 (g.e.toNat : Int)) rfl (g := 88) (vs := [c1]) (rs := [.c (.d (i64 1)), .c (.d (i64 1))]) [1] [0, 1, 7, 56, 58, 63] rfl rfl rfl (by decide) (by simp) (by simp [argsV]) (by simp [FV.stable]) (by simp [f1]) (by simp [isVar, detO]) (hA 1 (by omega) 1 (by omega)) (by simp [detO]) (by simp [FV.stable]) ?_
  refine S1 60 _ _ ?_
  simp
  refine OpW.closV hw1 (y := .int .i64 (g.g.toNat : Int)) rfl (g := 88) (vs := [c1]) (rs := [.c (.d (i64 2)), .c (.d (i64 0))]) [1] [0, 1, 7, 56, 58, 63, 65] rfl rfl rfl (by decide) (by simp) (by simp [argsV]) (by simp [FV.stable]) (by simp [f1]) (by simp [isVar, detO]) (hA 2 (by omega) 0 (by omega)) (by simp [detO]) (by simp [FV.stable]) ?_
  refine S1 60 _ _ ?_
  simp [wmul1, wd2, wd3, wd5]
  exact ⟨hp0, by rw [wd6 hp, tmod_mod _ _ (by omega)]; rfl⟩

theorem det_ok (p d : Int) (g : Mx) (hp : Pr p) (hd : 1 ≤ d ∧ d ≤ 3) : CallOK Go.Proofs.Try.prog 77 [.one (i64 p), .one (i64 d), .agg g.ds] (.one (i64 (detM p d.toNat g))) := by
  have hpp := prPos hp
  have h3 : d = 1 ∨ d = 2 ∨ d = 3 := by omega
  rcases h3 with rfl | rfl | rfl
  · exact det_ok1 p g hpp
  · exact det_ok2 p g hpp
  · exact det_ok3 p g hpp

end Go.Sm
