/- Towards the rows of this seat: what the functions do, as contracts over plain data. -/
import Derived.Test.YtkoaodnabmmddaaPk3
namespace Go.Sm

/-- A list by its places. -/
def tabL (n : Nat) (f : Nat → Int) : List Int := (List.range n).map f
theorem tabL_length (n : Nat) (f : Nat → Int) : (tabL n f).length = n := by simp [tabL]
theorem tabL_get {n : Nat} {f : Nat → Int} {k : Nat} (h : k < n) : (tabL n f)[k]? = some (f k) := by simp [tabL, h]
theorem tabL_ext {n : Nat} {f g : Nat → Int} (h : ∀ k < n, f k = g k) : tabL n f = tabL n g := List.map_congr_left fun k hk => h k (List.mem_range.1 hk)
theorem tabL_zero (n : Nat) : tabL n (fun _ => 0) = List.replicate n 0 := List.ext_getElem (by simp [tabL]) fun i h1 h2 => by simp [tabL]
theorem tabL_set {n k : Nat} {f : Nat → Int} {x : Int} (_ : k < n) : (tabL n f).set k x = tabL n (fun i => if i = k then x else f i) := by
  refine List.ext_getElem (by simp [tabL]) fun i h1 h2 => ?_
  rw [List.getElem_set]
  split
  · rename_i e; subst e; simp [tabL]
  · rename_i e
    simp only [tabL, List.getElem_map, List.getElem_range]
    rw [if_neg (Ne.symm e)]
def mix (k : Nat) (g f : Nat → Int) : Nat → Int := fun j => if j < k then g j else f j
theorem mix_zero (g f : Nat → Int) : mix 0 g f = f := funext fun k => by simp [mix]
theorem mix_at (k : Nat) (g f : Nat → Int) : mix k g f k = f k := by simp [mix]
theorem mix_set {n k : Nat} (h : k < n) (g f : Nat → Int) : (tabL n (mix k g f)).set k (g k) = tabL n (mix (k + 1) g f) := by
  rw [tabL_set h]
  refine tabL_ext fun i _ => ?_
  simp only [mix]
  by_cases e : i = k
  · subst e; simp
  · rw [if_neg e]
    by_cases h3 : i < k
    · rw [if_pos h3, if_pos (by omega)]
    · rw [if_neg h3, if_neg (by omega)]
theorem mix_end {n k : Nat} (h : n ≤ k) (g f : Nat → Int) : tabL n (mix k g f) = tabL n g := tabL_ext fun j hj => by simp [mix, show j < k by omega]

def sumR : Nat → (Nat → Nat) → Nat
  | 0, _ => 0
  | n + 1, f => sumR n f + f n
theorem sumR_congr {f g : Nat → Nat} : ∀ {n : Nat}, (∀ i < n, f i = g i) → sumR n f = sumR n g
  | 0, _ => rfl
  | n + 1, h => by simp only [sumR]; rw [sumR_congr (n := n) fun i hi => h i (by omega), h n (by omega)]
theorem sumR_add (f g : Nat → Nat) : ∀ n : Nat, sumR n (fun i => f i + g i) = sumR n f + sumR n g
  | 0 => rfl
  | n + 1 => by simp only [sumR]; rw [sumR_add f g n]; omega
theorem sumR_zero : ∀ n : Nat, sumR n (fun _ => 0) = 0
  | 0 => rfl
  | n + 1 => by simp only [sumR]; rw [sumR_zero n]
theorem sumR_swap (m : Nat) (f : Nat → Nat → Nat) : ∀ n : Nat, sumR n (fun i => sumR m (fun j => f i j)) = sumR m (fun j => sumR n (fun i => f i j))
  | 0 => by simp only [sumR]; rw [sumR_zero]
  | n + 1 => by simp only [sumR]; rw [sumR_swap m f n, ← sumR_add]
theorem sumR_plus (n : Nat) (f : Nat → Nat) : ∀ m : Nat, sumR (n + m) f = sumR n f + sumR m (fun j => f (n + j))
  | 0 => by simp [sumR]
  | m + 1 => by rw [← Nat.add_assoc]; simp only [sumR]; rw [sumR_plus n f m]; omega
theorem sumR_mul (p : Nat) (f : Nat → Nat) : ∀ n : Nat, sumR (n * p) f = sumR n (fun q => sumR p (fun a => f (q * p + a)))
  | 0 => by rw [Nat.zero_mul]; rfl
  | n + 1 => by rw [Nat.succ_mul, sumR_plus, sumR_mul p f n]; rfl
theorem sumR_le {f : Nat → Nat} {c : Nat} : ∀ {n : Nat}, (∀ i < n, f i ≤ c) → sumR n f ≤ n * c
  | 0, _ => by simp [sumR]
  | n + 1, h => by
    simp only [sumR]
    have := sumR_le (n := n) fun i hi => h i (by omega)
    have := h n (by omega)
    rw [Nat.succ_mul]; omega

theorem sumR_ge (f : Nat → Nat) {i : Nat} : ∀ {n : Nat}, i < n → f i ≤ sumR n f
  | 0, h => by omega
  | n + 1, h => by
    simp only [sumR]
    by_cases e : i = n
    · subst e; omega
    · have := sumR_ge f (n := n) (show i < n by omega); omega

/-- A word and a times a row. -/
def addF (p : Int) (a : Nat) (r : List Int) (w : Nat → Int) : Nat → Int := fun j => (w j + a * gt r j) % p
def Red0 (p : Int) (w : Nat → Int) : Prop := ∀ j, 0 ≤ w j ∧ w j < p
theorem addF_red {p : Int} (hp : 0 < p) (a : Nat) (r : List Int) (w : Nat → Int) : Red0 p (addF p a r w) := fun j => ⟨Int.emod_nonneg _ (by omega), Int.emod_lt_of_pos _ hp⟩
theorem addF_zero {p : Int} {w : Nat → Int} (h : Red0 p w) (r : List Int) : addF p 0 r w = w := funext fun j => by
  simp only [addF]
  rw [show ((0 : Nat) : Int) * gt r j = 0 by simp, Int.add_zero, Int.emod_eq_of_lt (h j).1 (h j).2]
theorem addF_full {p : Int} (hp : 0 < p) {w : Nat → Int} (h : Red0 p w) (r : List Int) : addF p p.toNat r w = w := funext fun j => by
  simp only [addF]
  rw [show ((p.toNat : Nat) : Int) = p by omega, Int.add_mul_emod_self_left, Int.emod_eq_of_lt (h j).1 (h j).2]
theorem addF_step (p : Int) (a : Nat) (r : List Int) (w : Nat → Int) (j : Nat) : (addF p a r w j + gt r j) % p = addF p (a + 1) r w j := by
  simp only [addF]
  rw [Int.emod_add_emod, show ((a + 1 : Nat) : Int) * gt r j = a * gt r j + gt r j by rw [show ((a + 1 : Nat) : Int) = (a : Int) + 1 by omega, Int.add_mul]; omega, Int.add_assoc]

def wtN : Nat → (Nat → Int) → Nat
  | 0, _ => 0
  | n + 1, w => wtN n w + if w n = 0 then 0 else 1
theorem wtN_le (w : Nat → Int) : ∀ n : Nat, wtN n w ≤ n
  | 0 => Nat.le_refl _
  | n + 1 => by simp only [wtN]; have := wtN_le w n; split <;> omega

/-- How many words of weight t. -/
def isW (t s : Nat) : Nat := if t = s then 1 else 0
def cI (p : Int) (n : Nat) : List (List Int) → (Nat → Int) → Nat → Nat
  | [], w, t => isW t (wtN n w)
  | r :: rs, w, t => sumR p.toNat fun a => cI p n rs (addF p a r w) t
theorem cI_le (p : Int) (n t : Nat) : ∀ (rs : List (List Int)) (w : Nat → Int), cI p n rs w t ≤ p.toNat ^ rs.length
  | [], w => by simp only [cI, List.length_nil, Nat.pow_zero, isW]; split <;> omega
  | r :: rs, w => by
    simp only [cI, List.length_cons]
    rw [Nat.pow_succ, Nat.mul_comm]
    exact sumR_le fun a _ => cI_le p n t rs _

/-- The word of number k. -/
def wS (p : Int) : List (List Int) → (Nat → Int) → Nat → (Nat → Int)
  | [], w, _ => w
  | r :: rs, w, k => wS p rs (addF p (k % p.toNat) r w) (k / p.toNat)
theorem wS_count {p : Int} (hp : 0 < p) (n t : Nat) : ∀ (rs : List (List Int)) (w : Nat → Int), sumR (p.toNat ^ rs.length) (fun k => isW t (wtN n (wS p rs w k))) = cI p n rs w t
  | [], w => by simp [sumR, wS, cI]
  | r :: rs, w => by
    have hp' : 0 < p.toNat := by omega
    rw [List.length_cons, Nat.pow_succ, sumR_mul, sumR_swap]
    simp only [cI]
    refine sumR_congr fun a ha => ?_
    rw [← wS_count hp n t rs (addF p a r w)]
    refine sumR_congr fun q _ => ?_
    have e : wS p (r :: rs) w (q * p.toNat + a) = wS p rs (addF p a r w) q := by
      show wS p rs (addF p ((q * p.toNat + a) % p.toNat) r w) ((q * p.toNat + a) / p.toNat) = _
      rw [Nat.mul_comm q, Nat.mul_add_mod, Nat.mod_eq_of_lt ha, Nat.mul_add_div hp', Nat.div_eq_of_lt ha, Nat.add_zero]
    rw [e]

/-- The remaining number and the word, row by row. -/
theorem wS_take {p : Int} : ∀ (rs : List (List Int)) (w : Nat → Int) (k i : Nat) (r : List Int), rs[i]? = some r →
    wS p (rs.take (i + 1)) w k = addF p (k / p.toNat ^ i % p.toNat) r (wS p (rs.take i) w k)
  | [], w, k, i, r, h => by simp at h
  | q :: rs, w, k, 0, r, h => by simp at h; subst h; simp [wS]
  | q :: rs, w, k, i + 1, r, h => by
    rw [List.take_succ_cons, List.take_succ_cons]
    simp only [wS]
    rw [wS_take rs _ _ i r (by simpa using h), Nat.div_div_eq_div_mul, Nat.pow_succ, Nat.mul_comm (p.toNat ^ i)]
theorem wS_red {p : Int} (hp : 0 < p) : ∀ (rs : List (List Int)) (w : Nat → Int) (k : Nat), Red0 p w → Red0 p (wS p rs w k)
  | [], _, _, h => h
  | _ :: rs, _, _, _ => wS_red hp rs _ _ (addF_red hp _ _ _)

def zeroF : Nat → Int := fun _ => 0
/-- The weights of a code. -/
def wtsL (p : Int) (n : Nat) (rows : List (List Int)) : List Int := tabL (n + 1) fun t => (cI p n rows zeroF t : Int)

/-- The counts' list with one more of weight x. -/
theorem bump_set {n x : Nat} (h : x < n + 1) (g : Nat → Int) (f : Nat → Nat) : (tabL (n + 1) fun t => g t + (f t : Nat)).set x (g x + (f x : Nat) + 1) = tabL (n + 1) fun t => g t + (f t + isW t x : Nat) := by
  rw [tabL_set h]
  refine tabL_ext fun t _ => ?_
  by_cases e : t = x
  · subst e; simp [isW]; omega
  · simp [e, isW]

end Go.Sm
