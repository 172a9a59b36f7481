/- Towards the rows of this seat: what the functions do, as contracts over plain data. -/
import Derived.Test.YtemedeiolhgoeaaPkQrCountOrbitsBK2
import Derived.Test.YtemedeiolhgoeaaPkQrCountOrbitsBK1
namespace Go.Sm
open Go.RowKit

/-! ### eqInt64S -/

/-! ### eqInt64SS -/

/-! ### marks -/

end Go.Sm

namespace Go.Sm
open Go.RowKit

@[simp] theorem stOEs_set : ∀ {xs : List (List D)} {i : Nat} {e : List D}, stOEs xs = true → stOCs e = true → stOEs (xs.set i e) = true
  | [], i, e, _, _ => by simp
  | x :: xs, 0, e, h, he => by simp only [stOEs, Bool.and_eq_true, List.set_cons_zero] at h ⊢; exact ⟨he, h.2⟩
  | x :: xs, i + 1, e, h, he => by simp only [stOEs, Bool.and_eq_true, List.set_cons_succ] at h ⊢; exact ⟨h.1, stOEs_set h.2 he⟩

end Go.Sm

namespace Go.Sm
open Go.RowKit

def Pr (p : Int) : Prop := p = 2 ∨ p = 3 ∨ p = 5 ∨ p = 7 ∨ p = 11 ∨ p = 13
instance (p : Int) : Decidable (Pr p) := by unfold Pr; infer_instance

theorem isPrime_ok (p : Int) : CallOK Go.Proofs.Try.prog 60 [.one (i64 p)] (.one (bo (decide (Pr p)))) := by
  have hF := fnOk 25 [.tmp 2]
  refine callOK hF 50 Go.Proofs.Try.func60 rfl rfl rfl (by decide) (by simp) rfl ?_
  intro w0 hw
  by_cases h2 : p = 2
  · have b2 : (p == 2) = true := by simp [h2]
    have hP : decide (Pr p) = true := by simp [Pr, h2]
    rw [hP]
    simp [b2]
  have b2 : (p == 2) = false := by simp [h2]
  by_cases h3 : p = 3
  · have b3 : (p == 3) = true := by simp [h3]
    have hP : decide (Pr p) = true := by simp [Pr, h3]
    rw [hP]
    simp [b2, b3]
  have b3 : (p == 3) = false := by simp [h3]
  by_cases h5 : p = 5
  · have b5 : (p == 5) = true := by simp [h5]
    have hP : decide (Pr p) = true := by simp [Pr, h5]
    rw [hP]
    simp [b2, b3, b5]
  have b5 : (p == 5) = false := by simp [h5]
  by_cases h7 : p = 7
  · have b7 : (p == 7) = true := by simp [h7]
    have hP : decide (Pr p) = true := by simp [Pr, h7]
    rw [hP]
    simp [b2, b3, b5, b7]
  have b7 : (p == 7) = false := by simp [h7]
  by_cases h11 : p = 11
  · have b11 : (p == 11) = true := by simp [h11]
    have hP : decide (Pr p) = true := by simp [Pr, h11]
    rw [hP]
    simp [b2, b3, b5, b7, b11]
  have b11 : (p == 11) = false := by simp [h11]
  by_cases h13 : p = 13
  · have b13 : (p == 13) = true := by simp [h13]
    have hP : decide (Pr p) = true := by simp [Pr, h13]
    rw [hP]
    simp [b2, b3, b5, b7, b11, b13]
  have b13 : (p == 13) = false := by simp [h13]
  have hP : decide (Pr p) = false := by simp [Pr, h2, h3, h5, h7, h11, h13]
  rw [hP]
  simp [b2, b3, b5, b7, b11, b13]

theorem l01Prime_ok (p : Int) : CallOK Go.Proofs.Try.prog 28 [.one (i64 p)] (.one (bo (decide (Pr p)))) := by
  have hF := fnOk 25 [.tmp 2]
  refine callOK hF 50 Go.Proofs.Try.func28 rfl rfl rfl (by decide) (by simp) rfl ?_
  intro w0 hw
  by_cases h2 : p = 2
  · have b2 : (p == 2) = true := by simp [h2]
    have hP : decide (Pr p) = true := by simp [Pr, h2]
    rw [hP]
    simp [b2]
  have b2 : (p == 2) = false := by simp [h2]
  by_cases h3 : p = 3
  · have b3 : (p == 3) = true := by simp [h3]
    have hP : decide (Pr p) = true := by simp [Pr, h3]
    rw [hP]
    simp [b2, b3]
  have b3 : (p == 3) = false := by simp [h3]
  by_cases h5 : p = 5
  · have b5 : (p == 5) = true := by simp [h5]
    have hP : decide (Pr p) = true := by simp [Pr, h5]
    rw [hP]
    simp [b2, b3, b5]
  have b5 : (p == 5) = false := by simp [h5]
  by_cases h7 : p = 7
  · have b7 : (p == 7) = true := by simp [h7]
    have hP : decide (Pr p) = true := by simp [Pr, h7]
    rw [hP]
    simp [b2, b3, b5, b7]
  have b7 : (p == 7) = false := by simp [h7]
  by_cases h11 : p = 11
  · have b11 : (p == 11) = true := by simp [h11]
    have hP : decide (Pr p) = true := by simp [Pr, h11]
    rw [hP]
    simp [b2, b3, b5, b7, b11]
  have b11 : (p == 11) = false := by simp [h11]
  by_cases h13 : p = 13
  · have b13 : (p == 13) = true := by simp [h13]
    have hP : decide (Pr p) = true := by simp [Pr, h13]
    rw [hP]
    simp [b2, b3, b5, b7, b11, b13]
  have b13 : (p == 13) = false := by simp [h13]
  have hP : decide (Pr p) = false := by simp [Pr, h2, h3, h5, h7, h11, h13]
  rw [hP]
  simp [b2, b3, b5, b7, b11, b13]

end Go.Sm

namespace Go.Sm

/-- A number of a row. -/
def gt (r : List Int) (i : Nat) : Int := r.getD i 0
/-- The place of the first number other than 0; the length, if there is none. -/
def leadN (r : List Int) : Nat := r.findIdx fun x => x != 0
def RowOk (p : Int) (n : Nat) (r : List Int) : Prop := r.length = n ∧ ∀ x ∈ r, 0 ≤ x ∧ x < p
def Led (r : List Int) : Prop := leadN r < r.length
instance (r : List Int) : Decidable (Led r) := by unfold Led; infer_instance
/-- A row less c times another one. -/
def subR (p : Int) (row r : List Int) (c : Int) : List Int := List.zipWith (fun x a => (x - c * a) % p) row r
def lessL (p : Int) (L : List (List Int)) (row : List Int) : List Int := L.foldl (fun row r => subR p row r (gt row (leadN r))) row
/-- The number that makes 1 with another one. -/
def invGo (n p : Int) : Nat → Int → Int
  | 0, _ => 0
  | f + 1, k => if k < p then (if n * k % p = 1 then k else invGo n p f (k + 1)) else 0
def invN (n p : Int) : Int := invGo n p 13 1
def nrm (p : Int) (row : List Int) : List Int := row.map fun x => x * invN (gt row (leadN row)) p % p
def takeL (p : Int) (L : List (List Int)) (row : List Int) : List (List Int) :=
  if Led (lessL p L row) then L.map (fun r => subR p r (nrm p (lessL p L row)) (gt r (leadN (lessL p L row)))) ++ [nrm p (lessL p L row)] else L
def redL (p : Int) (rows : List (List Int)) : List (List Int) := rows.foldl (takeL p) []
def insL (f : List Int → List Int) (w : List Int) (k : Nat) : List (List Int) → List (List Int)
  | [] => [w]
  | r :: rs => if k < leadN r then w :: f r :: rs.map f else f r :: insL f w k rs
def echS (p : Int) (L : List (List Int)) (row : List Int) : List (List Int) :=
  if Led (lessL p L row) then insL (fun r => subR p r (nrm p (lessL p L row)) (gt r (leadN (lessL p L row)))) (nrm p (lessL p L row)) (leadN (lessL p L row)) L else L
/-- The reduced list, in order. -/
def echL (p : Int) (rows : List (List Int)) : List (List Int) := rows.foldl (echS p) []

theorem prPos {p : Int} (hp : Pr p) : 2 ≤ p ∧ p ≤ 13 := by unfold Pr at hp; omega
theorem gt_lt {r : List Int} {i : Nat} (h : i < r.length) : gt r i = r[i] := by simp [gt, h]
theorem gt_ge {r : List Int} {i : Nat} (h : r.length ≤ i) : gt r i = 0 := by simp [gt, h]
theorem gt_ext {r q : List Int} (hl : r.length = q.length) (h : ∀ i < r.length, gt r i = gt q i) : r = q := by
  refine List.ext_getElem hl fun i h1 h2 => ?_
  have := h i h1
  rwa [gt_lt h1, gt_lt h2] at this
theorem gt_range {p : Int} {n : Nat} {r : List Int} (hp : 0 < p) (h : RowOk p n r) (i : Nat) : 0 ≤ gt r i ∧ gt r i < p := by
  by_cases hi : i < r.length
  · rw [gt_lt hi]; exact h.2 _ (List.getElem_mem hi)
  · rw [gt_ge (by omega)]; omega
theorem gt_before {r : List Int} {i : Nat} (h : i < leadN r) : gt r i = 0 := by
  have hl : leadN r ≤ r.length := List.findIdx_le_length
  rw [gt_lt (by omega)]
  have := List.not_of_lt_findIdx h
  simpa using this
theorem gt_lead {r : List Int} (h : Led r) : gt r (leadN r) ≠ 0 := by
  have h' : leadN r < r.length := h
  rw [gt_lt h']
  have := List.findIdx_getElem (w := h')
  intro e
  rw [show r[leadN r] = r[List.findIdx (fun x => x != 0) r] from rfl] at e
  simp [e] at this
theorem leadN_of {r : List Int} {k : Nat} (h1 : ∀ i < k, gt r i = 0) (h2 : gt r k ≠ 0) : leadN r = k := by
  have hk : k < r.length := Decidable.byContradiction fun h => h2 (gt_ge (by omega))
  refine (List.findIdx_eq hk).2 ⟨?_, fun i hi => ?_⟩
  · rw [gt_lt hk] at h2; simpa using h2
  · have := h1 i hi
    rw [gt_lt (by omega)] at this
    simp [this]
theorem led_iff {r : List Int} : Led r ↔ ∃ i, gt r i ≠ 0 := by
  constructor
  · intro h; exact ⟨_, gt_lead h⟩
  · rintro ⟨i, hi⟩
    have hl : i < r.length := Decidable.byContradiction fun h => hi (gt_ge (by omega))
    refine Decidable.byContradiction fun hn => hi ?_
    have hl2 : leadN r ≤ r.length := List.findIdx_le_length
    unfold Led at hn
    exact gt_before (by omega)

theorem subR_ok {p : Int} {n : Nat} (hp : 0 < p) {row r : List Int} (h1 : row.length = n) (h2 : r.length = n) (c : Int) : RowOk p n (subR p row r c) ∧ ∀ i < n, gt (subR p row r c) i = (gt row i - c * gt r i) % p := by
  refine ⟨⟨by simp [subR, h1, h2], fun x hx => ?_⟩, fun i hi => ?_⟩
  · unfold subR at hx
    obtain ⟨i, hi, rfl⟩ := List.getElem_of_mem hx
    simp only [List.getElem_zipWith]
    exact ⟨Int.emod_nonneg _ (by omega), Int.emod_lt_of_pos _ hp⟩
  · rw [gt_lt (by simp [subR, h1, h2]; exact hi), gt_lt (by omega), gt_lt (by omega)]
    simp [subR]

/-- Reduced, but for the order. -/
def Red (p : Int) (n : Nat) (L : List (List Int)) : Prop :=
  (∀ r ∈ L, RowOk p n r ∧ gt r (leadN r) = 1) ∧ L.Pairwise fun r q => gt q (leadN r) = 0 ∧ gt r (leadN q) = 0
theorem Red.tail {p : Int} {n : Nat} {r : List Int} {L : List (List Int)} (h : Red p n (r :: L)) : Red p n L := ⟨fun q hq => h.1 q (List.mem_cons_of_mem _ hq), (List.pairwise_cons.1 h.2).2⟩
theorem Red.perm {p : Int} {n : Nat} {L L' : List (List Int)} (h : Red p n L) (hp : L.Perm L') : Red p n L' :=
  ⟨fun r hr => h.1 r (hp.symm.subset hr), (hp.pairwise_iff fun {_ _} hab => ⟨hab.2, hab.1⟩).1 h.2⟩
theorem lead_lt {p : Int} {n : Nat} {r : List Int} (h : RowOk p n r) (h1 : gt r (leadN r) = 1) : leadN r < n := by
  rw [← h.1]
  exact Decidable.byContradiction fun hn => by rw [gt_ge (by omega)] at h1; omega

def sumL (L : List (List Int)) (row : List Int) (k : Nat) : Int := (L.map fun r => gt row (leadN r) * gt r k).sum
theorem sum_perm {xs ys : List Int} (h : xs.Perm ys) : xs.sum = ys.sum := by
  induction h with
  | nil => rfl
  | cons x _ ih => simp [ih]
  | swap x y l => simp only [List.sum_cons]; omega
  | trans _ _ ih1 ih2 => rw [ih1, ih2]
theorem sumL_perm {L L' : List (List Int)} (h : L.Perm L') (row : List Int) (k : Nat) : sumL L row k = sumL L' row k := sum_perm (h.map _)

theorem less_ok {p : Int} {n : Nat} (hp : 0 < p) : ∀ {L : List (List Int)} {row : List Int}, Red p n L → RowOk p n row → RowOk p n (lessL p L row) ∧ ∀ k < n, gt (lessL p L row) k = (gt row k - sumL L row k) % p
  | [], row, _, hr => by
    refine ⟨hr, fun k hk => ?_⟩
    have := gt_range hp hr k
    simp only [lessL, List.foldl_nil, sumL, List.map_nil, List.sum_nil, Int.sub_zero]
    exact (Int.emod_eq_of_lt this.1 this.2).symm
  | r :: L, row, hR, hr => by
    obtain ⟨hr0, hr1⟩ := hR.1 r (List.mem_cons_self ..)
    obtain ⟨s1, s2⟩ := subR_ok hp hr.1 hr0.1 (gt row (leadN r))
    obtain ⟨k1, k2⟩ := less_ok hp hR.tail s1
    have e : lessL p (r :: L) row = lessL p L (subR p row r (gt row (leadN r))) := rfl
    rw [e]
    refine ⟨k1, fun k hk => ?_⟩
    have hs : sumL L (subR p row r (gt row (leadN r))) k = sumL L row k := by
      unfold sumL
      congr 1
      refine List.map_congr_left fun q hq => ?_
      obtain ⟨hq0, hq1⟩ := hR.tail.1 q hq
      have h0 := ((List.pairwise_cons.1 hR.2).1 q hq).2
      have hb := gt_range hp hr (leadN q)
      rw [s2 _ (lead_lt hq0 hq1), h0, Int.mul_zero, Int.sub_zero, Int.emod_eq_of_lt hb.1 hb.2]
    rw [k2 k hk, s2 k hk, hs]
    unfold sumL
    rw [List.map_cons, List.sum_cons, Int.emod_sub_emod]
    congr 1; omega
theorem less_perm {p : Int} {n : Nat} (hp : 0 < p) {L L' : List (List Int)} {row : List Int} (hR : Red p n L) (hP : L.Perm L') (hr : RowOk p n row) : lessL p L row = lessL p L' row := by
  obtain ⟨a1, a2⟩ := less_ok hp hR hr
  obtain ⟨b1, b2⟩ := less_ok hp (hR.perm hP) hr
  refine gt_ext (a1.1.trans b1.1.symm) fun i hi => ?_
  rw [a2 i (by rw [← a1.1]; exact hi), b2 i (by rw [← a1.1]; exact hi), sumL_perm hP]
/-- What is left has 0 where the rows begin. -/
theorem sum_at {p : Int} {n : Nat} : ∀ {L : List (List Int)} {row : List Int}, Red p n L → ∀ r ∈ L, sumL L row (leadN r) = gt row (leadN r)
  | [], _, _, r, h => by cases h
  | q :: L, row, hR, r, h => by
    have hz : ∀ {L : List (List Int)} {r : List Int}, (∀ q ∈ L, gt q (leadN r) = 0) → sumL L row (leadN r) = 0 := by
      intro L r
      induction L with
      | nil => intro _; rfl
      | cons q L ih =>
        intro h
        have := ih fun x hx => h x (List.mem_cons_of_mem _ hx)
        unfold sumL at this ⊢
        rw [List.map_cons, List.sum_cons, this, h q (List.mem_cons_self ..)]; simp
    have e : sumL (q :: L) row (leadN r) = gt row (leadN q) * gt q (leadN r) + sumL L row (leadN r) := by simp [sumL]
    rw [e]
    have hpw := (List.pairwise_cons.1 hR.2).1
    rcases List.mem_cons.1 h with rfl | h
    · rw [(hR.1 r (List.mem_cons_self ..)).2, hz fun x hx => (hpw x hx).1]; omega
    · rw [(hpw r h).2, sum_at hR.tail r h]; omega
theorem less_zero {p : Int} {n : Nat} (hp : 0 < p) {L : List (List Int)} {row : List Int} (hR : Red p n L) (hr : RowOk p n row) : ∀ r ∈ L, gt (lessL p L row) (leadN r) = 0 := by
  intro r h
  obtain ⟨h0, h1⟩ := hR.1 r h
  rw [(less_ok hp hR hr).2 _ (lead_lt h0 h1), sum_at hR r h, Int.sub_self, Int.zero_emod]

/-! ### inverses -/
theorem inv_ok {p n : Int} (hp : Pr p) (h1 : 1 ≤ n) (h2 : n < p) : n * invN n p % p = 1 ∧ 1 ≤ invN n p ∧ invN n p < p := by
  have key : ∀ p ∈ [2, 3, 5, 7, 11, 13], ∀ m ∈ List.range p, 1 ≤ m → (m : Int) * invN m p % p = 1 ∧ 1 ≤ invN m p ∧ invN m p < p := by decide
  obtain ⟨m, rfl⟩ : ∃ m : Nat, n = m := ⟨n.toNat, by omega⟩
  rcases hp with rfl | rfl | rfl | rfl | rfl | rfl
  · exact key 2 (by simp) m (List.mem_range.2 (by omega)) (by omega)
  · exact key 3 (by simp) m (List.mem_range.2 (by omega)) (by omega)
  · exact key 5 (by simp) m (List.mem_range.2 (by omega)) (by omega)
  · exact key 7 (by simp) m (List.mem_range.2 (by omega)) (by omega)
  · exact key 11 (by simp) m (List.mem_range.2 (by omega)) (by omega)
  · exact key 13 (by simp) m (List.mem_range.2 (by omega)) (by omega)

theorem nrm_ok {p : Int} {n : Nat} (hp : Pr p) {row : List Int} (hr : RowOk p n row) (hl : Led row) : RowOk p n (nrm p row) ∧ leadN (nrm p row) = leadN row ∧ gt (nrm p row) (leadN row) = 1 ∧
    ∀ i, gt (nrm p row) i = gt row i * invN (gt row (leadN row)) p % p := by
  have hpp := prPos hp
  have h0 := gt_lead hl
  have hb := gt_range (by omega) hr (leadN row)
  obtain ⟨k1, k2, k3⟩ := inv_ok hp (n := gt row (leadN row)) (by omega) hb.2
  have hg : ∀ i, gt (nrm p row) i = gt row i * invN (gt row (leadN row)) p % p := by
    intro i
    by_cases hi : i < row.length
    · rw [gt_lt (by simpa [nrm] using hi), gt_lt hi]; simp [nrm]
    · rw [gt_ge (by simp [nrm]; omega), gt_ge (by omega)]; simp
  have h1 : gt (nrm p row) (leadN row) = 1 := by rw [hg, k1]
  refine ⟨⟨by simp [nrm, hr.1], fun x hx => ?_⟩, leadN_of (fun i hi => by rw [hg, gt_before hi]; simp) (by rw [h1]; omega), h1, hg⟩
  obtain ⟨y, _, rfl⟩ := List.mem_map.1 hx
  exact ⟨Int.emod_nonneg _ (by omega), Int.emod_lt_of_pos _ (by omega)⟩

/-- One row more. -/
theorem take_red {p : Int} {n : Nat} (hp : Pr p) {L : List (List Int)} {row : List Int} (hR : Red p n L) (hr : RowOk p n row) (hl : Led (lessL p L row)) :
    (∀ r ∈ L, leadN (subR p r (nrm p (lessL p L row)) (gt r (leadN (lessL p L row)))) = leadN r) ∧
    Red p n (L.map (fun r => subR p r (nrm p (lessL p L row)) (gt r (leadN (lessL p L row)))) ++ [nrm p (lessL p L row)]) := by
  have hpp := prPos hp
  have hp0 : 0 < p := by omega
  obtain ⟨w1, _⟩ := less_ok hp0 hR hr
  have hz := less_zero hp0 hR hr
  obtain ⟨n1, n2, n3, n4⟩ := nrm_ok hp w1 hl
  generalize lessL p L row = row1 at *
  generalize nrm p row1 = w at *
  have hwz : ∀ r ∈ L, gt w (leadN r) = 0 := fun r h => by rw [n4, hz r h]; simp
  have hwb : ∀ i < leadN row1, gt w i = 0 := fun i hi => gt_before (by rw [n2]; exact hi)
  have hsub : ∀ r ∈ L, RowOk p n (subR p r w (gt r (leadN row1))) ∧ ∀ i < n, gt (subR p r w (gt r (leadN row1))) i = (gt r i - gt r (leadN row1) * gt w i) % p := fun r h => subR_ok hp0 (hR.1 r h).1.1 n1.1 _
  have h1p : (1 : Int) % p = 1 := Int.emod_eq_of_lt (by omega) (by omega)
  have hone : ∀ r ∈ L, gt (subR p r w (gt r (leadN row1))) (leadN r) = 1 := by
    intro r h
    obtain ⟨h0, h1⟩ := hR.1 r h
    rw [(hsub r h).2 _ (lead_lt h0 h1), hwz r h, h1]; simpa using h1p
  have hlead : ∀ r ∈ L, leadN (subR p r w (gt r (leadN row1))) = leadN r := by
    intro r h
    obtain ⟨h0, h1⟩ := hR.1 r h
    refine leadN_of (fun i hi => ?_) (by rw [hone r h]; omega)
    rw [(hsub r h).2 _ (by have := lead_lt h0 h1; omega), gt_before hi]
    by_cases hc : i < leadN row1
    · rw [hwb i hc]; simp
    · rw [gt_before (r := r) (i := leadN row1) (by omega)]; simp
  refine ⟨hlead, fun q hq => ?_, ?_⟩
  · rcases List.mem_append.1 hq with hq | hq
    · obtain ⟨r, h, rfl⟩ := List.mem_map.1 hq
      refine ⟨(hsub r h).1, ?_⟩
      rw [hlead r h]; exact hone r h
    · simp only [List.mem_singleton] at hq; subst hq
      refine ⟨n1, ?_⟩
      rw [n2]; exact n3
  · refine List.pairwise_append.2 ⟨?_, List.pairwise_singleton _ _, fun q hq q' hq' => ?_⟩
    · rw [List.pairwise_map]
      refine hR.2.imp_of_mem fun {r r'} hr hr' hrr => ?_
      obtain ⟨a0, a1⟩ := hR.1 r hr
      obtain ⟨b0, b1⟩ := hR.1 r' hr'
      rw [hlead r hr, hlead r' hr', (hsub r' hr').2 _ (lead_lt a0 a1), (hsub r hr).2 _ (lead_lt b0 b1), hrr.1, hrr.2, hwz r hr, hwz r' hr']
      simp
    · obtain ⟨r, h, rfl⟩ := List.mem_map.1 hq
      simp only [List.mem_singleton] at hq'; subst hq'
      have hln : leadN row1 < n := by have := hl; unfold Led at this; rw [w1.1] at this; exact this
      rw [hlead r h, n2, (hsub r h).2 _ hln, n3]
      refine ⟨hwz r h, ?_⟩
      simp

theorem ins_perm (f : List Int → List Int) (w : List Int) (k : Nat) : ∀ L : List (List Int), (insL f w k L).Perm (L.map f ++ [w])
  | [] => by simp [insL]
  | r :: L => by
    unfold insL
    split
    · rw [List.map_cons, List.cons_append]
      refine (List.perm_append_comm (l₁ := [w]) (l₂ := f r :: L.map f)).trans ?_
      exact List.Perm.refl _
    · rw [List.map_cons, List.cons_append]
      exact (ins_perm f w k L).cons _
abbrev Srt (L : List (List Int)) : Prop := L.Pairwise fun r q => leadN r < leadN q
theorem ins_srt {f : List Int → List Int} {w : List Int} {k : Nat} (hw : leadN w = k) : ∀ {L : List (List Int)}, (∀ r ∈ L, leadN (f r) = leadN r) → (∀ r ∈ L, leadN r ≠ k) → Srt L → Srt (insL f w k L)
  | [], _, _, _ => by simp [insL, Srt]
  | r :: L, hf, hne, hs => by
    have hs' := List.pairwise_cons.1 hs
    have hmap : Srt (L.map f) := by
      unfold Srt
      rw [List.pairwise_map]
      refine hs'.2.imp_of_mem fun {a b} ha hb hab => ?_
      rw [hf a (List.mem_cons_of_mem _ ha), hf b (List.mem_cons_of_mem _ hb)]; exact hab
    have hfm : ∀ q ∈ L.map f, leadN r < leadN q := fun q hq => by
      obtain ⟨x, hx, rfl⟩ := List.mem_map.1 hq
      rw [hf x (List.mem_cons_of_mem _ hx)]; exact hs'.1 x hx
    unfold insL
    split
    · rename_i hlt
      refine List.pairwise_cons.2 ⟨fun q hq => ?_, List.pairwise_cons.2 ⟨fun q hq => ?_, hmap⟩⟩
      · rw [hw]
        rcases List.mem_cons.1 hq with rfl | hq
        · rw [hf r (List.mem_cons_self ..)]; exact hlt
        · exact Nat.lt_trans hlt (hfm q hq)
      · rw [hf r (List.mem_cons_self ..)]; exact hfm q hq
    · rename_i hge
      have hlt : leadN r < k := by have := hne r (List.mem_cons_self ..); omega
      refine List.pairwise_cons.2 ⟨fun q hq => ?_, ins_srt hw (fun x hx => hf x (List.mem_cons_of_mem _ hx)) (fun x hx => hne x (List.mem_cons_of_mem _ hx)) hs'.2⟩
      rw [hf r (List.mem_cons_self ..)]
      rcases List.mem_append.1 ((ins_perm f w k L).subset hq) with hq | hq
      · exact hfm q hq
      · simp only [List.mem_singleton] at hq; subst hq; rw [hw]; exact hlt

/-- The program's list and the reference's. -/
def Both (p : Int) (n : Nat) (L E : List (List Int)) : Prop := Red p n L ∧ E.Perm L ∧ Srt E
theorem Both.step {p : Int} {n : Nat} (hp : Pr p) {L E : List (List Int)} (h : Both p n L E) {row : List Int} (hr : RowOk p n row) : Both p n (takeL p L row) (echS p E row) := by
  obtain ⟨h1, h2, h3⟩ := h
  have hp0 : 0 < p := by have := prPos hp; omega
  have e : lessL p E row = lessL p L row := (less_perm hp0 h1 h2.symm hr).symm
  unfold takeL echS
  rw [e]
  split
  · rename_i hl
    obtain ⟨t1, t2⟩ := take_red hp h1 hr hl
    obtain ⟨w1, _⟩ := less_ok hp0 h1 hr
    obtain ⟨_, n2, n3, _⟩ := nrm_ok hp w1 hl
    have hz := less_zero hp0 h1 hr
    refine ⟨t2, (ins_perm _ _ _ _).trans ((h2.map _).append_right _), ins_srt n2 (fun r hr' => t1 r (h2.subset hr')) (fun r hr' hc => ?_) h3⟩
    have := hz r (h2.subset hr')
    rw [hc] at this
    exact gt_lead hl this
  · exact ⟨h1, h2, h3⟩
theorem both_nil (p : Int) (n : Nat) : Both p n [] [] := ⟨⟨fun _ h => (nomatch h), List.Pairwise.nil⟩, List.Perm.refl _, List.Pairwise.nil⟩
theorem both_ok {p : Int} {n : Nat} (hp : Pr p) (rows : List (List Int)) : ∀ {L E : List (List Int)}, Both p n L E → (∀ r ∈ rows, RowOk p n r) → Both p n (rows.foldl (takeL p) L) (rows.foldl (echS p) E) := by
  induction rows with
  | nil => intro L E h _; exact h
  | cons r rows ih =>
    intro L E h hr
    exact ih (h.step hp (hr r (List.mem_cons_self ..))) fun q hq => hr q (List.mem_cons_of_mem _ hq)
theorem red_len {p : Int} : ∀ {rows L : List (List Int)}, (rows.foldl (takeL p) L).length ≤ L.length + rows.length
  | [], L => by simp
  | r :: rows, L => by
    have := red_len (p := p) (rows := rows) (L := takeL p L r)
    have h2 : (takeL p L r).length ≤ L.length + 1 := by unfold takeL; split <;> simp
    simp only [List.foldl_cons, List.length_cons]; omega

end Go.Sm

namespace Go.Sm

theorem subR_zeroP {p : Int} {n : Nat} (hp : 0 < p) {row r : List Int} (h : RowOk p n row) (h2 : r.length = n) : subR p row r 0 = row := by
  obtain ⟨s1, s2⟩ := subR_ok hp h.1 h2 0
  refine gt_ext (s1.1.trans h.1.symm) fun i hi => ?_
  have := gt_range hp h i
  rw [s2 i (by rw [← s1.1]; exact hi), Int.zero_mul, Int.sub_zero, Int.emod_eq_of_lt this.1 this.2]
theorem less_idP {p : Int} {n : Nat} (hp : 0 < p) : ∀ {L : List (List Int)} {row : List Int}, RowOk p n row → (∀ r ∈ L, r.length = n ∧ gt row (leadN r) = 0) → lessL p L row = row
  | [], row, _, _ => rfl
  | r :: L, row, hr, h => by
    have h0 := h r (List.mem_cons_self ..)
    have e : lessL p (r :: L) row = lessL p L (subR p row r (gt row (leadN r))) := rfl
    rw [e, h0.2, subR_zeroP hp hr h0.1]
    exact less_idP hp hr fun q hq => h q (List.mem_cons_of_mem _ hq)
theorem led_one {r : List Int} (h : gt r (leadN r) = 1) : Led r := led_iff.2 ⟨_, by rw [h]; omega⟩
theorem nrm_id {p : Int} {n : Nat} (hp : Pr p) {row : List Int} (hr : RowOk p n row) (h1 : gt row (leadN row) = 1) : nrm p row = row := by
  have hpp := prPos hp
  have hi := inv_ok hp (n := 1) (by omega) (by omega)
  have e1 : invN 1 p = 1 := by
    have := hi.1
    rw [Int.one_mul, Int.emod_eq_of_lt (by omega) hi.2.2] at this; exact this
  obtain ⟨n1, _, _, n4⟩ := nrm_ok hp hr (led_one h1)
  refine gt_ext (n1.1.trans hr.1.symm) fun i _ => ?_
  have := gt_range (by omega) hr i
  rw [n4, h1, e1, Int.mul_one, Int.emod_eq_of_lt this.1 this.2]
theorem insL_end {f : List Int → List Int} {w : List Int} {k : Nat} : ∀ {L : List (List Int)}, (∀ r ∈ L, leadN r < k ∧ f r = r) → insL f w k L = L ++ [w]
  | [], _ => rfl
  | r :: L, h => by
    obtain ⟨h1, h2⟩ := h r (List.mem_cons_self ..)
    unfold insL
    rw [if_neg (by omega), h2, insL_end fun q hq => h q (List.mem_cons_of_mem _ hq)]; rfl
theorem Red.append {p : Int} {n : Nat} {L M : List (List Int)} (h : Red p n (L ++ M)) : Red p n L ∧ Red p n M ∧ ∀ r ∈ L, ∀ q ∈ M, gt q (leadN r) = 0 ∧ gt r (leadN q) = 0 := by
  obtain ⟨h1, h2⟩ := h
  obtain ⟨a, b, c⟩ := List.pairwise_append.1 h2
  exact ⟨⟨fun r hr => h1 r (List.mem_append_left _ hr), a⟩, ⟨fun r hr => h1 r (List.mem_append_right _ hr), b⟩, c⟩
theorem ech_step_id {p : Int} {n : Nat} (hp : Pr p) {L : List (List Int)} {r : List Int} (hR : Red p n (L ++ [r])) (hs : Srt (L ++ [r])) : echS p L r = L ++ [r] := by
  have hp0 : 0 < p := by have := prPos hp; omega
  obtain ⟨h1, h2, h3⟩ := hR.append
  obtain ⟨r1, r2⟩ := h2.1 r (by simp)
  have e : lessL p L r = r := less_idP hp0 r1 fun q hq => ⟨(h1.1 q hq).1.1, (h3 q hq r (by simp)).1⟩
  unfold echS
  rw [e, if_pos (led_one r2), nrm_id hp r1 r2]
  refine insL_end fun q hq => ⟨(List.pairwise_append.1 hs).2.2 q hq r (by simp), ?_⟩
  rw [(h3 q hq r (by simp)).2]
  exact subR_zeroP hp0 (h1.1 q hq).1 r1.1
theorem ech_id_go {p : Int} {n : Nat} (hp : Pr p) : ∀ (M L : List (List Int)), Red p n (L ++ M) → Srt (L ++ M) → M.foldl (echS p) L = L ++ M
  | [], L, _, _ => by simp
  | r :: M, L, hR, hs => by
    have e : L ++ r :: M = (L ++ [r]) ++ M := by simp
    rw [e] at hR hs
    have h1 := ech_step_id hp hR.append.1 (List.pairwise_append.1 hs).1
    rw [List.foldl_cons, h1, ech_id_go hp M (L ++ [r]) hR hs, e]
/-- A reduced list in order. -/
theorem ech_id {p : Int} {n : Nat} (hp : Pr p) {E : List (List Int)} (hR : Red p n E) (hs : Srt E) : echL p E = E := by
  have := ech_id_go hp E [] (by simpa using hR) (by simpa using hs)
  simpa [echL] using this
end Go.Sm

namespace Go.Sm

/-- A row that is a sum of multiples of rows. -/
def InSp (p : Int) (n : Nat) (L : List (List Int)) (v : List Int) : Prop := ∀ k < n, (gt v k - sumL L v k) % p = 0
theorem sum_zero {L : List (List Int)} {v : List Int} {k : Nat} (h : ∀ m ∈ L, gt v (leadN m) * gt m k = 0) : sumL L v k = 0 := by
  induction L with
  | nil => rfl
  | cons m L ih =>
    have e : sumL (m :: L) v k = gt v (leadN m) * gt m k + sumL L v k := by simp [sumL]
    rw [e, h m (List.mem_cons_self ..), ih fun q hq => h q (List.mem_cons_of_mem _ hq)]; rfl
theorem sp_lead {p : Int} {n : Nat} (hp : 0 < p) {M : List (List Int)} {v : List Int} (hv : RowOk p n v) (hl : Led v) (hs : InSp p n M v) : ∃ m ∈ M, leadN m = leadN v := by
  refine Decidable.byContradiction fun hn => ?_
  have hk : leadN v < n := by rw [← hv.1]; exact hl
  have h0 := hs _ hk
  have hz : sumL M v (leadN v) = 0 := sum_zero fun m hm => by
    rcases Nat.lt_trichotomy (leadN m) (leadN v) with h | h | h
    · rw [gt_before h]; simp
    · exact absurd ⟨m, hm, h⟩ hn
    · rw [gt_before (r := m) h]; simp
  have hb := gt_range hp hv (leadN v)
  rw [hz, Int.sub_zero, Int.emod_eq_of_lt hb.1 hb.2] at h0
  exact gt_lead hl h0
theorem sum_one {M : List (List Int)} {r m : List Int} {j : Nat} (hs : Srt M) (hm : m ∈ M) (h : ∀ q ∈ M, leadN q ≠ leadN m → gt r (leadN q) = 0) : sumL M r j = gt r (leadN m) * gt m j := by
  induction M with
  | nil => cases hm
  | cons q M ih =>
    have hs' := List.pairwise_cons.1 hs
    have e : sumL (q :: M) r j = gt r (leadN q) * gt q j + sumL M r j := by simp [sumL]
    rw [e]
    rcases List.mem_cons.1 hm with rfl | hm'
    · rw [sum_zero (L := M) fun x hx => by
        rw [h x (List.mem_cons_of_mem _ hx) (by have := hs'.1 x hx; omega)]; simp]
      omega
    · have h1 := hs'.1 m hm'
      rw [h q (List.mem_cons_self ..) (by omega), ih hs'.2 hm' fun x hx => h x (List.mem_cons_of_mem _ hx)]; simp
theorem red_pair {p : Int} {n : Nat} {L : List (List Int)} (hR : Red p n L) {a b : List Int} (ha : a ∈ L) (hb : b ∈ L) (hne : a ≠ b) : gt a (leadN b) = 0 := by
  obtain ⟨i, hi, rfl⟩ := List.getElem_of_mem ha
  obtain ⟨j, hj, rfl⟩ := List.getElem_of_mem hb
  rcases Nat.lt_trichotomy i j with h' | h' | h'
  · exact (List.pairwise_iff_getElem.1 hR.2 i j hi hj h').2
  · subst h'; exact absurd rfl hne
  · exact (List.pairwise_iff_getElem.1 hR.2 j i hj hi h').1
theorem sp_mem {p : Int} {n : Nat} (hp : 0 < p) {L M : List (List Int)} (hL : Red p n L) (hM : Red p n M) (sM : Srt M) (h1 : ∀ r ∈ L, InSp p n M r) (h2 : ∀ m ∈ M, InSp p n L m) : ∀ r ∈ L, r ∈ M := by
  intro r hr
  obtain ⟨r1, r2⟩ := hL.1 r hr
  obtain ⟨m, hm, hlm⟩ := sp_lead hp r1 (led_one r2) (h1 r hr)
  obtain ⟨m1, m2⟩ := hM.1 m hm
  have hz : ∀ q ∈ M, leadN q ≠ leadN m → gt r (leadN q) = 0 := fun q hq hne => by
    obtain ⟨q1, q2⟩ := hM.1 q hq
    obtain ⟨x, hx, hlx⟩ := sp_lead hp q1 (led_one q2) (h2 q hq)
    rw [← hlx]
    refine red_pair hL hr hx fun e => hne ?_
    rw [← hlx, ← e, hlm]
  have e : r = m := by
    refine gt_ext (r1.1.trans m1.1.symm) fun j hj => ?_
    have hj : j < n := by rw [← r1.1]; exact hj
    have h := h1 r hr j hj
    rw [sum_one sM hm hz, hlm, r2, Int.one_mul] at h
    have b1 := gt_range hp r1 j
    have b2 := gt_range hp m1 j
    have := Int.emod_emod_of_dvd (gt r j - gt m j) (Int.dvd_refl p)
    obtain ⟨c, hc⟩ := Int.dvd_of_emod_eq_zero h
    rcases Int.lt_trichotomy c 0 with h0 | h0 | h0
    · have : p * c ≤ p * (-1) := Int.mul_le_mul_of_nonneg_left (by omega) (by omega)
      omega
    · rw [h0] at hc; omega
    · have : p * 1 ≤ p * c := Int.mul_le_mul_of_nonneg_left (by omega) (by omega)
      omega
  rw [e]; exact hm
theorem srt_nodup {M : List (List Int)} (hs : Srt M) : M.Nodup := hs.imp fun {a b} h e => by rw [e] at h; omega
/-- One space, one list. -/
theorem red_unique {p : Int} {n : Nat} (hp : 0 < p) {L M : List (List Int)} (hL : Red p n L) (sL : Srt L) (hM : Red p n M) (sM : Srt M) (h1 : ∀ r ∈ L, InSp p n M r) (h2 : ∀ m ∈ M, InSp p n L m) : L = M := by
  have hp1 := sp_mem hp hL hM sM h1 h2
  have hp2 := sp_mem hp hM hL sL h2 h1
  have hP : L.Perm M := (List.perm_ext_iff_of_nodup (srt_nodup sL) (srt_nodup sM)).2 fun a => ⟨hp1 a, hp2 a⟩
  exact List.Perm.eq_of_pairwise (fun a b _ _ h1 h2 => absurd h1 (by omega)) sL sM hP

end Go.Sm

namespace Go.Sm

theorem dm {p x : Int} (h : p ∣ x) (c : Int) : p ∣ c * x := by
  obtain ⟨y, rfl⟩ := h
  exact ⟨c * y, by rw [Int.mul_left_comm]⟩
/-- Alike modulo p at the first n places. -/
def Al (p : Int) (n : Nat) (f g : Nat → Int) : Prop := ∀ k < n, p ∣ f k - g k
theorem Al.refl (p : Int) (n : Nat) (f : Nat → Int) : Al p n f f := fun k _ => by rw [Int.sub_self]; exact Int.dvd_zero p
theorem Al.symm {p : Int} {n : Nat} {f g : Nat → Int} (h : Al p n f g) : Al p n g f := fun k hk => by
  have := Int.dvd_neg.2 (h k hk)
  rwa [Int.neg_sub] at this
theorem Al.trans {p : Int} {n : Nat} {f g h : Nat → Int} (h1 : Al p n f g) (h2 : Al p n g h) : Al p n f h := fun k hk => by
  have := Int.dvd_add (h1 k hk) (h2 k hk)
  rwa [show f k - g k + (g k - h k) = f k - h k by omega] at this
theorem Al.add {p : Int} {n : Nat} {f g f' g' : Nat → Int} (h1 : Al p n f g) (h2 : Al p n f' g') : Al p n (fun k => f k + f' k) (fun k => g k + g' k) := fun k hk => by
  have := Int.dvd_add (h1 k hk) (h2 k hk)
  rwa [show f k - g k + (f' k - g' k) = f k + f' k - (g k + g' k) by omega] at this
/-- The sums of multiples. -/
inductive Sp (p : Int) (n : Nat) (S : List Int → Prop) : (Nat → Int) → Prop
  | zero {f : Nat → Int} : Al p n f (fun _ => 0) → Sp p n S f
  | add {r : List Int} {f g : Nat → Int} (c : Int) : S r → Sp p n S f → Al p n g (fun k => f k + c * gt r k) → Sp p n S g

variable {p : Int} {n : Nat} {S T : List Int → Prop}

theorem Sp.al {f g : Nat → Int} (h : Sp p n S f) (he : Al p n g f) : Sp p n S g := by
  cases h with
  | zero h => exact .zero (he.trans h)
  | add c hr hs h => exact .add c hr hs (he.trans h)
theorem Sp.one {r : List Int} (h : S r) : Sp p n S (gt r) := .add 1 h (.zero (Al.refl p n _)) fun k _ => by rw [show gt r k - (0 + 1 * gt r k) = 0 by omega]; exact Int.dvd_zero p
theorem Sp.sum {f g : Nat → Int} (hf : Sp p n S f) (hg : Sp p n S g) : Sp p n S fun k => f k + g k := by
  induction hg with
  | @zero g0 h =>
    refine hf.al fun k hk => ?_
    have := h k hk
    simp only [Int.sub_zero] at this
    rwa [show f k + g0 k - f k = g0 k by omega]
  | @add r g0 g1 c hr _ h ih =>
    refine .add c hr ih fun k hk => ?_
    have := h k hk
    simp only at this ⊢
    rwa [show f k + g1 k - (f k + g0 k + c * gt r k) = g1 k - (g0 k + c * gt r k) by omega]
theorem Sp.mul {f : Nat → Int} (a : Int) (hf : Sp p n S f) : Sp p n S fun k => a * f k := by
  induction hf with
  | @zero g0 h =>
    refine .zero fun k hk => ?_
    have := dm (h k hk) a
    simpa using this
  | @add r g0 g1 c hr _ h ih =>
    refine .add (a * c) hr ih fun k hk => ?_
    have := dm (h k hk) a
    simp only at this ⊢
    rwa [Int.mul_sub, Int.mul_add, ← Int.mul_assoc] at this
theorem Sp.sub {f g : Nat → Int} (hf : Sp p n S f) (hg : Sp p n S g) : Sp p n S fun k => f k - g k :=
  (hf.sum (hg.mul (-1))).al fun k _ => by rw [show f k - g k - (f k + -1 * g k) = 0 by omega]; exact Int.dvd_zero p
theorem Sp.into {f : Nat → Int} (hf : Sp p n S f) (h : ∀ r, S r → Sp p n T (gt r)) : Sp p n T f := by
  induction hf with
  | zero h => exact .zero h
  | @add r g0 g1 c hr _ he ih => exact (ih.sum ((h r hr).mul c)).al he
theorem Sp.more {f : Nat → Int} (hf : Sp p n S f) (h : ∀ r, S r → T r) : Sp p n T f := hf.into fun _ hr => .one (h _ hr)

def sumF (L : List (List Int)) (f : Nat → Int) (k : Nat) : Int := (L.map fun r => f (leadN r) * gt r k).sum
theorem sumF_cons (r : List Int) (L : List (List Int)) (f : Nat → Int) (k : Nat) : sumF (r :: L) f k = f (leadN r) * gt r k + sumF L f k := by simp [sumF]
theorem sumF_sp (f : Nat → Int) : ∀ {L : List (List Int)}, (∀ r ∈ L, S r) → Sp p n S (sumF L f)
  | [], _ => .zero (Al.refl p n _)
  | r :: L, h => by
    have h1 := (Sp.one (p := p) (n := n) (h r (List.mem_cons_self ..))).mul (f (leadN r))
    have h2 := sumF_sp f fun q hq => h q (List.mem_cons_of_mem _ hq)
    exact (h1.sum h2).al fun k _ => by rw [sumF_cons, Int.sub_self]; exact Int.dvd_zero p
theorem sumF_lin {f g : Nat → Int} {c : Int} {r : List Int} (he : Al p n g fun k => f k + c * gt r k) : ∀ {L : List (List Int)}, (∀ q ∈ L, leadN q < n) → ∀ k, p ∣ sumF L g k - (sumF L f k + c * sumF L (gt r) k)
  | [], _, k => by simp [sumF]
  | q :: L, h, k => by
    have h1 := dm (he (leadN q) (h q (List.mem_cons_self ..))) (gt q k)
    simp only at h1
    rw [Int.mul_comm] at h1
    have h2 := sumF_lin he (L := L) (fun x hx => h x (List.mem_cons_of_mem _ hx)) k
    have := Int.dvd_add h1 h2
    rw [sumF_cons, sumF_cons, sumF_cons]
    rw [Int.sub_mul, Int.add_mul, Int.mul_assoc] at this
    rw [show g (leadN q) * gt q k + sumF L g k - (f (leadN q) * gt q k + sumF L f k + c * (gt r (leadN q) * gt q k + sumF L (gt r) k)) = g (leadN q) * gt q k - (f (leadN q) * gt q k + c * (gt r (leadN q) * gt q k)) + (sumF L g k - (sumF L f k + c * sumF L (gt r) k)) by rw [Int.mul_add]; omega]
    exact this

theorem sumF_zero {f : Nat → Int} : ∀ {L : List (List Int)}, (∀ r ∈ L, p ∣ f (leadN r)) → ∀ k, p ∣ sumF L f k
  | [], _, k => by simp [sumF]
  | q :: L, h, k => by
    have h1 := dm (h q (List.mem_cons_self ..)) (gt q k)
    rw [Int.mul_comm] at h1
    rw [sumF_cons]
    exact Int.dvd_add h1 (sumF_zero (fun x hx => h x (List.mem_cons_of_mem _ hx)) k)
theorem sumF_null {f : Nat → Int} : ∀ {L : List (List Int)}, (∀ r ∈ L, f (leadN r) = 0) → ∀ k, sumF L f k = 0
  | [], _, k => rfl
  | q :: L, h, k => by rw [sumF_cons, h q (List.mem_cons_self ..), sumF_null (fun x hx => h x (List.mem_cons_of_mem _ hx)) k]; simp
theorem red_fix : ∀ {L : List (List Int)}, Red p n L → ∀ r ∈ L, ∀ k, sumF L (gt r) k = gt r k
  | [], _, r, h, _ => by cases h
  | q :: L, hR, r, h, k => by
    have hpw := (List.pairwise_cons.1 hR.2).1
    rw [sumF_cons]
    rcases List.mem_cons.1 h with rfl | h
    · rw [(hR.1 r (List.mem_cons_self ..)).2, sumF_null (fun x hx => (hpw x hx).2) k]; omega
    · rw [(hpw r h).1, red_fix hR.tail r h k]; omega
/-- What is in the space of a reduced list is told by its numbers at the leads. -/
theorem sp_red {L : List (List Int)} (hR : Red p n L) {f : Nat → Int} (h : Sp p n (· ∈ L) f) : ∀ k < n, p ∣ f k - sumF L f k := by
  have hl : ∀ q ∈ L, leadN q < n := fun q hq => lead_lt (hR.1 q hq).1 (hR.1 q hq).2
  induction h with
  | @zero f h =>
    intro k hk
    have h1 := h k hk
    have h2 := sumF_zero (p := p) (f := f) (L := L) (fun r hr => by have := h _ (hl r hr); simpa using this) k
    simp only [Int.sub_zero] at h1
    exact Int.dvd_sub h1 h2
  | @add r f g c hr _ he ih =>
    intro k hk
    have h1 := sumF_lin (n := n) he (L := L) hl k
    rw [red_fix hR r hr k] at h1
    have h2 := he k hk
    simp only at h2
    have := Int.dvd_sub (Int.dvd_add h2 (ih k hk)) h1
    rwa [show g k - (f k + c * gt r k) + (f k - sumF L f k) - (sumF L g k - (sumF L f k + c * gt r k)) = g k - sumF L g k by omega] at this
theorem sp_inSp {L : List (List Int)} (hR : Red p n L) {v : List Int} (h : Sp p n (· ∈ L) (gt v)) : InSp p n L v := fun k hk => Int.emod_eq_zero_of_dvd (sp_red hR h k hk)
theorem mod_al (x : Int) : p ∣ x % p - x := by
  have := Int.mul_ediv_add_emod x p
  exact ⟨-(x / p), by rw [Int.mul_neg]; omega⟩
theorem less_al (hp : 0 < p) {L : List (List Int)} {row : List Int} (hR : Red p n L) (hr : RowOk p n row) : Al p n (gt (lessL p L row)) fun k => gt row k - sumF L (gt row) k := fun k hk => by
  rw [(less_ok hp hR hr).2 k hk]
  exact mod_al _
theorem subR_al (hp : 0 < p) {row r : List Int} (h1 : row.length = n) (h2 : r.length = n) (c : Int) : Al p n (gt (subR p row r c)) fun k => gt row k - c * gt r k := fun k hk => by
  rw [(subR_ok hp h1 h2 c).2 k hk]
  exact mod_al _

/-- One row more: the space of the list and the row. -/
theorem take_sp (hp : Pr p) {L : List (List Int)} {row : List Int} (hR : Red p n L) (hr : RowOk p n row) :
    (∀ r, r ∈ L ∨ r = row → Sp p n (· ∈ takeL p L row) (gt r)) ∧ ∀ r ∈ takeL p L row, Sp p n (fun r => r ∈ L ∨ r = row) (gt r) := by
  have hp0 : 0 < p := by have := prPos hp; omega
  obtain ⟨w1, _⟩ := less_ok hp0 hR hr
  have hal := less_al hp0 hR hr
  have hrow : ∀ {S : List Int → Prop}, Sp p n S (gt (lessL p L row)) → (∀ r ∈ L, Sp p n S (gt r)) → Sp p n S (gt row) := fun {S} h1 h2 => by
    have h3 : Sp p n S (sumF L (gt row)) := (sumF_sp (S := (· ∈ L)) (gt row) fun r hr => hr).into h2
    refine (h1.sum h3).al fun k hk => ?_
    have := hal.symm k hk
    simp only at this ⊢
    rwa [show gt row k - (gt (lessL p L row) k + sumF L (gt row) k) = gt row k - sumF L (gt row) k - gt (lessL p L row) k by omega]
  unfold takeL
  by_cases hl : Led (lessL p L row)
  · rw [if_pos hl]
    obtain ⟨n1, n2, n3, n4⟩ := nrm_ok hp w1 hl
    have h0 := gt_lead hl
    have hb := gt_range hp0 w1 (leadN (lessL p L row))
    obtain ⟨i1, _⟩ := inv_ok hp (n := gt (lessL p L row) (leadN (lessL p L row))) (by omega) hb.2
    have hw : Sp p n (fun r => r ∈ L ∨ r = row) (gt (lessL p L row)) := by
      have h1 : Sp p n (fun r => r ∈ L ∨ r = row) (gt row) := .one (.inr rfl)
      have h2 := sumF_sp (p := p) (n := n) (S := fun r => r ∈ L ∨ r = row) (gt row) (L := L) fun r hr => .inl hr
      exact (h1.sub h2).al hal
    generalize lessL p L row = row1 at *
    generalize hv : gt row1 (leadN row1) = ld at *
    generalize invN ld p = iv at *
    have hwn : Al p n (gt (nrm p row1)) fun k => iv * gt row1 k := fun k _ => by
      show p ∣ _ - iv * gt row1 k
      rw [n4, Int.mul_comm iv]; exact mod_al _
    have hr1 : Al p n (gt row1) fun k => ld * gt (nrm p row1) k := fun k hk => by
      have h1 := dm (hwn k hk) ld
      have h2 : p ∣ ld * iv - 1 := by
        have := mod_al (p := p) (ld * iv)
        rw [i1] at this
        have := Int.dvd_neg.2 this
        rwa [Int.neg_sub] at this
      have h3 := dm h2 (gt row1 k)
      have := Int.dvd_add h1 h3
      have := Int.dvd_neg.2 this
      simp only at this
      rwa [show -(ld * (gt (nrm p row1) k - iv * gt row1 k) + gt row1 k * (ld * iv - 1)) = gt row1 k - ld * gt (nrm p row1) k by
        rw [Int.mul_sub, Int.mul_sub, show gt row1 k * (ld * iv) = ld * (iv * gt row1 k) by rw [Int.mul_comm, Int.mul_assoc]]; omega] at this
    generalize nrm p row1 = w at *
    generalize leadN row1 = kk at *
    have hin : ∀ r ∈ L, Sp p n (· ∈ L.map (fun r => subR p r w (gt r kk)) ++ [w]) (gt r) := fun r hr => by
      have h1 : Sp p n (· ∈ L.map (fun r => subR p r w (gt r kk)) ++ [w]) (gt (subR p r w (gt r kk))) := .one (List.mem_append_left _ (List.mem_map.2 ⟨r, hr, rfl⟩))
      have h2 : Sp p n (· ∈ L.map (fun r => subR p r w (gt r kk)) ++ [w]) (gt w) := .one (by simp)
      refine (h1.sum (h2.mul (gt r kk))).al fun k hk => ?_
      have := (subR_al hp0 (hR.1 r hr).1.1 n1.1 (gt r kk)).symm k hk
      simp only at this ⊢
      rwa [show gt r k - (gt (subR p r w (gt r kk)) k + gt r kk * gt w k) = gt r k - gt r kk * gt w k - gt (subR p r w (gt r kk)) k by omega]
    have hwin : Sp p n (· ∈ L.map (fun r => subR p r w (gt r kk)) ++ [w]) (gt row1) := by
      have h2 : Sp p n (· ∈ L.map (fun r => subR p r w (gt r kk)) ++ [w]) (gt w) := .one (by simp)
      exact (h2.mul ld).al hr1
    refine ⟨fun r h => ?_, fun r h => ?_⟩
    · rcases h with h | rfl
      · exact hin r h
      · exact hrow hwin hin
    · have hwS : Sp p n (fun r => r ∈ L ∨ r = row) (gt w) := (hw.mul iv).al hwn
      rcases List.mem_append.1 h with h | h
      · obtain ⟨q, hq, rfl⟩ := List.mem_map.1 h
        have h1 : Sp p n (fun r => r ∈ L ∨ r = row) (gt q) := .one (.inl hq)
        exact (h1.sub (hwS.mul (gt q kk))).al (subR_al hp0 (hR.1 q hq).1.1 n1.1 _)
      · simp only [List.mem_singleton] at h; subst h
        exact hwS
  · rw [if_neg hl]
    refine ⟨fun r h => ?_, fun r h => .one (.inl h)⟩
    rcases h with h | rfl
    · exact .one h
    · refine hrow (.zero fun k _ => ?_) fun r h => .one h
      have : gt (lessL p L r) k = 0 := Decidable.byContradiction fun hn => hl (led_iff.2 ⟨k, hn⟩)
      rw [this]; exact Int.dvd_zero p

theorem red_sp_go (hp : Pr p) : ∀ (rows : List (List Int)) {L : List (List Int)}, Red p n L → (∀ r ∈ rows, RowOk p n r) →
    (∀ r, r ∈ L ∨ r ∈ rows → Sp p n (· ∈ rows.foldl (takeL p) L) (gt r)) ∧ ∀ r ∈ rows.foldl (takeL p) L, Sp p n (fun r => r ∈ L ∨ r ∈ rows) (gt r)
  | [], L, _, _ => ⟨fun r h => .one (by simpa using h), fun r h => .one (.inl h)⟩
  | row :: rows, L, hR, hr => by
    have hrow := hr row (List.mem_cons_self ..)
    obtain ⟨t1, t2⟩ := take_sp hp hR hrow
    have hR' : Red p n (takeL p L row) := by
      unfold takeL
      split
      · rename_i hl; exact (take_red hp hR hrow hl).2
      · exact hR
    obtain ⟨g1, g2⟩ := red_sp_go hp rows hR' fun q hq => hr q (List.mem_cons_of_mem _ hq)
    rw [List.foldl_cons]
    have hmid : ∀ r, r ∈ L ∨ r = row → Sp p n (· ∈ rows.foldl (takeL p) (takeL p L row)) (gt r) := fun r h => (t1 r h).into fun q hq => g1 q (.inl hq)
    refine ⟨fun r h => ?_, fun r h => (g2 r h).into fun q hq => ?_⟩
    · rcases h with h | h
      · exact hmid r (.inl h)
      · rcases List.mem_cons.1 h with rfl | h
        · exact hmid r (.inr rfl)
        · exact g1 r (.inr h)
    · rcases hq with hq | hq
      · refine (t2 q hq).more fun x hx => ?_
        rcases hx with hx | rfl
        · exact .inl hx
        · exact .inr (List.mem_cons_self ..)
      · exact .one (.inr (List.mem_cons_of_mem _ hq))
/-- The reduced list spans what the rows span. -/
theorem ech_sp (hp : Pr p) {rows : List (List Int)} (hr : ∀ r ∈ rows, RowOk p n r) : (∀ r ∈ rows, Sp p n (· ∈ echL p rows) (gt r)) ∧ ∀ r ∈ echL p rows, Sp p n (· ∈ rows) (gt r) := by
  obtain ⟨g1, g2⟩ := red_sp_go hp rows (L := []) ⟨fun _ h => (nomatch h), List.Pairwise.nil⟩ hr
  have hb := both_ok hp rows (both_nil p n) hr
  have hm : ∀ r, r ∈ echL p rows ↔ r ∈ rows.foldl (takeL p) [] := fun r => hb.2.1.mem_iff
  refine ⟨fun r h => (g1 r (.inr h)).more fun q hq => (hm q).2 hq, fun r h => (g2 r ((hm r).1 h)).more fun q hq => ?_⟩
  rcases hq with hq | hq
  · cases hq
  · exact hq
/-- Lists that span the same have one reduced list. -/
theorem ech_unique (hp : Pr p) {A B : List (List Int)} (hA : ∀ r ∈ A, RowOk p n r) (hB : ∀ r ∈ B, RowOk p n r) (h1 : ∀ r ∈ A, Sp p n (· ∈ B) (gt r)) (h2 : ∀ r ∈ B, Sp p n (· ∈ A) (gt r)) : echL p A = echL p B := by
  have hp0 : 0 < p := by have := prPos hp; omega
  have bA := both_ok hp A (both_nil p n) hA
  have bB := both_ok hp B (both_nil p n) hB
  obtain ⟨a1, a2⟩ := ech_sp hp hA
  obtain ⟨b1, b2⟩ := ech_sp hp hB
  have rA : Red p n (echL p A) := bA.1.perm bA.2.1.symm
  have rB : Red p n (echL p B) := bB.1.perm bB.2.1.symm
  exact red_unique hp0 rA bA.2.2 rB bB.2.2 (fun r hr => sp_inSp rB (((a2 r hr).into h1).into b1)) fun r hr => sp_inSp rA (((b2 r hr).into h2).into a1)

end Go.Sm

namespace Go.Sm

def unitR (m i : Nat) : List Int := (List.replicate m 0).set i 1
def longR (m i : Nat) (r : List Int) : List Int := r ++ unitR m i
theorem unitR_length (m i : Nat) : (unitR m i).length = m := by simp [unitR]
theorem unitR_row {p : Int} (hp : 2 ≤ p) (m i : Nat) : RowOk p m (unitR m i) := by
  refine ⟨unitR_length m i, fun x hx => ?_⟩
  unfold unitR at hx
  rcases List.mem_or_eq_of_mem_set hx with h | h
  · have := List.eq_of_mem_replicate h; omega
  · omega
theorem longR_row {p : Int} (hp : 2 ≤ p) {w m i : Nat} {r : List Int} (h : RowOk p w r) : RowOk p (w + m) (longR m i r) := by
  refine ⟨by simp [longR, h.1, unitR_length], fun x hx => ?_⟩
  rcases List.mem_append.1 hx with h' | h'
  · exact h.2 x h'
  · exact (unitR_row hp m i).2 x h'
/-- What holds of the program's lists. -/
structure KInv (p : Int) (w m i : Nat) (K O D : List (List Int)) : Prop where
  red : Red p (w + m) K
  led : ∀ r ∈ K, leadN r < w
  row : ∀ o ∈ O, RowOk p (w + m) o ∧ ∀ k < w, gt o k = 0
  free : ∀ r ∈ K, ∀ k, w + i ≤ k → gt r k = 0
  into : ∀ r ∈ D, Sp p (w + m) (fun r => r ∈ K ∨ r ∈ O) (gt r)
  from_ : ∀ r, r ∈ K ∨ r ∈ O → Sp p (w + m) (· ∈ D) (gt r)

theorem gt_append (r q : List Int) (k : Nat) : gt (r ++ q) k = if k < r.length then gt r k else gt q (k - r.length) := by
  unfold gt
  rw [List.getD_eq_getElem?_getD, List.getElem?_append]
  split <;> simp [List.getD_eq_getElem?_getD]
theorem gt_unit (m i k : Nat) : gt (unitR m i) k = if k = i ∧ i < m then 1 else 0 := by
  unfold gt unitR
  rw [List.getD_eq_getElem?_getD, List.getElem?_set]
  by_cases h : i = k
  · subst h
    by_cases hm : i < m
    · simp [hm]
    · simp [hm]
  · rw [if_neg h, if_neg (fun h' => h h'.1.symm)]
    by_cases hk : k < m
    · simp [hk]
    · simp [hk]
theorem gt_long {w m i : Nat} {r : List Int} (hr : r.length = w) (hi : i < m) : gt (longR m i r) (w + i) = 1 ∧ ∀ k, w + i < k → gt (longR m i r) k = 0 := by
  unfold longR
  refine ⟨?_, fun k hk => ?_⟩
  · rw [gt_append, if_neg (by omega), gt_unit, if_pos ⟨by omega, hi⟩]
  · rw [gt_append, if_neg (by omega), gt_unit, if_neg (by omega)]

theorem KInv.wide {p : Int} (hp : Pr p) {w m i : Nat} {K O D : List (List Int)} (h : KInv p w m i K O D) {r : List Int} (hr : RowOk p w r) (hi : i < m) :
    RowOk p (w + m) (lessL p K (longR m i r)) ∧ gt (lessL p K (longR m i r)) (w + i) = 1 ∧ (∀ k, w + i < k → gt (lessL p K (longR m i r)) k = 0) ∧ Led (lessL p K (longR m i r)) := by
  have hpp := prPos hp
  obtain ⟨g1, g2⟩ := gt_long (m := m) hr.1 hi
  obtain ⟨l1, l2⟩ := less_ok (by omega) h.red (longR_row (m := m) (i := i) hpp.1 hr)
  have hs : ∀ k, w + i ≤ k → sumL K (longR m i r) k = 0 := fun k hk => sum_zero fun q hq => by rw [h.free q hq k hk]; simp
  have e1 : gt (lessL p K (longR m i r)) (w + i) = 1 := by
    rw [l2 _ (by omega), g1, hs _ (Nat.le_refl _)]; exact Int.emod_eq_of_lt (by omega) (by omega)
  refine ⟨l1, e1, fun k hk => ?_, led_iff.2 ⟨_, by rw [e1]; omega⟩⟩
  by_cases hkm : k < w + m
  · rw [l2 k hkm, g2 k hk, hs k (by omega)]; simp
  · exact gt_ge (by rw [l1.1]; omega)

theorem KInv.step {p : Int} (hp : Pr p) {w m i : Nat} {K O D : List (List Int)} (h : KInv p w m i K O D) {r : List Int} (hr : RowOk p w r) (hi : i < m) :
    (w ≤ leadN (lessL p K (longR m i r)) → KInv p w m (i + 1) K (O ++ [lessL p K (longR m i r)]) (D ++ [longR m i r])) ∧
    (¬ w ≤ leadN (lessL p K (longR m i r)) → KInv p w m (i + 1) (takeL p K (longR m i r)) O (D ++ [longR m i r])) := by
  have hpp := prPos hp
  have hp0 : 0 < p := by omega
  obtain ⟨w1, w2, w3, w4⟩ := h.wide hp hr hi
  have hx := longR_row (p := p) (m := m) (i := i) hpp.1 hr
  have hal := less_al hp0 h.red hx
  generalize longR m i r = x at *
  have hD : ∀ {S : List Int → Prop}, (∀ q, q ∈ K ∨ q ∈ O → Sp p (w + m) S (gt q)) → ∀ q ∈ D, Sp p (w + m) S (gt q) := fun h1 q h2 => (h.into q h2).into h1
  constructor
  · intro hw
    generalize lessL p K x = wd at *
    refine ⟨h.red, h.led, fun o ho => ?_, fun q hq k hk => h.free q hq k (by omega), fun q hq => ?_, fun q hq => ?_⟩
    · rcases List.mem_append.1 ho with ho | ho
      · exact h.row o ho
      · simp only [List.mem_singleton] at ho; subst ho
        exact ⟨w1, fun k hk => gt_before (by omega)⟩
    · rcases List.mem_append.1 hq with hq | hq
      · refine (h.into q hq).more fun y hy => ?_
        rcases hy with hy | hy
        · exact .inl hy
        · exact .inr (List.mem_append_left _ hy)
      · simp only [List.mem_singleton] at hq; subst hq
        have a1 : Sp p (w + m) (fun r => r ∈ K ∨ r ∈ O ++ [wd]) (gt wd) := .one (.inr (by simp))
        have a2 : Sp p (w + m) (fun r => r ∈ K ∨ r ∈ O ++ [wd]) (sumF K (gt q)) := sumF_sp (gt q) fun y hy => .inl hy
        refine (a1.sum a2).al fun k hk => ?_
        have := hal.symm k hk
        simp only at this ⊢
        rwa [show gt q k - (gt wd k + sumF K (gt q) k) = gt q k - sumF K (gt q) k - gt wd k by omega]
    · have hin : ∀ y, y ∈ K ∨ y ∈ O → Sp p (w + m) (· ∈ D ++ [x]) (gt y) := fun y hy => (h.from_ y hy).more fun z hz => List.mem_append_left _ hz
      rcases hq with hq | hq
      · exact hin q (.inl hq)
      · rcases List.mem_append.1 hq with hq | hq
        · exact hin q (.inr hq)
        · simp only [List.mem_singleton] at hq; subst hq
          have a1 : Sp p (w + m) (· ∈ D ++ [x]) (gt x) := .one (by simp)
          have a2 : Sp p (w + m) (· ∈ D ++ [x]) (sumF K (gt x)) := (sumF_sp (S := (· ∈ K)) (gt x) fun y hy => hy).into fun y hy => hin y (.inl hy)
          exact (a1.sub a2).al hal
  · intro hw
    obtain ⟨t1, t2⟩ := take_sp hp h.red hx
    obtain ⟨u1, u2⟩ := take_red hp h.red hx w4
    obtain ⟨v1, v2, v3, v4⟩ := nrm_ok hp w1 w4
    have hT : takeL p K x = K.map (fun r => subR p r (nrm p (lessL p K x)) (gt r (leadN (lessL p K x)))) ++ [nrm p (lessL p K x)] := if_pos w4
    have hin : ∀ y, y ∈ K ∨ y ∈ O → Sp p (w + m) (fun r => r ∈ takeL p K x ∨ r ∈ O) (gt y) := fun y hy => by
      rcases hy with hy | hy
      · exact (t1 y (.inl hy)).more fun z hz => .inl hz
      · exact .one (.inr hy)
    refine ⟨by rw [hT]; exact u2, fun q hq => ?_, h.row, fun q hq k hk => ?_, fun q hq => ?_, fun q hq => ?_⟩
    · rw [hT] at hq
      rcases List.mem_append.1 hq with hq | hq
      · obtain ⟨y, hy, rfl⟩ := List.mem_map.1 hq
        rw [u1 y hy]; exact h.led y hy
      · simp only [List.mem_singleton] at hq; subst hq
        rw [v2]; omega
    · have hwz : gt (nrm p (lessL p K x)) k = 0 := by rw [v4, w3 k (by omega)]; simp
      rw [hT] at hq
      rcases List.mem_append.1 hq with hq | hq
      · obtain ⟨y, hy, rfl⟩ := List.mem_map.1 hq
        obtain ⟨s1, s2⟩ := subR_ok hp0 (h.red.1 y hy).1.1 v1.1 (gt y (leadN (lessL p K x)))
        by_cases hkm : k < w + m
        · rw [s2 k hkm, h.free y hy k (by omega), hwz]; simp
        · exact gt_ge (by rw [s1.1]; omega)
      · simp only [List.mem_singleton] at hq; subst hq
        exact hwz
    · rcases List.mem_append.1 hq with hq | hq
      · exact hD hin q hq
      · simp only [List.mem_singleton] at hq; subst hq
        exact (t1 q (.inr rfl)).more fun z hz => .inl hz
    · rcases hq with hq | hq
      · refine (t2 q hq).into fun y hy => ?_
        rcases hy with hy | rfl
        · exact (h.from_ y (.inl hy)).more fun z hz => List.mem_append_left _ hz
        · exact .one (by simp)
      · exact (h.from_ q (.inr hq)).more fun z hz => List.mem_append_left _ hz

end Go.Sm

namespace Go.Sm

end Go.Sm

namespace Go.Sm
open Go.RowKit

/-- The exponents of a monomial. -/
structure Ex where
  a : UInt8
  b : UInt8
  c : UInt8
  deriving DecidableEq, Inhabited
abbrev u8 (x : UInt8) : D := .v (.int .u8 x.toNat)
abbrev Ex.ds (e : Ex) : List D := [u8 e.a, u8 e.b, u8 e.c]
def Ex.deg (e : Ex) : Int := (e.a.toNat : Int) + e.b.toNat + e.c.toNat
theorem u8_lt (x : UInt8) : x.toNat < 256 := x.toNat_lt
theorem deg_lt (x : Ex) : 0 ≤ x.deg ∧ x.deg < 768 := by
  have := u8_lt x.a; have := u8_lt x.b; have := u8_lt x.c
  unfold Ex.deg; omega

@[simp] theorem ble_tt {a b : Nat} (h : a ≤ b) : Nat.ble a b = true := by rw [Nat.ble_eq]; exact h
@[simp] theorem ble_ff {a b : Nat} (h : b < a) : Nat.ble a b = false := by
  cases hb : Nat.ble a b with
  | false => rfl
  | true => rw [Nat.ble_eq] at hb; omega
@[simp] theorem beq_tt (a : Nat) : Nat.beq a a = true := Nat.beq_refl a
@[simp] theorem beq_ff {a b : Nat} (h : a ≠ b) : Nat.beq a b = false := by
  cases hb : Nat.beq a b with
  | false => rfl
  | true => exact absurd (nat_beq hb) h
@[simp] theorem wrap64_0 : IntKind.i64.wrap 0 = 0 := rfl
@[simp] theorem wrap64_1 : IntKind.i64.wrap 1 = 1 := rfl
@[simp] theorem wrap64_2 : IntKind.i64.wrap 2 = 2 := rfl
@[simp] theorem wrap64_3 : IntKind.i64.wrap 3 = 3 := rfl
@[simp] theorem wrap64_4 : IntKind.i64.wrap 4 = 4 := rfl
@[simp] theorem wrap64_u8 (x : UInt8) : IntKind.i64.wrap (x.toNat : Int) = x.toNat := by
  have := u8_lt x
  exact wrap64 (by omega) (by omega)
@[simp] theorem wrap64_u8a (x y : UInt8) : IntKind.i64.wrap ((x.toNat : Int) + y.toNat) = x.toNat + y.toNat := by
  have := u8_lt x; have := u8_lt y
  exact wrap64 (by omega) (by omega)
@[simp] theorem wrap64_u8b (x y z : UInt8) : IntKind.i64.wrap ((x.toNat : Int) + y.toNat + z.toNat) = x.toNat + y.toNat + z.toNat := by
  have := u8_lt x; have := u8_lt y; have := u8_lt z
  exact wrap64 (by omega) (by omega)
@[simp] theorem wrap64_u8s (x y : UInt8) : IntKind.i64.wrap ((x.toNat : Int) - y.toNat) = x.toNat - y.toNat := by
  have := u8_lt x; have := u8_lt y
  exact wrap64 (by omega) (by omega)
@[simp] theorem wrap64_deg (x y : Ex) : IntKind.i64.wrap (x.deg - y.deg) = x.deg - y.deg := by
  have := deg_lt x; have := deg_lt y
  exact wrap64 (by omega) (by omega)
@[simp] theorem u8_bne (x y : UInt8) : ((x.toNat : Int) != (y.toNat : Int)) = (x != y) := by
  by_cases h : x = y
  · subst h; simp
  · have : (x.toNat : Int) ≠ y.toNat := fun e => h (UInt8.toNat_inj.1 (by omega))
    rw [show (x != y) = true from bne_iff_ne.2 h]
    exact bne_iff_ne.2 this
@[simp] theorem u8_beq (x y : UInt8) : ((x.toNat : Int) == (y.toNat : Int)) = (x == y) := by
  by_cases h : x = y
  · subst h; simp
  · have : (x.toNat : Int) ≠ y.toNat := fun e => h (UInt8.toNat_inj.1 (by omega))
    rw [show (x == y) = false from beq_eq_false_iff_ne.2 h]
    exact beq_eq_false_iff_ne.2 this
@[simp] theorem u8_beq0 (x : UInt8) : ((x.toNat : Int) == 0) = (x == 0) := u8_beq x 0
@[simp] theorem u8_bne0 (x : UInt8) : ((x.toNat : Int) != 0) = (x != 0) := u8_bne x 0

@[simp] theorem Ex.beq3 (x y : Ex) : (x.a == y.a && (x.b == y.b && x.c == y.c)) = decide (x = y) := by
  cases x; cases y
  rw [Bool.eq_iff_iff]
  simp

/-- A monomial in d letters of at most the greatest degree. -/
def InV (d : Int) (e : Ex) : Prop := (d ≤ 1 → e.b = 0) ∧ (d ≤ 2 → e.c = 0) ∧ e.deg ≤ 12
instance (d : Int) (e : Ex) : Decidable (InV d e) := by unfold InV; infer_instance

end Go.Sm

namespace Go.Sm
open Go.RowKit

theorem tmod_mod (x p : Int) (hp : 0 < p) : (x.tmod p + p).tmod p = x % p := by
  have h1 : x.tmod p < p := Int.tmod_lt_of_pos x hp
  have h2 : -p < x.tmod p := by
    have := Int.lt_tmod_of_pos x hp
    omega
  have h3 : (x.tmod p + p).tmod p = (x.tmod p + p) % p := Int.tmod_eq_emod_of_nonneg (by omega)
  rw [h3, Int.add_emod_right]
  rcases Int.le_total 0 x with h | h
  · rw [Int.tmod_eq_emod_of_nonneg h, Int.emod_emod]
  · have e : x.tmod p = -((-x) % p) := by
      have : (-x).tmod p = (-x) % p := Int.tmod_eq_emod_of_nonneg (by omega)
      rw [← this, Int.neg_tmod, Int.neg_neg]
    rw [e]
    have : -((-x) % p) % p = x % p := by
      rw [Int.neg_emod_eq_sub_emod]
      have h4 := Int.emod_add_mul_ediv (-x) p
      rw [show p - (-x) % p = x + p * (1 + (-x) / p) by rw [Int.mul_add]; omega, Int.add_mul_emod_self_left]
    exact this

theorem tmod_range (x p : Int) (hp : 0 < p) : -p < x.tmod p ∧ x.tmod p < p := by
  have h1 : x.tmod p < p := Int.tmod_lt_of_pos x hp
  have h2 := Int.lt_tmod_of_pos x hp
  omega

theorem l01Mod_ok (p x : Int) (hp : 0 < p) (hp2 : p < 4000000000000000000) : CallOK Go.Proofs.Try.prog 89 [.one (i64 p), .one (i64 x)] (.one (i64 (x % p))) := by
  have hF := fnOk 12 [.tmp 4]
  refine callOK hF 60 Go.Proofs.Try.func89 rfl rfl rfl (by decide) (by simp) rfl ?_
  intro w0 hw
  have S := @vc_sound w0 _ hF ⟨(.one (i64 (x % p))), []⟩ Go.Proofs.Try.f89 rfl (by simp)
  have h := tmod_range x p hp
  have h0 : p ≠ 0 := by omega
  simp [h0, wrap64 (x := x.tmod p + p) (by omega) (by omega), tmod_mod x p hp]

theorem l01Own_ok (xs : List Int) (hl : xs.length ≤ 1048576) : CallOK Go.Proofs.Try.prog 43 [.one (vInts xs)] (.one (oInts xs)) := by
  have hF := fnOk 6 [.tmp 2]
  refine callOK hF 60 Go.Proofs.Try.func43 rfl rfl rfl (by decide) (by simp) rfl ?_
  intro w0 hw
  have S := @vc_sound w0 _ hF ⟨(.one (oInts xs)), []⟩ Go.Proofs.Try.f43 rfl (by simp)
  simp
  refine ⟨by omega, by omega⟩

end Go.Sm

namespace Go.Sm
open Go.RowKit

theorem l01In_ok (n lo hi : Int) : CallOK Go.Proofs.Try.prog 29 [.one (i64 n), .one (i64 lo), .one (i64 hi)] (.one (bo (decide (lo ≤ n ∧ n ≤ hi)))) := by
  have hF := fnOk 15 [.tmp 6]
  refine callOK hF 50 Go.Proofs.Try.func29 rfl rfl rfl (by decide) (by simp) rfl ?_
  intro w0 hw
  simp
  refine ⟨fun h => by simp [h], fun h => ?_⟩
  have : ¬ lo ≤ n := by omega
  simp [this]

theorem isVars_ok (n : Int) : CallOK Go.Proofs.Try.prog 61 [.one (i64 n)] (.one (bo (decide (1 ≤ n ∧ n ≤ 3)))) := by
  have hF := fnOk 9 [.tmp 2]
  refine callOK hF 50 Go.Proofs.Try.func61 rfl rfl rfl (by decide) (by simp) rfl ?_
  intro w0 hw
  simp
  refine ⟨fun h => ?_, fun h => ?_⟩
  · simp [h]
  · have : ¬ 1 ≤ n := by omega
    simp [this]

end Go.Sm

namespace Go.Sm
open Go.RowKit

abbrev fnD (f : Nat) : D := .v (.func (.func f) #[] #[])
def leadZ (r : List Int) : Int := if leadN r < r.length then leadN r else -1

theorem leadZ_at {r : List Int} {i : Nat} {x : Int} (hx : r[i]? = some x) (h : ∀ j < i, gt r j = 0) (h0 : x ≠ 0) : leadZ r = i := by
  obtain ⟨hi, rfl⟩ := List.getElem?_eq_some_iff.1 hx
  have : leadN r = i := leadN_of h (by rw [gt_lt hi]; exact h0)
  unfold leadZ
  rw [this, if_pos hi]
theorem leadZ_none {r : List Int} (h : ∀ j < r.length, gt r j = 0) : leadZ r = -1 := by
  unfold leadZ
  rw [if_neg]
  intro hl
  exact gt_lead hl (h _ hl)

theorem l01Lead_ok (r : List Int) (hl : r.length ≤ 1048576) : CallOK Go.Proofs.Try.prog 65 [.one (vInts r)] (.one (i64 (leadZ r))) := by
  have hF := fnOk 16 [.tmp 2]
  refine callOK hF 60 Go.Proofs.Try.func65 rfl rfl rfl (by decide) (by simp) rfl ?_
  intro w0 hw
  have S := @vc_sound w0 _ hF ⟨(.one (i64 (leadZ r))), []⟩ Go.Proofs.Try.f65 rfl (by simp)
  simp
  refine J.loop hw (fun i : Nat => ⟨[(0, .c (.d (vInts r))), (3, .c (.d (i64 i)))], []⟩)
    (fun i => i ≤ r.length ∧ ∀ j < i, gt r j = 0) (fun i => r.length - i) 0 (by simp) (by simp) ?_
  rintro i ⟨hi, hz⟩
  refine S 60 _ _ ?_
  simp
  refine ⟨fun hlt => ⟨hlt, fun x hx => ⟨fun h0 => (leadZ_at hx hz h0).symm, fun h0 => ?_⟩⟩, fun hge => (leadZ_none (r := r) fun j hj => hz j (by omega)).symm⟩
  subst h0
  refine Nxt.mk (i + 1) ⟨by omega, fun j hj => ?_⟩ (by simp [wrapS (i := i) (n := r.length) hlt (by omega)]) (by omega)
  by_cases e : j = i
  · subst e; rw [gt_lt hlt]; exact (List.getElem?_eq_some_iff.1 hx).2
  · exact hz j (by omega)

theorem invGo_step {n p : Int} {f : Nat} {k : Int} (h : k < p) : invGo n p (f + 1) k = if n * k % p = 1 then k else invGo n p f (k + 1) := by rw [invGo, if_pos h]
theorem invGo_end {n p : Int} {f : Nat} {k : Int} (h : ¬ k < p) : invGo n p f k = 0 := by cases f <;> simp [invGo, h]

end Go.Sm

namespace Go.Sm
open Go.RowKit

theorem led_leadZ {r : List Int} (h : Led r) : leadZ r = leadN r := by exact if_pos h
theorem led_of {r : List Int} (h : gt r (leadN r) = 1) : Led r := led_iff.2 ⟨_, by rw [h]; omega⟩
theorem gt_get {r : List Int} {i : Nat} (h : i < r.length) : r[i]? = some (gt r i) := by rw [gt_lt h, List.getElem?_eq_getElem h]
theorem subR_length {p : Int} {row r : List Int} {c : Int} (h : r.length = row.length) : (subR p row r c).length = row.length := by simp [subR, h]
theorem subR_take {p : Int} {row r : List Int} {c : Int} {i : Nat} (h1 : i < row.length) (h : r.length = row.length) : (subR p row r c).take (i + 1) = (subR p row r c).take i ++ [(gt row i - c * gt r i) % p] := by
  rw [List.take_add_one, List.getElem?_eq_getElem (by rw [subR_length h]; exact h1), gt_lt h1, gt_lt (by omega)]
  simp [subR]
theorem subR_zero {p : Int} {n : Nat} (hp : 0 < p) {row r : List Int} (h : RowOk p n row) (h2 : r.length = n) : subR p row r 0 = row := by
  obtain ⟨s1, s2⟩ := subR_ok hp h.1 h2 0
  refine gt_ext (s1.1.trans h.1.symm) fun i hi => ?_
  have := gt_range hp h i
  rw [s2 i (by rw [← s1.1]; exact hi), Int.zero_mul, Int.sub_zero, Int.emod_eq_of_lt this.1 this.2]
theorem less_row {p : Int} {n : Nat} (hp : 0 < p) : ∀ {L : List (List Int)} {row : List Int}, (∀ r ∈ L, RowOk p n r) → RowOk p n row → RowOk p n (lessL p L row)
  | [], _, _, h => h
  | r :: L, row, hL, h => by
    have e : lessL p (r :: L) row = lessL p L (subR p row r (gt row (leadN r))) := rfl
    rw [e]
    exact less_row hp (fun q hq => hL q (List.mem_cons_of_mem _ hq)) (subR_ok hp h.1 (hL r (List.mem_cons_self ..)).1 _).1
theorem less_take {p : Int} {L : List (List Int)} {row r : List Int} {i : Nat} (h : L[i]? = some r) : lessL p (L.take (i + 1)) row = subR p (lessL p (L.take i) row) r (gt (lessL p (L.take i) row) (leadN r)) := by
  rw [List.take_add_one, h]
  simp [lessL]
theorem l01Inverse_ok (n p : Int) (hp : Pr p) (h1 : 0 ≤ n) (h2 : n < p) : CallOK Go.Proofs.Try.prog 81 [.one (i64 p), .one (i64 n)] (.one (i64 (invN n p))) := by
  have hF := fnOk 20 [.tmp 4]
  refine callOK hF 60 Go.Proofs.Try.func81 rfl rfl rfl (by decide) (by simp) rfl ?_
  intro w0 hw
  have S := @vc_sound w0 _ hF ⟨(.one (i64 (invN n p))), []⟩ Go.Proofs.Try.f81 rfl (by simp)
  have hpp := prPos hp
  have c1 := l01Mod_ok p n (by omega) (by omega)
  rw [Int.emod_eq_of_lt h1 h2] at c1
  simp
  refine J.loop hw (fun k : Nat => ⟨[(0, .c (.d (i64 p))), (1, .c (.d (i64 n))), (5, .c (.d (i64 k)))], []⟩)
    (fun k => 1 ≤ k ∧ (k : Int) ≤ p ∧ invN n p = invGo n p (14 - k) k) (fun k => p.toNat - k) 1 ⟨by omega, by omega, rfl⟩ (by simp) ?_
  rintro k ⟨hk1, hk2, hk⟩
  refine S 12 _ _ ?_
  simp
  refine ⟨fun hlt => ?_, fun hge => ?_⟩
  · have hm : 0 ≤ n * k := Int.mul_nonneg h1 (by omega)
    have hm2 : n * k ≤ 13 * 13 := Int.mul_le_mul (by omega) (by omega) (by omega) (by omega)
    have w1 : IntKind.i64.wrap (k * n) = n * k := by rw [Int.mul_comm]; exact wrap64 (by omega) (by omega)
    have hmod : (n * (k : Int)).tmod p = n * k % p := Int.tmod_eq_emod_of_nonneg hm
    have hp0 : p ≠ 0 := by omega
    obtain ⟨f, hf⟩ : ∃ f, 14 - k = f + 1 := ⟨13 - k, by omega⟩
    rw [hf, invGo_step hlt] at hk
    refine S 60 _ _ ?_
    simp
    refine CallW.ok (by decide) (by simp) c1 (by simp) (S 60 _ _ ?_)
    simp [w1, hmod, hp0]
    refine ⟨fun he => ?_, fun hne => ?_⟩
    · rw [if_pos he] at hk; exact hk.symm
    · rw [if_neg hne] at hk
      refine Nxt.mk (k + 1) ⟨by omega, by omega, by rw [hk, show 14 - (k + 1) = f by omega]; rfl⟩ (by simp; rw [wrap64] <;> omega) (by omega)
  · have e : invN n p = 0 := by rw [hk]; exact invGo_end (by omega)
    refine S 60 _ _ ?_
    simp [e]

set_option maxHeartbeats 1000000 in
theorem l01Less_ok (p : Int) (n : Nat) (row r : List Int) (c : Int) (hp : Pr p) (hn : n ≤ 1048576) (h1 : RowOk p n row) (h2 : RowOk p n r) (hc : 0 ≤ c ∧ c < p) : CallOK Go.Proofs.Try.prog 82 [.one (i64 p), .one (vInts row), .one (vInts r), .one (i64 c)] (.one (oInts (subR p row r c))) := by
  have hF := fnOk 35 [.tmp 8]
  refine callOK hF 60 Go.Proofs.Try.func82 rfl rfl rfl (by decide) (by simp) rfl ?_
  intro w0 hw
  have S := @vc_sound w0 _ hF ⟨(.one (oInts (subR p row r c))), []⟩ Go.Proofs.Try.f82 rfl (by simp)
  have hpp := prPos hp
  have e1 := h1.1
  have e2 := h2.1
  have hlen : r.length = row.length := by omega
  simp
  refine J.loop hw (fun i : Nat => ⟨[(0, .c (.d (i64 p))), (1, .c (.d (vInts row))), (2, .c (.d (vInts r))), (3, .c (.d (i64 c))), (9, .c (.ob 64009)), (10, .c (.d (i64 i)))], [(64009, .arr 2 1 (ints ((subR p row r c).take i)))]⟩)
    (fun i => i ≤ row.length) (fun i => row.length - i) 0 (by simp) (by simp) ?_
  intro i hi
  have hl := subR_length (p := p) (c := c) hlen
  generalize hac : (subR p row r c).take i = acc
  refine S 12 _ _ ?_
  simp
  refine ⟨fun hlt => ?_, fun hge => ?_⟩
  · have g1 := gt_get hlt
    have g2 := gt_get (r := r) (i := i) (by omega)
    have r1 := gt_range (by omega) h1 i
    have r2 := gt_range (by omega) h2 i
    have hst := subR_take (p := p) (c := c) hlt hlen
    have hal : acc.length = i := by rw [← hac, List.length_take, hl]; omega
    rw [hac] at hst
    have m1 : 0 ≤ c * gt r i := Int.mul_nonneg hc.1 r2.1
    have m2 : c * gt r i ≤ 13 * 13 := Int.mul_le_mul (by omega) (by omega) (by omega) (by omega)
    generalize gt row i = x at g1 r1 hst
    generalize gt r i = y at g2 r2 hst m1 m2
    have w1 : IntKind.i64.wrap (c * y) = c * y := wrap64 (by omega) (by omega)
    have w2 : IntKind.i64.wrap (x - c * y) = x - c * y := wrap64 (by omega) (by omega)
    have c1 := l01Mod_ok p (x - c * y) (by omega) (by omega)
    refine S 60 _ _ ?_
    simp
    refine J.dr hF mixed 15 [[], [], [], [], [2, 3], [2, 3, 4], [], [], [], [7, 8], [7, 8, 9], [6, 7, 8, 9, 10], [2, 3, 4, 5, 6, 7, 8, 9, 10, 11], [1, 2, 3, 4, 5, 6, 7, 8, 9, 10, 11, 12], [1, 2, 3, 4, 5, 6, 7, 8, 9, 10, 11, 12, 13], [0, 1, 2, 3, 4, 5, 6, 7, 8, 9, 10, 11, 12, 13, 14], [0, 1, 2, 3, 4, 5, 6, 7, 8, 9, 10, 11, 12, 13, 14, 15]] [[18, 19, 20, 21, 22, 23, 24, 25, 26, 27, 28, 29, 30, 31, 32], [18, 19, 20, 21, 22, 23, 24, 25, 26, 27, 28, 29, 30, 31, 32], [18, 19, 20, 21, 22, 23, 24, 25, 26, 27, 28, 29, 30, 31, 32], [18, 19, 20, 21, 22, 23, 24, 25, 26, 27, 28, 29, 30, 31, 32], [18, 19, 22, 23, 24, 25, 26, 27, 28, 29, 30, 31, 32], [18, 19, 23, 24, 25, 26, 27, 28, 29, 30, 31, 32], [18, 19, 20, 21, 22, 23, 24, 25, 26, 27, 28, 29, 30, 31, 32], [18, 19, 20, 21, 22, 23, 24, 25, 26, 27, 28, 29, 30, 31, 32], [18, 19, 20, 21, 22, 23, 24, 25, 26, 27, 28, 29, 30, 31, 32], [18, 19, 20, 21, 22, 23, 24, 27, 28, 29, 30, 31, 32], [18, 19, 20, 21, 22, 23, 24, 28, 29, 30, 31, 32], [18, 19, 20, 21, 22, 23, 29, 30, 31, 32], [18, 19, 30, 31, 32], [18, 31, 32], [18, 32]] (by decide) ?_
    rw [← List.take_append_drop 6 (List.take _ _)]
    generalize htl : List.drop 6 (List.take _ _) = tl
    simp
    refine ⟨hlt, fun x' hx => ?_⟩
    obtain rfl : x = x' := Option.some.inj (g1.symm.trans hx)
    subst htl
    rw [← List.take_append_drop 5 (List.drop 6 _)]
    generalize htl : List.drop 5 (List.drop 6 _) = tl
    simp
    refine ⟨by omega, fun y' hy => ?_⟩
    obtain rfl : y = y' := Option.some.inj (g2.symm.trans hy)
    subst htl
    simp [w1, w2]
    refine DrC.ok hF (by rfl) (by simp) c1 (by simp) (by simp) ?_
    simp
    refine S 60 _ _ ?_
    simp [hal]
    have hst2 : List.take (i + 1) (List.map (fun i => [D.v (Value.int IntKind.i64 i)]) (subR p row r c)) = ints acc ++ [[i64 ((x - c * y) % p)]] := by rw [← List.map_take, hst]; simp
    exact ⟨by omega, Nxt.mk (i + 1) hlt (by simp [wrapS (i := i) (n := row.length) hlt (by omega), hst2]) (by omega)⟩
  · have e : (subR p row r c).take i = subR p row r c := List.take_of_length_le (by omega)
    rw [hac] at e
    subst e
    refine S 60 _ _ ?_
    simp

theorem l01Rest_ok (p : Int) (n : Nat) (L : List (List Int)) (row : List Int) (hp : Pr p) (hn : n ≤ 1048576) (hl : L.length ≤ 1048576) (hL : ∀ r ∈ L, RowOk p n r ∧ Led r) (h1 : RowOk p n row) : CallOK Go.Proofs.Try.prog 80 [.one (i64 p), .one (vIntss L), .one (vInts row)] (.one (oInts (lessL p L row))) := by
  have hF := fnOk 37 [.tmp 6]
  refine callOK hF 60 Go.Proofs.Try.func80 rfl rfl rfl (by decide) (by simp) rfl ?_
  intro w0 hw
  have S := @vc_sound w0 _ hF ⟨(.one (oInts (lessL p L row))), []⟩ Go.Proofs.Try.f80 rfl (by simp)
  have hpp := prPos hp
  have c1 := l01Own_ok row (by rw [h1.1]; exact hn)
  simp
  refine CallW.ok (by decide) (by simp) c1 (by simp) (S 60 _ _ ?_)
  simp
  refine J.loop hw (fun i : Nat => ⟨[(0, .c (.d (i64 p))), (1, .c (.d (vIntss L))), (7, .c (.ob 64007)), (8, .c (.d (i64 i)))], [(64007, .arr 2 1 (ints (lessL p (L.take i) row)))]⟩)
    (fun i => i ≤ L.length) (fun i => L.length - i) 0 (by simp) (by simp [lessL]) ?_
  intro i hi
  refine S 12 _ _ ?_
  simp
  refine ⟨fun hlt => ?_, fun hge => ?_⟩
  · obtain ⟨r, hr⟩ : ∃ r, L[i]? = some r := ⟨L[i], List.getElem?_eq_getElem hlt⟩
    obtain ⟨r1, r2⟩ := hL r (List.mem_of_getElem? hr)
    have hst := less_take (p := p) (row := row) hr
    have ha := less_row (n := n) (p := p) (L := L.take i) (row := row) (by omega) (fun q hq => (hL q (List.take_subset _ _ hq)).1) h1
    generalize lessL p (L.take i) row = acc at hst ha ⊢
    have r2' : leadN r < r.length := r2
    have e1 := ha.1
    have e2 := r1.1
    have gl := gt_get (r := acc) (i := leadN r) (by omega)
    have gr := gt_range (by omega) ha (leadN r)
    have c2 := l01Lead_ok r (by omega)
    rw [led_leadZ r2] at c2
    have c3 := l01Less_ok p n acc r (gt acc (leadN r)) hp hn ha r1 gr
    have hz := subR_zero (p := p) (by omega) ha e2
    generalize gt acc (leadN r) = c at gl gr c3 hst
    refine S 60 _ _ ?_
    simp
    refine ⟨hlt, fun r' hr' => ?_⟩
    obtain rfl : r = r' := Option.some.inj (hr.symm.trans hr')
    refine CallW.ok (by decide) (by simp) c2 (by simp) (S 20 _ _ ?_)
    simp
    refine ⟨by omega, fun x hx => ?_⟩
    obtain rfl : c = x := Option.some.inj (gl.symm.trans hx)
    refine ⟨fun h0 => ⟨hlt, fun r'' hr'' => ?_⟩, fun h0 => ?_⟩
    · obtain rfl : r = r'' := Option.some.inj (hr.symm.trans hr'')
      refine CallW.ok (by decide) (by simp) c3 (by simp) (S 60 _ _ ?_)
      simp
      exact Nxt.mk (i + 1) hlt (by simp [wrapS (i := i) (n := L.length) hlt (by omega), hst]) (by omega)
    · subst h0
      rw [hz] at hst
      exact Nxt.mk (i + 1) hlt (by simp [wrapS (i := i) (n := L.length) hlt (by omega), hst]) (by omega)
  · have e : L.take i = L := List.take_of_length_le hge
    rw [e]
    refine S 60 _ _ ?_
    simp

end Go.Sm

namespace Go.Sm
open Go.RowKit

end Go.Sm
