/- Towards the rows of this seat: what the functions do, as contracts over plain data. -/
import Derived.Test.YtemedeiolhgoeaaGreatPk37
namespace Go.Sm

/-! ### sums over lists -/
def sumA {α : Type} : List α → (Nat → Int) → (α → Int) → Int
  | [], _, _ => 0
  | e :: L, f, g => f 0 * g e + sumA L (fun i => f (i + 1)) g
theorem sumA_lin {α : Type} (c : Int) (g : α → Int) : ∀ (L : List α) (f h : Nat → Int), sumA L (fun i => f i + c * h i) g = sumA L f g + c * sumA L h g
  | [], _, _ => by simp [sumA]
  | e :: L, f, h => by
    simp only [sumA]
    rw [sumA_lin c g L (fun i => f (i + 1)) fun i => h (i + 1), Int.add_mul, Int.mul_add, Int.mul_assoc]
    omega
theorem sumA_al {α : Type} {p : Int} (g : α → Int) : ∀ (L : List α) {f h : Nat → Int}, (∀ k < L.length, p ∣ f k - h k) → p ∣ sumA L f g - sumA L h g
  | [], _, _, _ => by simp [sumA]
  | e :: L, f, h, hk => by
    simp only [List.length_cons] at hk
    have h1 := dm (hk 0 (by omega)) (g e)
    have h2 := sumA_al g L (f := fun i => f (i + 1)) (h := fun i => h (i + 1)) fun k hk' => hk (k + 1) (by omega)
    simp only [sumA]
    have h3 := Int.dvd_add h1 h2
    rwa [show g e * (f 0 - h 0) + (sumA L (fun i => f (i + 1)) g - sumA L (fun i => h (i + 1)) g) = f 0 * g e + sumA L (fun i => f (i + 1)) g - (h 0 * g e + sumA L (fun i => h (i + 1)) g) by rw [Int.mul_sub, Int.mul_comm (g e), Int.mul_comm (g e)]; omega] at h3
theorem sumA_ext {α : Type} (g : α → Int) : ∀ (L : List α) {f h : Nat → Int}, (∀ k < L.length, f k = h k) → sumA L f g = sumA L h g
  | [], _, _, _ => rfl
  | e :: L, f, h, hk => by
    simp only [List.length_cons] at hk
    simp only [sumA]
    rw [hk 0 (by omega), sumA_ext g L (f := fun i => f (i + 1)) (h := fun i => h (i + 1)) fun k hk' => hk (k + 1) (by omega)]
theorem sumA_zero {α : Type} (g : α → Int) : ∀ (L : List α), sumA L (fun _ => 0) g = 0
  | [] => rfl
  | e :: L => by simp only [sumA]; rw [sumA_zero g L]; simp
theorem sumA_alG {α : Type} {p : Int} {g h : α → Int} : ∀ (L : List α) {f : Nat → Int}, (∀ e ∈ L, p ∣ g e - h e) → p ∣ sumA L f g - sumA L f h
  | [], _, _ => by simp [sumA]
  | e :: L, f, hk => by
    have h1 := dm (hk e (List.mem_cons_self ..)) (f 0)
    have h2 := sumA_alG L (f := fun i => f (i + 1)) fun x hx => hk x (List.mem_cons_of_mem _ hx)
    simp only [sumA]
    have h3 := Int.dvd_add h1 h2
    rwa [show f 0 * (g e - h e) + (sumA L (fun i => f (i + 1)) g - sumA L (fun i => f (i + 1)) h) = f 0 * g e + sumA L (fun i => f (i + 1)) g - (f 0 * h e + sumA L (fun i => f (i + 1)) h) by rw [Int.mul_sub]; omega] at h3
theorem sumA_congr {α : Type} {g h : α → Int} : ∀ (L : List α) {f : Nat → Int}, (∀ e ∈ L, g e = h e) → sumA L f g = sumA L f h
  | [], _, _ => rfl
  | e :: L, f, hk => by
    simp only [sumA]
    rw [hk e (List.mem_cons_self ..), sumA_congr L fun x hx => hk x (List.mem_cons_of_mem _ hx)]
theorem sumA_map {α β : Type} (F : β → α) (g : α → Int) : ∀ (L : List β) (f : Nat → Int), sumA (L.map F) f g = sumA L f fun e => g (F e)
  | [], _ => rfl
  | e :: L, f => by simp only [List.map_cons, sumA]; rw [sumA_map F g L]
theorem sumA_unit {α : Type} (g : α → Int) : ∀ (L : List α) {i : Nat} {e : α}, L[i]? = some e → sumA L (fun j => if j = i then 1 else 0) g = g e
  | [], _, _, h => by simp at h
  | x :: L, 0, e, h => by
    simp only [List.getElem?_cons_zero, Option.some.injEq] at h
    subst h
    simp only [sumA]
    rw [sumA_ext g L (h := fun _ => 0) fun k _ => by simp, sumA_zero]; simp
  | x :: L, i + 1, e, h => by
    simp only [sumA]
    rw [sumA_ext g L (h := fun j => if j = i then 1 else 0) fun k _ => by simp, sumA_unit g L (by simpa using h)]; simp
theorem sumA_snoc {α : Type} (g : α → Int) (x : α) : ∀ (L : List α) (f : Nat → Int), sumA (L ++ [x]) f g = sumA L f g + f L.length * g x
  | [], f => by simp [sumA]
  | e :: L, f => by
    simp only [List.cons_append, sumA, List.length_cons]
    rw [sumA_snoc g x L]; omega
theorem sp_sumA {p : Int} {n : Nat} {S : List Int → Prop} : ∀ {L : List (List Int)} (f : Nat → Int), (∀ r ∈ L, S r) → Sp p n S fun k => sumA L f fun r => gt r k
  | [], _, _ => .zero (Al.refl p n _)
  | r :: L, f, h => .add (f 0) (h r (List.mem_cons_self ..)) (sp_sumA (fun i => f (i + 1)) fun q hq => h q (List.mem_cons_of_mem _ hq)) fun k _ => by
    simp only [sumA]
    rw [show f 0 * gt r k + sumA L (fun i => f (i + 1)) (fun r => gt r k) - (sumA L (fun i => f (i + 1)) (fun r => gt r k) + f 0 * gt r k) = 0 by omega]; exact Int.dvd_zero p

/-! ### the relations -/
theorem longs_at {m : Nat} : ∀ {rows : List (List Int)} {s : Nat}, ∀ x ∈ longs m s rows, ∃ j r, rows[j]? = some r ∧ x = longR m (s + j) r
  | [], _, x, h => by cases h
  | r :: rows, s, x, h => by
    rcases List.mem_cons.1 h with rfl | h
    · exact ⟨0, r, rfl, rfl⟩
    · obtain ⟨j, q, h1, h2⟩ := longs_at x h
      exact ⟨j + 1, q, by simpa using h1, by rw [h2, show s + 1 + j = s + (j + 1) by omega]⟩
theorem gt_long_high {w m i k : Nat} {r : List Int} (hr : r.length = w) : gt (longR m i r) (w + k) = if k = i ∧ i < m then 1 else 0 := by
  unfold longR
  rw [gt_append, if_neg (by omega), hr, Nat.add_sub_cancel_left, gt_unit]
theorem sum_longs_low {p : Int} {w m k : Nat} (hk : k < w) : ∀ (rows : List (List Int)) (s : Nat) (g : Nat → Int), (∀ r ∈ rows, RowOk p w r) → sumA (longs m s rows) g (fun r => gt r k) = sumA rows g fun r => gt r k
  | [], _, _, _ => rfl
  | r :: rows, s, g, h => by
    simp only [longs, sumA]
    rw [gt_long_low (h r (List.mem_cons_self ..)).1 hk, sum_longs_low hk rows (s + 1) _ fun q hq => h q (List.mem_cons_of_mem _ hq)]
theorem sum_longs_high {p : Int} {w m k : Nat} : ∀ (rows : List (List Int)) (s : Nat) (g : Nat → Int), (∀ r ∈ rows, RowOk p w r) → s + rows.length ≤ m →
    sumA (longs m s rows) g (fun r => gt r (w + k)) = if s ≤ k ∧ k < s + rows.length then g (k - s) else 0
  | [], s, _, _, _ => by rw [if_neg (by simp)]; rfl
  | r :: rows, s, g, h, hm => by
    simp only [List.length_cons] at hm
    simp only [longs, sumA, List.length_cons]
    rw [gt_long_high (h r (List.mem_cons_self ..)).1, sum_longs_high rows (s + 1) _ (fun q hq => h q (List.mem_cons_of_mem _ hq)) (by omega)]
    by_cases h0 : k = s
    · subst h0
      rw [if_pos ⟨rfl, by omega⟩, if_neg (by omega), if_pos (by omega), Nat.sub_self]; simp
    · rw [if_neg (by omega)]
      by_cases h1 : s + 1 ≤ k ∧ k < s + 1 + rows.length
      · rw [if_pos h1, if_pos (by omega), show k - (s + 1) + 1 = k - s by omega]; omega
      · rw [if_neg h1, if_neg (by omega)]; omega
/-- The relations' space: what makes 0 of the rows. -/
theorem ker_iff {p : Int} (hp : Pr p) {w : Nat} {rows : List (List Int)} (hr : ∀ r ∈ rows, RowOk p w r) {g : Nat → Int} :
    Sp p rows.length (· ∈ kerS p w rows) g ↔ ∀ c < w, p ∣ sumA rows g fun r => gt r c := by
  have hpp := prPos hp
  have hL := longs_row (m := rows.length) hpp.1 (i := 0) hr
  obtain ⟨e1, e2⟩ := ech_sp hp hL
  have bE := both_ok hp (longs rows.length 0 rows) (both_nil p (w + rows.length)) hL
  have rE : Red p (w + rows.length) (echL p (longs rows.length 0 rows)) := bE.1.perm bE.2.1.symm
  have hF : ∀ r, r ∈ kerS p w rows ↔ ∃ q ∈ echL p (longs rows.length 0 rows), w ≤ leadN q ∧ q.drop w = r := fun r => by
    unfold kerS
    rw [List.mem_map]
    constructor
    · rintro ⟨q, hq, rfl⟩
      rw [List.mem_filter] at hq
      exact ⟨q, hq.1, by simpa using hq.2, rfl⟩
    · rintro ⟨q, h1, h2, rfl⟩
      exact ⟨q, List.mem_filter.2 ⟨h1, by simpa using h2⟩, rfl⟩
  have h0 := fun k => sum_longs_high (p := p) (w := w) (m := rows.length) (k := k) rows 0
  have hlow := fun k (hk : k < w) => sum_longs_low (p := p) (m := rows.length) hk rows 0
  have hat := fun x => longs_at (m := rows.length) (rows := rows) (s := 0) x
  generalize longs rows.length 0 rows = D at *
  generalize echL p D = E at *
  constructor
  · intro h
    have hPhi : ∀ f, Sp p (w + rows.length) (· ∈ D) f → ∀ c < w, p ∣ f c - sumA rows (fun j => f (w + j)) fun r => gt r c := by
      intro f hf
      induction hf with
      | @zero f h =>
        intro c hc
        have h1 := h c (by omega)
        have h2 := sumA_al (p := p) (fun r => gt r c) rows (f := fun j => f (w + j)) (h := fun _ => 0) fun k hk => h (w + k) (by omega)
        rw [sumA_zero] at h2
        have h3 := Int.dvd_sub h1 h2
        rwa [show f c - 0 - (sumA rows (fun j => f (w + j)) (fun r => gt r c) - 0) = f c - sumA rows (fun j => f (w + j)) fun r => gt r c by omega] at h3
      | @add x f g c0 hx _ he ih =>
        intro c hc
        obtain ⟨j, q, hj, rfl⟩ := hat x hx
        have hq := hr q (List.mem_of_getElem? hj)
        have hjl : j < rows.length := (List.getElem?_eq_some_iff.1 hj).1
        rw [Nat.zero_add] at he
        have h1 : p ∣ g c - (f c + c0 * gt (longR rows.length j q) c) := he c (by omega)
        have h2 := sumA_al (p := p) (fun r => gt r c) rows (f := fun j => g (w + j)) (h := fun k => f (w + k) + c0 * gt (longR rows.length j q) (w + k)) fun k hk => he (w + k) (by omega)
        rw [sumA_lin] at h2
        rw [sumA_ext (fun r => gt r c) rows (f := fun k => gt (longR rows.length j q) (w + k)) (h := fun k => if k = j then 1 else 0) fun k _ => by rw [gt_long_high hq.1]; simp [hjl], sumA_unit _ rows hj] at h2
        rw [gt_long_low hq.1 hc] at h1
        have h3 := Int.dvd_add (Int.dvd_sub h1 h2) (ih c hc)
        rwa [show g c - (f c + c0 * gt q c) - (sumA rows (fun j => g (w + j)) (fun r => gt r c) - (sumA rows (fun i => f (w + i)) (fun r => gt r c) + c0 * gt q c)) + (f c - sumA rows (fun j => f (w + j)) fun r => gt r c) = g c - sumA rows (fun j => g (w + j)) fun r => gt r c by omega] at h3
    induction h with
    | @zero f h =>
      intro c _
      have h2 := sumA_al (p := p) (fun r => gt r c) rows (f := f) (h := fun _ => 0) h
      rw [sumA_zero] at h2
      rwa [Int.sub_zero] at h2
    | @add x f g c0 hx _ he ih =>
      intro c hc
      obtain ⟨q, h1, h2, rfl⟩ := (hF x).1 hx
      have h3 := hPhi _ (e2 q h1) c hc
      rw [gt_before (by omega)] at h3
      have h4 := sumA_al (p := p) (fun r => gt r c) rows (f := g) he
      rw [sumA_lin] at h4
      rw [sumA_ext (fun r => gt r c) rows (f := gt (q.drop w)) (h := fun k => gt q (w + k)) fun k _ => gt_drop w q k] at h4
      have h5 := Int.dvd_add h4 (ih c hc)
      have h6 := dm h3 (-c0)
      have h7 := Int.dvd_add h5 h6
      rwa [show sumA rows g (fun r => gt r c) - (sumA rows f (fun r => gt r c) + c0 * sumA rows (fun k => gt q (w + k)) fun r => gt r c) + sumA rows f (fun r => gt r c) + -c0 * (0 - sumA rows (fun j => gt q (w + j)) fun r => gt r c) = sumA rows g fun r => gt r c by
        rw [Int.neg_mul, Int.zero_sub, Int.mul_neg]; omega] at h7
  · intro h
    have h1 : Sp p (w + rows.length) (· ∈ E) fun k => sumA D g fun r => gt r k := (sp_sumA g fun r hr => hr).into fun r hr => e1 r hr
    have h2 := sp_tail rE h1 fun k hk => by rw [hlow k hk g hr]; exact h k hk
    have h3 := sp_drop (T := (· ∈ kerS p w rows)) (fun r hr => (hF _).2 ⟨r, hr.1, hr.2, rfl⟩) h2
    refine h3.al fun k hk => ?_
    show p ∣ g k - sumA D g fun r => gt r (w + k)
    rw [h0 k g hr (by omega), if_pos ⟨by omega, by omega⟩, Nat.sub_zero, Int.sub_self]
    exact Int.dvd_zero p
end Go.Sm
