/- Towards the rows of this seat: what the functions do, as contracts over plain data. -/
import Derived.Test.YtemedeiolhgoeaaGreatPk43
import Derived.Test.YtemedeiolhgoeaaGreatPk6
import Derived.Test.YtemedeiolhgoeaaGreatPk3
import Derived.Test.YtemedeiolhgoeaaGreatPk10
import Derived.Test.YtemedeiolhgoeaaGreatPk9
import Derived.Test.YtemedeiolhgoeaaGreatPk7
namespace Go.Sm

/-- The sum of products. -/
def dot : Nat → (Nat → Int) → (Nat → Int) → Int
  | 0, _, _ => 0
  | n + 1, f, g => dot n f g + f n * g n
theorem dot_comm (f g : Nat → Int) : ∀ n, dot n f g = dot n g f
  | 0 => rfl
  | n + 1 => by rw [dot, dot, dot_comm f g n, Int.mul_comm]
theorem dot_ext {f f' g : Nat → Int} : ∀ {n : Nat}, (∀ k < n, f k = f' k) → dot n f g = dot n f' g
  | 0, _ => rfl
  | n + 1, h => by rw [dot, dot, dot_ext fun k hk => h k (by omega), h n (by omega)]
theorem dot_al {p : Int} {f f' g : Nat → Int} : ∀ {n : Nat}, Al p n f f' → p ∣ dot n f g - dot n f' g
  | 0, _ => by rw [dot, dot, Int.sub_self]; exact Int.dvd_zero p
  | n + 1, h => by
    have h1 := dot_al (g := g) (n := n) fun k hk => h k (by omega)
    have h2 := dm (h n (by omega)) (g n)
    rw [dot, dot]
    have := Int.dvd_add h1 h2
    rwa [Int.mul_sub, Int.mul_comm (g n), Int.mul_comm (g n), show dot n f g - dot n f' g + (f n * g n - f' n * g n) = dot n f g + f n * g n - (dot n f' g + f' n * g n) by omega] at this
theorem dot_lin (c : Int) (f h g : Nat → Int) : ∀ n, dot n (fun k => f k + c * h k) g = dot n f g + c * dot n h g
  | 0 => by simp [dot]
  | n + 1 => by rw [dot, dot, dot, dot_lin c f h g n, Int.mul_add, Int.add_mul, ← Int.mul_assoc]; omega
theorem dot_zero (g : Nat → Int) : ∀ n, dot n (fun _ => 0) g = 0
  | 0 => rfl
  | n + 1 => by rw [dot, dot_zero g n]; simp
theorem dot_sp {p : Int} {n : Nat} {S : List Int → Prop} {f g : Nat → Int} (h : Sp p n S f) (hS : ∀ r, S r → p ∣ dot n (gt r) g) : p ∣ dot n f g := by
  induction h with
  | zero h =>
    have := dot_al (g := g) h
    rwa [dot_zero, Int.sub_zero] at this
  | @add r f f' c hr _ he ih =>
    have h1 := dot_al (g := g) he
    rw [dot_lin] at h1
    have h2 := Int.dvd_add ih (dm (hS r hr) c)
    have := Int.dvd_add h1 h2
    rwa [show dot n f' g - (dot n f g + c * dot n (gt r) g) + (dot n f g + c * dot n (gt r) g) = dot n f' g by omega] at this

theorem sum_cols {E : List (List Int)} {r : List Int} {c : Nat} (h : E[c]? = some r) (g : Nat → Int) : ∀ n, sumA (colsR n E) g (fun q => gt q c) = dot n g (gt r)
  | 0 => rfl
  | n + 1 => by
    have e : colsR (n + 1) E = colsR n E ++ [E.map fun r => gt r n] := by simp [colsR, List.range_succ]
    have hg : gt (E.map fun r => gt r n) c = gt r n := by
      unfold gt
      rw [List.getD_eq_getElem?_getD, List.getElem?_map, h]; rfl
    rw [e, sumA_snoc, sum_cols h g n, colsR_length, dot, hg]

variable {p : Int} {n : Nat} {E : List (List Int)}
theorem dual_ker (hp : Pr p) (hr : ∀ r ∈ E, RowOk p n r) : dualL p n E = kerS p E.length (colsR n E) ∧ Red p n (dualL p n E) ∧ Srt (dualL p n E) := by
  have hpp := prPos hp
  obtain ⟨h1, h2⟩ := kerS_red hp (colsR_row (by omega) hr)
  rw [colsR_length] at h1
  have e := ech_id hp h1 h2
  unfold dualL
  rw [e]
  exact ⟨rfl, h1, h2⟩
/-- What makes 0 with all rows. -/
theorem dual_iff (hp : Pr p) (hr : ∀ r ∈ E, RowOk p n r) {g : Nat → Int} : Sp p n (· ∈ dualL p n E) g ↔ ∀ r ∈ E, p ∣ dot n g (gt r) := by
  have hpp := prPos hp
  have h := ker_iff hp (colsR_row (by omega) hr) (g := g)
  rw [colsR_length] at h
  rw [(dual_ker hp hr).1, h]
  constructor
  · intro h1 r hr'
    obtain ⟨c, hc, e⟩ := List.mem_iff_getElem.1 hr'
    have e' : E[c]? = some r := by rw [List.getElem?_eq_getElem hc, e]
    have := h1 c hc
    rwa [sum_cols e'] at this
  · intro h1 c hc
    have e' : E[c]? = some E[c] := List.getElem?_eq_getElem hc
    rw [sum_cols e']
    exact h1 _ (List.getElem_mem hc)

theorem unitsL_red (hp : Pr p) (m : Nat) : Red p m (unitsL m) ∧ Srt (unitsL m) := by
  have hpp := prPos hp
  have hl : ∀ i < m, leadN (unitR m i) = i := fun i hi => leadN_of (fun k hk => by rw [gt_unit, if_neg (by omega)]) (by rw [gt_unit, if_pos ⟨rfl, hi⟩]; decide)
  have hpw : (List.range m).Pairwise fun a b => a < b ∧ b < m := by
    have h1 := List.pairwise_lt_range (n := m)
    refine List.Pairwise.imp_of_mem (fun {a b} _ hb h => ⟨h, List.mem_range.1 hb⟩) h1
  refine ⟨⟨fun r hr => ?_, ?_⟩, ?_⟩
  · obtain ⟨i, hi, rfl⟩ := List.mem_map.1 hr
    have hi := List.mem_range.1 hi
    exact ⟨unitR_row hpp.1 m i, by rw [hl i hi, gt_unit, if_pos ⟨rfl, hi⟩]⟩
  · unfold unitsL
    refine List.pairwise_map.2 (hpw.imp fun {a b} h => ?_)
    rw [hl a (by omega), hl b (by omega), gt_unit, gt_unit, if_neg (by omega), if_neg (by omega)]
    exact ⟨rfl, rfl⟩
  · unfold unitsL
    refine List.pairwise_map.2 (hpw.imp fun {a b} h => ?_)
    rw [hl a (by omega), hl b (by omega)]; exact h.1

theorem sp_units (hp : Pr p) (m : Nat) (f : Nat → Int) : Sp p m (· ∈ unitsL m) f := by
  have key : ∀ j, j ≤ m → Sp p m (· ∈ unitsL m) fun k => if k < j then f k else 0 := by
    intro j
    induction j with
    | zero => exact fun _ => .zero fun k _ => by simp
    | succ j ih =>
      intro hj
      refine .add (f j) (List.mem_map.2 ⟨j, List.mem_range.2 (by omega), rfl⟩) (ih (by omega)) fun k hk => ?_
      simp only
      rw [gt_unit]
      by_cases h1 : k < j
      · rw [if_pos (by omega), if_pos h1, if_neg (by omega)]; simp
      · by_cases h2 : k = j
        · subst h2; rw [if_pos (by omega), if_neg (by omega), if_pos ⟨rfl, by omega⟩]; simp
        · rw [if_neg (by omega), if_neg h1, if_neg (by omega)]; simp
  exact (key m (Nat.le_refl m)).al fun k hk => by simp only [if_pos hk, Int.sub_self]; exact Int.dvd_zero p

/-- The rank of the columns. -/
theorem cols_rank (hp : Pr p) (hE : Red p n E) : (echL p (colsR n E)).length = E.length := by
  have hpp := prPos hp
  have hr : ∀ r ∈ E, RowOk p n r := fun r h => (hE.1 r h).1
  obtain ⟨u1, u2⟩ := unitsL_red hp E.length
  have e : echL p (colsR n E) = echL p (unitsL E.length) := by
    refine ech_unique hp (colsR_row (by omega) hr) (fun r h => (u1.1 r h).1) (fun r _ => sp_units hp _ _) fun r h => .one ?_
    obtain ⟨i, hi, rfl⟩ := List.mem_map.1 h
    have hi := List.mem_range.1 hi
    have hm := List.getElem_mem hi
    have hE1 := hE.1 _ hm
    refine List.mem_map.2 ⟨leadN E[i], List.mem_range.2 (lead_lt hE1.1 hE1.2), ?_⟩
    refine List.ext_getElem (by simp [unitR]) fun k h1 h2 => ?_
    have hk : k < E.length := by simpa using h1
    rw [List.getElem_map]
    have e2 : (unitR E.length i)[k] = gt (unitR E.length i) k := by rw [gt_lt h2]
    rw [e2, gt_unit]
    by_cases h : k = i
    · subst h; rw [if_pos ⟨rfl, hi⟩]; exact hE1.2
    · rw [if_neg (fun h' => h h'.1)]
      have hpw := List.pairwise_iff_getElem.1 hE.2
      rcases Nat.lt_or_gt_of_ne h with h | h
      · exact (hpw k i hk hi h).2
      · exact (hpw i k hi hk h).1
  rw [e, ech_id hp u1 u2]; simp [unitsL]
theorem dual_length (hp : Pr p) (hE : Red p n E) : (dualL p n E).length + E.length = n := by
  have hpp := prPos hp
  have hr : ∀ r ∈ E, RowOk p n r := fun r h => (hE.1 r h).1
  have := rank_null hp (colsR_row (by omega) hr)
  rwa [← (dual_ker hp hr).1, cols_rank hp hE, colsR_length] at this

theorem nodup_full {α : Type} [DecidableEq α] : ∀ {xs ys : List α}, xs.Nodup → (∀ x ∈ xs, x ∈ ys) → ys.length ≤ xs.length → ∀ y ∈ ys, y ∈ xs
  | [], ys, _, _, hl, y, hy => by
    have : ys = [] := List.eq_nil_of_length_eq_zero (by simpa using hl)
    rw [this] at hy; exact hy
  | x :: xs, ys, hn, hs, hl, y, hy => by
    obtain ⟨h1, h2⟩ := List.nodup_cons.1 hn
    have hx := hs x (List.mem_cons_self ..)
    by_cases e : y = x
    · rw [e]; exact List.mem_cons_self ..
    · refine List.mem_cons_of_mem _ (nodup_full (ys := ys.erase x) h2 (fun z hz => (List.mem_erase_of_ne (fun e => h1 (by rw [← e]; exact hz))).2 (hs z (List.mem_cons_of_mem _ hz))) ?_ y ((List.mem_erase_of_ne e).2 hy))
      rw [List.length_erase_of_mem hx]
      simp only [List.length_cons] at hl
      omega

/-- A reduced list within another one's space, as long as it: it is that list. -/
theorem red_eq (hp : Pr p) {L M : List (List Int)} (hL : Red p n L) (sL : Srt L) (hM : Red p n M) (sM : Srt M) (h : ∀ r ∈ L, Sp p n (· ∈ M) (gt r)) (hl : M.length ≤ L.length) : L = M := by
  have hp0 : 0 < p := by have := prPos hp; omega
  have h1 : ∀ r ∈ L, InSp p n M r := fun r hr => sp_inSp hM (h r hr)
  have hleads : ∀ m ∈ M, ∃ r ∈ L, leadN r = leadN m := by
    have hn : (L.map leadN).Nodup := List.pairwise_map.2 (sL.imp fun {a b} h => by omega)
    have := nodup_full (ys := M.map leadN) hn (fun x hx => by
      obtain ⟨r, hr, rfl⟩ := List.mem_map.1 hx
      have hr1 := hL.1 r hr
      obtain ⟨m, hm, e⟩ := sp_lead hp0 hr1.1 (led_one hr1.2) (h1 r hr)
      exact List.mem_map.2 ⟨m, hm, e⟩) (by simpa using hl)
    intro m hm
    obtain ⟨r, hr, e⟩ := List.mem_map.1 (this (leadN m) (List.mem_map.2 ⟨m, hm, rfl⟩))
    exact ⟨r, hr, e⟩
  refine red_unique hp0 hL sL hM sM h1 fun m hm => ?_
  have hm1 := hM.1 m hm
  refine (inSp_iff hp0 hL hm1.1).2 fun hled => ?_
  obtain ⟨w1, w2⟩ := less_ok hp0 hL hm1.1
  have hs : Sp p n (· ∈ M) (gt (lessL p L m)) := ((Sp.one (S := (· ∈ M)) hm).sub ((sumF_sp (S := (· ∈ L)) (gt m) fun r hr => hr).into h)).al (less_al hp0 hL hm1.1)
  obtain ⟨m', hm', e⟩ := sp_lead hp0 w1 hled (sp_inSp hM hs)
  obtain ⟨r, hr, e2⟩ := hleads m' hm'
  have h0 := less_zero hp0 hL hm1.1 r hr
  rw [e2, e] at h0
  exact gt_lead hled h0

theorem dual_dual (hp : Pr p) (hE : Red p n E) (sE : Srt E) : dualL p n (dualL p n E) = E := by
  have hr : ∀ r ∈ E, RowOk p n r := fun r h => (hE.1 r h).1
  obtain ⟨_, d1, d2⟩ := dual_ker hp hr
  have hr2 : ∀ r ∈ dualL p n E, RowOk p n r := fun r h => (d1.1 r h).1
  obtain ⟨_, q1, q2⟩ := dual_ker hp hr2
  have l1 := dual_length hp hE
  have l2 := dual_length hp d1
  refine (red_eq hp hE sE q1 q2 (fun r h => (dual_iff hp hr2).2 fun q hq => ?_) (by omega)).symm
  rw [dot_comm]
  exact (dual_iff hp hr).1 (.one hq) r h

/-- What one space alone tells. -/
theorem dual_sp (hp : Pr p) {F : List (List Int)} (hE : ∀ r ∈ E, RowOk p n r) (hF : ∀ r ∈ F, RowOk p n r) (h1 : ∀ r ∈ E, Sp p n (· ∈ F) (gt r)) (h2 : ∀ r ∈ F, Sp p n (· ∈ E) (gt r)) : dualL p n E = dualL p n F := by
  obtain ⟨_, d1, d2⟩ := dual_ker hp hE
  obtain ⟨_, q1, q2⟩ := dual_ker hp hF
  refine red_unique (by have := prPos hp; omega) d1 d2 q1 q2 (fun r hr => sp_inSp q1 ((dual_iff hp hF).2 fun q hq => ?_)) fun r hr => sp_inSp d1 ((dual_iff hp hE).2 fun q hq => ?_)
  · rw [dot_comm]
    refine dot_sp (h2 q hq) fun q' hq' => ?_
    rw [dot_comm]
    exact (dual_iff hp hE).1 (.one hr) q' hq'
  · rw [dot_comm]
    refine dot_sp (h1 q hq) fun q' hq' => ?_
    rw [dot_comm]
    exact (dual_iff hp hF).1 (.one hr) q' hq'

/-! ### without a place -/
theorem dot_cut {i : Nat} (f g : Nat → Int) : ∀ {n : Nat}, i < n → dot n f g = dot (n - 1) (fun k => f (if k < i then k else k + 1)) (fun k => g (if k < i then k else k + 1)) + f i * g i
  | 0, h => absurd h (by omega)
  | n + 1, h => by
    by_cases hi : i = n
    · subst hi
      rw [dot, Nat.add_sub_cancel]
      congr 1
      have : ∀ m, m ≤ i → dot m f g = dot m (fun k => f (if k < i then k else k + 1)) (fun k => g (if k < i then k else k + 1)) := by
        intro m
        induction m with
        | zero => exact fun _ => rfl
        | succ m ih => intro hm; rw [dot, dot, ih (by omega)]; simp only [if_pos (show m < i by omega)]
      exact this i (Nat.le_refl i)
    · obtain ⟨m, rfl⟩ : ∃ m, n = m + 1 := ⟨n - 1, by omega⟩
      have ih := dot_cut (i := i) f g (n := m + 1) (by omega)
      rw [dot, ih, Nat.add_sub_cancel, Nat.add_sub_cancel, dot]
      simp only [if_neg (show ¬ m < i by omega)]
      omega
end Go.Sm

namespace Go.Sm

variable {p l : Int} {n : Nat} {rows : List (List Int)}
theorem GoodC.red (h : GoodC p l rows) : Pr p ∧ Red p l.toNat rows ∧ Srt rows ∧ 1 ≤ l ∧ l ≤ 10 := by
  obtain ⟨r1, r2⟩ := ech_good h.1.1.1 h.1.rows h.2.2
  exact ⟨h.1.1.1, r1, r2, h.1.1.2⟩
theorem goodC_of (hp : Pr p) (h1 : 1 ≤ l) (h2 : l ≤ 10) (hR : Red p l.toNat rows) (hs : Srt rows) : GoodC p l rows := by
  refine ⟨⟨⟨hp, h1, h2⟩, fun r hr => ⟨?_, (hR.1 r hr).1.2⟩⟩, ?_, ech_id hp hR hs⟩
  · rw [(hR.1 r hr).1.1]; omega
  · have hn : (rows.map leadN).Nodup := List.pairwise_map.2 (hs.imp fun {a b} h => by omega)
    have := nodup_full (ys := List.range l.toNat) hn (fun x hx => by
      obtain ⟨r, hr, rfl⟩ := List.mem_map.1 hx
      exact List.mem_range.2 (lead_lt (hR.1 r hr).1 (hR.1 r hr).2))
    by_cases hc : (rows.length : Int) ≤ l
    · exact hc
    · exfalso
      have h3 : (rows.map leadN).length ≤ (List.range l.toNat).length := by
        have key : ∀ {xs ys : List Nat}, xs.Nodup → (∀ x ∈ xs, x ∈ ys) → xs.length ≤ ys.length := by
          intro xs
          induction xs with
          | nil => intro ys _ _; exact Nat.zero_le _
          | cons x xs ih =>
            intro ys hn hs
            obtain ⟨h1, h2⟩ := List.nodup_cons.1 hn
            have hx := hs x (List.mem_cons_self ..)
            have := ih (ys := ys.erase x) h2 fun z hz => (List.mem_erase_of_ne (fun e => h1 (by rw [← e]; exact hz))).2 (hs z (List.mem_cons_of_mem _ hz))
            rw [List.length_erase_of_mem hx] at this
            have hp := List.length_pos_of_mem hx
            simp only [List.length_cons]; omega
        exact key hn fun x hx => by
          obtain ⟨r, hr, rfl⟩ := List.mem_map.1 hx
          exact List.mem_range.2 (lead_lt (hR.1 r hr).1 (hR.1 r hr).2)
      rw [List.length_map, List.length_range] at h3
      omega
theorem ech_red (hp : Pr p) (h : ∀ r ∈ rows, RowOk p n r) : Red p n (echL p rows) ∧ Srt (echL p rows) := by
  have hb := both_ok hp rows (both_nil p n) h
  exact ⟨hb.1.perm hb.2.1.symm, hb.2.2⟩

theorem self_half (h : selfR p l rows = (true, 0)) : 2 * (rows.length : Int) = l := by
  unfold selfR at h
  split at h
  · rename_i hg
    obtain ⟨hp, hR, hs, h1, _⟩ := hg.red
    have := dual_length hp hR
    simp only [Prod.mk.injEq, decide_eq_true_eq, and_true] at h
    rw [h] at this
    omega
  · cases h

theorem dual_good (hg : GoodC p l rows) : GoodC p l (dualL p l.toNat rows) := by
  obtain ⟨hp, hR, hs, h1, h2⟩ := hg.red
  obtain ⟨_, d1, d2⟩ := dual_ker hp fun r hr => (hR.1 r hr).1
  exact goodC_of hp h1 h2 d1 d2
theorem back_dual (hg : GoodC p l rows) : dualR p l (dualL p l.toNat rows) = ((p, l, rows), 0) ∧ (rows.length : Int) + (dualL p l.toNat rows).length = l := by
  obtain ⟨hp, hR, hs, h1, h2⟩ := hg.red
  have := dual_length hp hR
  refine ⟨?_, by omega⟩
  unfold dualR
  rw [if_pos (dual_good hg), dual_dual hp hR hs]

theorem word_sp (hg : GoodC p l rows) {v : List Int} (hv : RowP p l v) (h : Sp p l.toNat (· ∈ rows) (gt v)) : wordOf p l rows v = (true, 0) := by
  obtain ⟨hp, hR, hs, h1, h2⟩ := hg.red
  have hv' : RowOk p l.toNat v := ⟨by have := hv.1; omega, hv.2⟩
  have := (inSp_iff (by have := prPos hp; omega) hR hv').1 (sp_inSp hR h)
  unfold wordOf
  rw [if_pos hg, if_pos hv, decide_eq_true this]

theorem code_word (h : GoodRows p l rows) : GoodC p l (echL p rows) ∧ ∀ r ∈ rows, wordOf p l (echL p rows) r = (true, 0) := by
  have hp := h.1.1
  obtain ⟨h1, h2⟩ := ech_red hp h.rows
  have hg := goodC_of hp h.1.2.1 h.1.2.2 h1 h2
  exact ⟨hg, fun r hr => word_sp hg (h.2 r hr) ((ech_sp hp h.rows).1 r hr)⟩

/-! ### extended codes -/
theorem dot_ones : ∀ (m : Nat) (r : List Int), r.length ≤ m → ∀ n, dot n (gt r) (gt (onesL m)) = (r.take n).sum ∨ m < n
  | m, r, hr, 0 => .inl (by simp [dot])
  | m, r, hr, n + 1 => by
    rcases dot_ones m r hr n with h | h
    · by_cases hn : n < m
      · left
        have h1 : gt (onesL m) n = 1 := by
          rw [gt_lt (by simpa [onesL] using hn)]; simp [onesL]
        rw [dot, h, h1, Int.mul_one, List.take_add_one]
        unfold gt
        rw [List.getD_eq_getElem?_getD]
        cases r[n]? <;> simp
      · right; omega
    · right; omega
theorem ext_word (hg : GoodC p l rows) (h10 : l ≠ 10) : namR sEven p (l + 1) = ((p, l + 1, dualL p (l.toNat + 1) (echL p [onesL (l.toNat + 1)])), 0) ∧ GoodC p (l + 1) (rows.map (extR p)) ∧
    ∀ r ∈ rows.map (extR p), wordOf p (l + 1) (dualL p (l.toNat + 1) (echL p [onesL (l.toNat + 1)])) r = (true, 0) := by
  obtain ⟨hp, hR, hs, h1, h2⟩ := hg.red
  have hpp := prPos hp
  have hn : (l + 1).toNat = l.toNat + 1 := by omega
  have ho := one_rows hpp.1 (l.toNat + 1)
  have he := (ech_facts hp ho).2
  obtain ⟨_, d1, d2⟩ := dual_ker hp he
  have hgE : GoodC p (l + 1) (dualL p (l.toNat + 1) (echL p [onesL (l.toNat + 1)])) := goodC_of hp (by omega) (by omega) (by rw [hn]; exact d1) d2
  have hx := ext_rows (p := p) (by omega) fun r hr => (hR.1 r hr).1
  have hxe := ext_id hp hR hs
  obtain ⟨x1, x2⟩ := ech_red hp hx
  rw [hxe] at x1 x2
  refine ⟨?_, goodC_of hp (by omega) (by omega) (by rw [hn]; exact x1) x2, fun r hr => word_sp hgE ⟨?_, (hx r hr).2⟩ ?_⟩
  · unfold namR
    rw [if_pos ⟨hp, by omega, by omega⟩, hn]
    rfl
  · rw [(hx r hr).1]; omega
  · rw [hn]
    refine (dual_iff hp he).2 fun q hq => ?_
    rw [dot_comm]
    refine dot_sp ((ech_sp hp ho).2 q hq) fun q' hq' => ?_
    obtain rfl : q' = onesL (l.toNat + 1) := by simpa using hq'
    rw [dot_comm]
    obtain ⟨r0, hr0, rfl⟩ := List.mem_map.1 hr
    have hl := (hx _ hr).1
    rcases dot_ones (l.toNat + 1) (extR p r0) (by omega) (l.toNat + 1) with h | h
    · rw [h, List.take_of_length_le (by omega)]
      unfold extR
      rw [List.sum_append]
      simp only [List.sum_cons, List.sum_nil, Int.add_zero]
      have := mod_al (p := p) (-r0.sum)
      rwa [show -r0.sum % p - -r0.sum = r0.sum + -r0.sum % p by omega] at this
    · omega
end Go.Sm

namespace Go.Sm

variable {p l : Int} {n : Nat} {rows : List (List Int)}
def skipF (i : Nat) (f : Nat → Int) (k : Nat) : Int := f (if k < i then k else k + 1)
theorem gt_cutF {i : Nat} {r : List Int} (hi : i < r.length) : gt (cutR i r) = skipF i (gt r) := funext fun k => gt_cut hi k
theorem short_dual (hp : Pr p) (hR : Red p n rows) (hs : Srt rows) {i : Nat} (hi : i < n) :
    dualL p (n - 1) (echL p ((shI p i rows none).map (cutR i))) = echL p ((dualL p n rows).map (cutR i)) := by
  have hp0 : 0 < p := by have := prPos hp; omega
  have hr : ∀ r ∈ rows, RowOk p n r := fun r h => (hR.1 r h).1
  obtain ⟨_, d1, d2⟩ := dual_ker hp hr
  have hd : ∀ r ∈ dualL p n rows, RowOk p n r := fun r h => (d1.1 r h).1
  have hdd := dual_dual hp hR hs
  have hI := shI_mem hp hi hr (fo := none) (fun f e => by cases e)
  have hA : ∀ r ∈ (shI p i rows none).map (cutR i), RowOk p (n - 1) r := (sh_same hp hi hr).2.1
  have hB : ∀ r ∈ (dualL p n rows).map (cutR i), RowOk p (n - 1) r := fun r h => by
    obtain ⟨q, hq, rfl⟩ := List.mem_map.1 h
    exact cut_row hi (hd q hq)
  obtain ⟨a1, a2⟩ := ech_red hp hA
  obtain ⟨b1, b2⟩ := ech_red hp hB
  obtain ⟨sA1, sA2⟩ := ech_sp hp hA
  obtain ⟨sB1, sB2⟩ := ech_sp hp hB
  have hB' : ∀ r ∈ echL p ((dualL p n rows).map (cutR i)), RowOk p (n - 1) r := fun r h => (b1.1 r h).1
  obtain ⟨_, e1, e2⟩ := dual_ker hp hB'
  -- the shortened rows are what makes 0 with the punctured dual
  have key : dualL p (n - 1) (echL p ((dualL p n rows).map (cutR i))) = echL p ((shI p i rows none).map (cutR i)) := by
    refine red_unique hp0 e1 e2 a1 a2 (fun r h => sp_inSp a1 ?_) fun r h => sp_inSp e1 ((dual_iff hp hB').2 fun q hq => ?_)
    · have hr1 := (e1.1 r h).1
      have hz := (dual_iff hp hB').1 (.one h)
      let f : Nat → Int := fun k => if k < i then gt r k else if k = i then 0 else gt r (k - 1)
      have hf0 : f i = 0 := by simp [f]
      have hfs : skipF i f = gt r := by
        funext k
        unfold skipF
        simp only [f]
        by_cases hk : k < i
        · rw [if_pos hk, if_pos hk]
        · rw [if_neg hk, if_neg (by omega), if_neg (by omega), Nat.add_sub_cancel]
      have h1 : Sp p n (· ∈ rows) f := by
        rw [← hdd]
        refine (dual_iff hp hd).2 fun b hb => ?_
        rw [dot_cut f (gt b) hi, hf0, Int.zero_mul, Int.add_zero]
        have e : dot (n - 1) (fun k => f (if k < i then k else k + 1)) (fun k => gt b (if k < i then k else k + 1)) = dot (n - 1) (gt r) (gt (cutR i b)) := by
          rw [gt_cutF (by rw [(hd b hb).1]; exact hi), ← hfs]; rfl
        rw [e, dot_comm]
        refine dot_sp (sB1 _ (List.mem_map.2 ⟨b, hb, rfl⟩)) fun q hq => ?_
        rw [dot_comm]
        exact hz q hq
      have h2 := sp_cut hi (fun r hr => (hI r hr).1.1) (shI_full hp hi hr h1 (by rw [hf0]; exact Int.dvd_zero p))
      have h3 := h2.into sA1
      have e : (fun k => f (if k < i then k else k + 1)) = gt r := hfs
      rwa [e] at h3
    · refine dot_sp (sA2 r h) fun a' ha' => ?_
      obtain ⟨a, ha, rfl⟩ := List.mem_map.1 ha'
      rw [dot_comm]
      refine dot_sp (sB2 q hq) fun b' hb' => ?_
      obtain ⟨b, hb, rfl⟩ := List.mem_map.1 hb'
      obtain ⟨i1, i2, i3⟩ := hI a ha
      have h1 : Sp p n (· ∈ rows) (gt a) := i3.more fun z hz => hz.elim id (fun e => by cases e)
      have h2 : p ∣ dot n (gt b) (gt a) := by
        rw [dot_comm]
        refine dot_sp h1 fun q hq => ?_
        rw [dot_comm]
        exact (dual_iff hp hr).1 (.one hb) q hq
      rw [dot_cut _ _ hi, i2, Int.mul_zero, Int.add_zero] at h2
      rw [gt_cutF (by rw [(hd b hb).1]; exact hi), gt_cutF (by rw [i1.1]; exact hi)]
      exact h2
  rw [← key, dual_dual hp b1 b2]

theorem short_facts {i : Int} (h : placeN p l rows i = 0) : ∃ E, shoR p l rows i = ((p, l - 1, E), 0) ∧ dualR p (l - 1) E = ((p, l - 1, echL p ((dualL p l.toNat rows).map (cutR i.toNat))), 0) ∧ dualR p l rows = ((p, l, dualL p l.toNat rows), 0) ∧
    punR p l (dualL p l.toNat rows) i = ((p, l - 1, echL p ((dualL p l.toNat rows).map (cutR i.toNat))), 0) := by
  obtain ⟨hg, h0, h1, h2⟩ := placeN_zero h
  obtain ⟨hp, hR, hs, _, h10⟩ := hg.red
  have hr : ∀ r ∈ rows, RowOk p l.toNat r := fun r h => (hR.1 r h).1
  have hn : (l - 1).toNat = l.toNat - 1 := by omega
  have hA : ∀ r ∈ (shI p i.toNat rows none).map (cutR i.toNat), RowOk p (l.toNat - 1) r := (sh_same hp (by omega) hr).2.1
  obtain ⟨a1, a2⟩ := ech_red hp hA
  refine ⟨_, by unfold shoR; rw [if_pos h], ?_, by unfold dualR; rw [if_pos hg], ?_⟩
  · unfold dualR
    rw [if_pos (goodC_of hp (by omega) (by omega) (by rw [hn]; exact a1) a2), hn, short_dual hp hR hs (by omega)]
  · have : placeN p l (dualL p l.toNat rows) i = 0 := by unfold placeN; rw [if_pos (dual_good hg), if_pos ⟨h0, h1⟩, if_neg (by omega)]
    unfold punR
    rw [if_pos this]
end Go.Sm
