/- Towards the rows of this seat: what the functions do, as contracts over plain data. -/
import Derived.Test.YtdfihhfnnogpeaaGreatPkQrNewRelationsBK26
import Derived.Test.YtdfihhfnnogpeaaGreatPkQrNewRelationsBK28
import Derived.Test.YtdfihhfnnogpeaaGreatPkQrNewRelationsBK21
import Derived.Test.YtdfihhfnnogpeaaGreatPkQrNewRelationsBK25
import Derived.Test.YtdfihhfnnogpeaaGreatPkQrNewRelationsBK19
namespace Go.Sm

/-- The program's: the relations of lesser degrees, times one polynomial of the list. -/
noncomputable def liftI (p d : Int) (ys : List Pl) (n : Nat) : Nat → List (List Int)
  | 0 => []
  | i + 1 => liftI p d ys n i ++ match ys[i]? with
    | none => []
    | some x => if n ≤ dgP x then [] else (relK p d ys (n - dgP x)).map (liftL (expsL (ys.map dgP) n) (expsL (ys.map dgP) (n - dgP x)) (incE i))
/-- The reference's: the relations of lesser degrees, times products. -/
noncomputable def liftS (p d : Int) (ys : List Pl) (n : Nat) : Nat → List (List Int)
  | 0 => []
  | m + 1 => liftS p d ys n m ++ (relK p d ys m).flatMap fun r => (expsL (ys.map dgP) (n - m)).map fun e' => liftL (expsL (ys.map dgP) n) (expsL (ys.map dgP) m) (fun e => addV e e') r
theorem liftI_step {p d : Int} {ys : List Pl} {n i : Nat} {x : Pl} (h : ys[i]? = some x) :
    liftI p d ys n (i + 1) = liftI p d ys n i ++ if n ≤ dgP x then [] else (relK p d ys (n - dgP x)).map (liftL (expsL (ys.map dgP) n) (expsL (ys.map dgP) (n - dgP x)) (incE i)) := by simp only [liftI, h]
theorem mem_liftI {p d : Int} {ys : List Pl} {n : Nat} {r : List Int} : ∀ {k : Nat}, k ≤ ys.length → (r ∈ liftI p d ys n k ↔ ∃ i x, i < k ∧ ys[i]? = some x ∧ dgP x < n ∧ ∃ q ∈ relK p d ys (n - dgP x), r = liftL (expsL (ys.map dgP) n) (expsL (ys.map dgP) (n - dgP x)) (incE i) q)
  | 0, _ => by
    constructor
    · intro h; cases h
    · rintro ⟨i, x, h, _⟩; omega
  | k + 1, hk => by
    obtain ⟨y, hy⟩ : ∃ y, ys[k]? = some y := ⟨ys[k], List.getElem?_eq_getElem (by omega)⟩
    rw [liftI_step hy, List.mem_append, mem_liftI (by omega)]
    constructor
    · rintro (⟨i, x, h1, h2⟩ | h)
      · exact ⟨i, x, by omega, h2⟩
      · by_cases hc : n ≤ dgP y
        · rw [if_pos hc] at h; cases h
        · rw [if_neg hc] at h
          obtain ⟨q, hq, rfl⟩ := List.mem_map.1 h
          exact ⟨k, y, by omega, hy, by omega, q, hq, rfl⟩
    · rintro ⟨i, x, h1, h2, h3, q, hq, rfl⟩
      by_cases hik : i = k
      · subst hik
        have := h2.symm.trans hy
        simp only [Option.some.injEq] at this
        subst this
        right
        rw [if_neg (by omega)]
        exact List.mem_map.2 ⟨q, hq, rfl⟩
      · exact .inl ⟨i, x, by omega, h2, h3, q, hq, rfl⟩
theorem mem_liftS {p d : Int} {ys : List Pl} {n : Nat} {r : List Int} : ∀ {k : Nat}, (r ∈ liftS p d ys n k ↔ ∃ m, m < k ∧ ∃ q ∈ relK p d ys m, ∃ e' ∈ expsL (ys.map dgP) (n - m), r = liftL (expsL (ys.map dgP) n) (expsL (ys.map dgP) m) (fun e => addV e e') q)
  | 0 => by
    constructor
    · intro h; cases h
    · rintro ⟨m, h, _⟩; omega
  | k + 1 => by
    rw [liftS, List.mem_append, mem_liftS, List.mem_flatMap]
    constructor
    · rintro (⟨m, h1, h2⟩ | ⟨q, hq, h⟩)
      · exact ⟨m, by omega, h2⟩
      · obtain ⟨e', he, rfl⟩ := List.mem_map.1 h
        exact ⟨k, by omega, q, hq, e', he, rfl⟩
    · rintro ⟨m, h1, q, hq, e', he, rfl⟩
      by_cases hmk : m = k
      · subst hmk
        exact .inr ⟨q, hq, List.mem_map.2 ⟨e', he, rfl⟩⟩
      · exact .inl ⟨m, by omega, q, hq, e', he, rfl⟩

/-- What holds of a list whose relations are asked. -/
structure RelOk (p d : Int) (ys : List Pl) : Prop where
  hp : Pr p
  hd : 1 ≤ d ∧ d ≤ 3
  hg : GL p d ys
  hh : HL d ys
  hd1 : ∀ y ∈ ys, 1 ≤ dgP y
  hl : ys.length ≤ 8
  hne : ys ≠ []
theorem RelOk.ds {p d : Int} {ys : List Pl} (h : RelOk p d ys) : ∀ x ∈ ys.map dgP, 1 ≤ x := fun x hx => by obtain ⟨y, hy, rfl⟩ := List.mem_map.1 hx; exact h.hd1 y hy
theorem exps_of {p d : Int} {ys : List Pl} (h : RelOk p d ys) {n : Nat} {e : List Int} (he : e ∈ expsL (ys.map dgP) n) : e.length = ys.length ∧ degL (ys.map dgP) e = n ∧ ∀ x ∈ e, 0 ≤ x := by
  obtain ⟨a1, a2, a3⟩ := expsL_mem h.ds he
  rw [List.length_map] at a1
  exact ⟨a1, a2, fun x hx => (a3 x hx).1⟩
theorem exps_le {p d : Int} {ys : List Pl} (h : RelOk p d ys) {n : Nat} {e : List Int} (he : e ∈ expsL (ys.map dgP) n) : ∀ x ∈ e, x ≤ n := fun x hx => ((expsL_mem h.ds he).2.2 x hx).2
theorem exps_in {p d : Int} {ys : List Pl} (h : RelOk p d ys) {n : Nat} {e : List Int} (h1 : e.length = ys.length) (h2 : degL (ys.map dgP) e = n) (h3 : ∀ x ∈ e, 0 ≤ x) : e ∈ expsL (ys.map dgP) n :=
  expsL_in h.ds (by rw [List.length_map]; exact h1) h2 h3
theorem exps_add {p d : Int} {ys : List Pl} (h : RelOk p d ys) {m k : Nat} {e q : List Int} (he : e ∈ expsL (ys.map dgP) m) (hq : q ∈ expsL (ys.map dgP) k) : addV e q ∈ expsL (ys.map dgP) (m + k) := by
  obtain ⟨a1, a2, a3⟩ := exps_of h he
  obtain ⟨b1, b2, b3⟩ := exps_of h hq
  obtain ⟨c1, c2, c3⟩ := addV_facts (ds := ys.map dgP) (by rw [List.length_map]; exact a1) (by rw [List.length_map]; exact b1) a3 b3
  exact expsL_in h.ds c1 (by omega) c3
theorem exps_inc {p d : Int} {ys : List Pl} (h : RelOk p d ys) {m i : Nat} {x : Pl} (hx : ys[i]? = some x) {e : List Int} (he : e ∈ expsL (ys.map dgP) m) : incE i e ∈ expsL (ys.map dgP) (m + dgP x) := by
  obtain ⟨a1, a2, a3⟩ := exps_of h he
  obtain ⟨c1, c2, c3⟩ := incE_facts (ds := ys.map dgP) (i := i) (d := dgP x) (by rw [List.getElem?_map, hx]; rfl) (by rw [List.length_map]; exact a1) a3
  exact exps_in h (c1.trans a1) (by omega) c3
theorem lift_relS {p d : Int} {ys : List Pl} (h : RelOk p d ys) {m k : Nat} (hm : m ≤ 12) {g : Nat → Int} (hr : RelP p d ys m g) {q : List Int} (hq : q ∈ expsL (ys.map dgP) k) :
    RelP p d ys (m + k) (liftF (expsL (ys.map dgP) m) (expsL (ys.map dgP) (m + k)) (fun e => addV e q) g) := by
  have hpp := h.hp.pos
  refine lift_rel h.hp h.hg h.hh h.hd1 hm hr (prodL p ys q one1) fun e he => ⟨exps_add h he hq, ?_⟩
  obtain ⟨a1, a2, a3⟩ := exps_of h he
  obtain ⟨b1, b2, b3⟩ := exps_of h hq
  have h1 := prodL_add (p := p) (by omega) ys e q one1 one1 a1 b1 a3 b3
  rw [mulT_one (by omega) (one_can hpp.1)] at h1
  rw [h1, mulT_comm (by omega)]
theorem gt_liftI {p d : Int} {ys : List Pl} (h : RelOk p d ys) {m i : Nat} {x : Pl} (hx : ys[i]? = some x) {r : List Int} {j : Nat} (hj : j < (expsL (ys.map dgP) (m + dgP x)).length) :
    gt (liftL (expsL (ys.map dgP) (m + dgP x)) (expsL (ys.map dgP) m) (incE i) r) j = liftF (expsL (ys.map dgP) m) (expsL (ys.map dgP) (m + dgP x)) (incE i) (gt r) j :=
  gt_liftL (exps_nodup _ _) (exps_nodup _ _) (fun e he => exps_inc h hx he) (fun e _ e' _ hee => incE_inj hee) hj
theorem gt_liftS {p d : Int} {ys : List Pl} (h : RelOk p d ys) {m k : Nat} {q : List Int} (hq : q ∈ expsL (ys.map dgP) k) {r : List Int} {j : Nat} (hj : j < (expsL (ys.map dgP) (m + k)).length) :
    gt (liftL (expsL (ys.map dgP) (m + k)) (expsL (ys.map dgP) m) (fun e => addV e q) r) j = liftF (expsL (ys.map dgP) m) (expsL (ys.map dgP) (m + k)) (fun e => addV e q) (gt r) j :=
  gt_liftL (exps_nodup _ _) (exps_nodup _ _) (fun e he => exps_add h he hq) (fun e he e' he' hee => addV_inj ((exps_of h he).1.trans (exps_of h hq).1.symm) ((exps_of h he').1.trans (exps_of h hq).1.symm) hee) hj
theorem relK_rel {p d : Int} {ys : List Pl} (h : RelOk p d ys) {n : Nat} (hn : n ≤ 12) {q : List Int} (hq : q ∈ relK p d ys n) : RelP p d ys n (gt q) := (rel_iff h.hp h.hg h.hd1 hn).1 (.one hq)
theorem relK_zero {p d : Int} {ys : List Pl} (h : RelOk p d ys) : relK p d ys 0 = [] := by
  have h1 := gen_rel h.hp h.hg h.hh h.hd1 (n := 0) (by omega)
  have h2 : cntL (ys.map dgP) 0 = 1 := exps_zero _
  have h3 : (genAt p d ys 0).length = 1 := rfl
  exact List.length_eq_zero_iff.1 (by omega)
theorem relK_row {p d : Int} {ys : List Pl} (h : RelOk p d ys) {n : Nat} (hn : n ≤ 12) : ∀ q ∈ relK p d ys n, RowOk p (expsL (ys.map dgP) n).length q := (relK_len h.hp h.hg h.hd1 hn).2
theorem liftI_row {p d : Int} {ys : List Pl} (h : RelOk p d ys) {n : Nat} (hn : n ≤ 12) {k : Nat} (hk : k ≤ ys.length) : ∀ r ∈ liftI p d ys n k, RowOk p (expsL (ys.map dgP) n).length r := fun r hr => by
  obtain ⟨i, x, _, _, _, q, hq, rfl⟩ := (mem_liftI hk).1 hr
  have := h.hp.pos
  exact liftN_row (by omega) (relK_row h (by omega) q hq) _
theorem liftS_row {p d : Int} {ys : List Pl} (h : RelOk p d ys) {n : Nat} (hn : n ≤ 12) {k : Nat} (hk : k ≤ n) : ∀ r ∈ liftS p d ys n k, RowOk p (expsL (ys.map dgP) n).length r := fun r hr => by
  obtain ⟨m, _, q, hq, e', _, rfl⟩ := mem_liftS.1 hr
  have := h.hp.pos
  exact liftN_row (by omega) (relK_row h (by omega) q hq) _
/-- The reference's are relations. -/
theorem liftS_rel {p d : Int} {ys : List Pl} (h : RelOk p d ys) {n : Nat} (hn : n ≤ 12) : ∀ r ∈ liftS p d ys n n, Sp p (expsL (ys.map dgP) n).length (· ∈ relK p d ys n) (gt r) := fun r hr => by
  obtain ⟨m, hm, q, hq, e', he', rfl⟩ := mem_liftS.1 hr
  have h1 := lift_relS h (by omega) (relK_rel h (by omega) hq) he'
  have h2 := fun j => gt_liftS h (m := m) he' (r := q) (j := j)
  rw [show m + (n - m) = n by omega] at h1 h2
  exact ((rel_iff h.hp h.hg h.hd1 hn).2 h1).al fun j hj => by rw [h2 j hj, Int.sub_self]; exact Int.dvd_zero p
theorem lifts_none {p d : Int} {ys : List Pl} (h : RelOk p d ys) {n : Nat} (hn : n ≤ 12) (h0 : relK p d ys n = []) : echL p (liftS p d ys n n) = [] := by
  have := ech_unique h.hp (n := (expsL (ys.map dgP) n).length) (B := []) (liftS_row h hn (Nat.le_refl _)) (fun _ h => (nomatch h)) (fun r hr => by have := liftS_rel h hn r hr; rwa [h0] at this) (fun _ h => (nomatch h))
  rw [this]; rfl
/-- Both span one space. -/
theorem lifts_same {p d : Int} {ys : List Pl} (h : RelOk p d ys) {n : Nat} (hn : n ≤ 12) : echL p (liftI p d ys n ys.length) = echL p (liftS p d ys n n) := by
  refine ech_unique h.hp (liftI_row h hn (Nat.le_refl _)) (liftS_row h hn (Nat.le_refl _)) (fun r hr => ?_) (fun r hr => ?_)
  · obtain ⟨i, x, hi, hx, hdx, q, hq, rfl⟩ := (mem_liftI (Nat.le_refl _)).1 hr
    have hz : incE i (List.replicate ys.length 0) ∈ expsL (ys.map dgP) (n - (n - dgP x)) := by
      have := exps_inc h hx (m := 0) (e := List.replicate ys.length 0) (exps_in h (by simp) (by have := degL_zero (ys.map dgP); rwa [List.length_map] at this) fun y hy => by rw [List.eq_of_mem_replicate hy]; omega)
      rwa [Nat.zero_add, show dgP x = n - (n - dgP x) by omega] at this
    have h1 : liftL (expsL (ys.map dgP) n) (expsL (ys.map dgP) (n - dgP x)) (fun e => addV e (incE i (List.replicate ys.length 0))) q ∈ liftS p d ys n n := mem_liftS.2 ⟨n - dgP x, by have := h.hd1 x (List.mem_of_getElem? hx); omega, q, hq, _, hz, rfl⟩
    have h2 := fun j => gt_liftS h (m := n - dgP x) hz (r := q) (j := j)
    have h3 := fun j => gt_liftI h (m := n - dgP x) hx (r := q) (j := j)
    rw [show n - dgP x + (n - (n - dgP x)) = n by omega] at h2
    rw [show n - dgP x + dgP x = n by omega] at h3
    refine (Sp.one (S := (· ∈ liftS p d ys n n)) h1).al fun j hj => ?_
    rw [h2 j hj, h3 j hj]
    have e1 : liftF (expsL (ys.map dgP) (n - dgP x)) (expsL (ys.map dgP) n) (incE i) (gt q) j = liftF (expsL (ys.map dgP) (n - dgP x)) (expsL (ys.map dgP) n) (fun e => addV e (incE i (List.replicate ys.length 0))) (gt q) j := liftF_congr _ _ fun e he => by
      have a1 := (exps_of h he).1
      have a2 := addV_zero e
      rw [a1] at a2
      rw [addV_inc e _ i (by rw [a1]; simp) (by simp; exact hi), a2]
    rw [e1, Int.sub_self]
    exact Int.dvd_zero p
  · obtain ⟨m, hm, q, hq, e', he', rfl⟩ := mem_liftS.1 hr
    obtain ⟨b1, b2, b3⟩ := exps_of h he'
    obtain ⟨i, dd, e2, hi, rfl, c1, c2, c3⟩ := decE (ds := ys.map dgP) (by rw [List.length_map]; exact b1) b3 (by omega)
    rw [List.getElem?_map] at hi
    obtain ⟨x, hx, rfl⟩ := Option.map_eq_some_iff.1 hi
    rw [List.length_map] at c1
    have hxi : i < ys.length := (List.getElem?_eq_some_iff.1 hx).1
    have he2 : e2 ∈ expsL (ys.map dgP) (n - dgP x - m) := exps_in h c1 (by omega) c2
    have g1 := lift_relS h (m := m) (by omega) (relK_rel h (by omega) hq) he2
    have g2 := fun j => gt_liftS h (m := m) he' (r := q) (j := j)
    rw [show m + (n - dgP x - m) = n - dgP x by omega] at g1
    rw [show m + (n - m) = n by omega] at g2
    have g3 := (rel_iff h.hp h.hg h.hd1 (n := n - dgP x) (by omega)).2 g1
    have g4 := sp_map (A := liftF (expsL (ys.map dgP) (n - dgP x)) (expsL (ys.map dgP) n) (incE i)) (T := (· ∈ liftI p d ys n ys.length)) (n' := (expsL (ys.map dgP) n).length)
      (fun f g c k ha => (lift_al ha _).trans fun j _ => by
        show p ∣ _ - _
        rw [lift_lin, Int.sub_self]; exact Int.dvd_zero p)
      (fun f ha => (lift_al ha _).trans fun j _ => by
        show p ∣ _ - _
        rw [lift_zero, Int.sub_self]; exact Int.dvd_zero p)
      (fun r hr => by
        by_cases hc : dgP x < n
        · have h1 : liftL (expsL (ys.map dgP) n) (expsL (ys.map dgP) (n - dgP x)) (incE i) r ∈ liftI p d ys n ys.length := (mem_liftI (Nat.le_refl _)).2 ⟨i, x, hxi, hx, hc, r, hr, rfl⟩
          have h3 := fun j => gt_liftI h (m := n - dgP x) hx (r := r) (j := j)
          rw [show n - dgP x + dgP x = n by omega] at h3
          exact (Sp.one (S := (· ∈ liftI p d ys n ys.length)) h1).al fun j hj => by rw [h3 j hj, Int.sub_self]; exact Int.dvd_zero p
        · rw [show n - dgP x = 0 by omega, relK_zero h] at hr; cases hr) g3
    refine g4.al fun j hj => ?_
    rw [g2 j hj, lift_lift (exps_nodup _ _) (fun e he => by
      have := exps_add h he he2
      rwa [show m + (n - dgP x - m) = n - dgP x by omega] at this)]
    have e1 : liftF (expsL (ys.map dgP) m) (expsL (ys.map dgP) n) (fun e => addV e (incE i e2)) (gt q) j = liftF (expsL (ys.map dgP) m) (expsL (ys.map dgP) n) (fun e => incE i (addV e e2)) (gt q) j := liftF_congr _ _ fun e he => by
      have a1 := (exps_of h he).1
      exact addV_inc e _ i (by omega) (by omega)
    rw [e1, Int.sub_self]
    exact Int.dvd_zero p
end Go.Sm

namespace Go.Sm
open Go.RowKit

/-! ### how many products -/
def sumB (B : Nat → Nat) : Nat → Nat
  | 0 => 0
  | k + 1 => sumB B k + B k
def binB : Nat → Nat → Nat
  | 0, _ => 1
  | l + 1, n => sumB (binB l) (n + 1)
theorem sumB_mono {B : Nat → Nat} {i : Nat} : ∀ {j : Nat}, i ≤ j → sumB B i ≤ sumB B j
  | 0, h => by rw [show i = 0 by omega]; exact Nat.le_refl _
  | j + 1, h => by
    by_cases e : i = j + 1
    · rw [e]; exact Nat.le_refl _
    · have := sumB_mono (B := B) (i := i) (j := j) (by omega)
      simp only [sumB]; omega
theorem binB_mono : ∀ (l : Nat) {i j : Nat}, i ≤ j → binB l i ≤ binB l j
  | 0, _, _, _ => Nat.le_refl _
  | l + 1, i, j, h => sumB_mono (by omega)
theorem expsG_many {F : Nat → List (List Int)} {B : Nat → Nat} {d n : Nat} (hd : 1 ≤ d) (hB : ∀ {i j : Nat}, i ≤ j → B i ≤ B j) (h : ∀ k, (F k).length ≤ B k) : ∀ m, m ≤ n + 1 → (expsG F d n m).length + sumB B (n + 1 - m) ≤ sumB B (n + 1)
  | 0, _ => by simp [expsG]
  | m + 1, hm => by
    have ih := expsG_many (n := n) hd hB h m (by omega)
    have h1 := h (n - m * d)
    have h2 : m ≤ m * d := Nat.le_mul_of_pos_right m (by omega)
    have h3 := hB (show n - m * d ≤ n - m by omega)
    rw [show n + 1 - m = n - m + 1 by omega, sumB] at ih
    rw [expsG, List.length_append, List.length_map, show n + 1 - (m + 1) = n - m by omega]
    omega
theorem exps_many : ∀ (ds : List Nat), (∀ d ∈ ds, 1 ≤ d) → ∀ n, (expsL ds n).length ≤ binB ds.length n
  | [], _, n => by unfold expsL; split <;> simp [binB]
  | d :: ds, h, n => by
    have h1 := expsG_many (F := expsL ds) (d := d) (n := n) (h d (List.mem_cons_self ..)) (binB_mono ds.length) (exps_many ds fun x hx => h x (List.mem_cons_of_mem _ hx)) (n / d + 1) (by have := Nat.div_le_self n d; omega)
    rw [expsL, List.length_cons, binB]
    omega
theorem cntL_many {ds : List Nat} (hd : ∀ d ∈ ds, 1 ≤ d) (hl : ds.length ≤ 8) {n : Nat} (hn : n ≤ 12) : cntL ds n ≤ 125970 := by
  have h1 := exps_many ds hd n
  have h2 := binB_mono ds.length hn
  have h3 : ∀ l, l < 9 → binB l 12 ≤ 125970 := by decide
  have h4 := h3 ds.length (by omega)
  show (expsL ds n).length ≤ _
  omega

set_option maxHeartbeats 1000000 in
theorem l01EchelonG_ok (p : Int) (n : Nat) (rows : List (List Int)) (hp : Pr p) (hn : n ≤ 1000000) (hl : rows.length ≤ 1000000000000) (hL : ∀ r ∈ rows, RowOk p n r) : CallOK Go.Proofs.Tryz.prog 31 [.one (i64 p), .one (vIntss rows)] (.one (oIntss (echL p rows))) := by
  have hF := fnOk 102 [.tmp 4]
  refine callOK hF 60 Go.Proofs.Tryz.func31 rfl rfl rfl (by decide) (by simp) rfl ?_
  intro w0 hw
  have S := @vc_sound w0 _ hF ⟨(.one (oIntss (echL p rows))), []⟩ Go.Proofs.Tryz.f31 rfl (by simp)
  have hpp := prPos hp
  simp
  refine J.loop hw (fun i : Nat => ⟨[(0, .c (.d (i64 p))), (1, .c (.d (vIntss rows))), (5, .c (.ob 64005)), (6, .c (.d (i64 i)))], [(64005, .arr 48 1 ((echL p (rows.take i)).map fun xs => [oInts xs]))]⟩)
    (fun i => i ≤ rows.length) (fun i => rows.length - i) 0 (by simp) (by simp [echL]) ?_
  intro i hi
  refine S 12 _ _ ?_
  simp
  refine ⟨fun hlt => ?_, fun hge => ?_⟩
  · obtain ⟨r, hr⟩ : ∃ r, rows[i]? = some r := ⟨rows[i], List.getElem?_eq_getElem hlt⟩
    have hrow := hL r (List.mem_of_getElem? hr)
    have hb := both_all (n := n) hp (rows := rows.take i) fun q hq => hL q (List.take_subset _ _ hq)
    have hst := echL_take (p := p) hr
    generalize echL p (rows.take i) = E at hb hst ⊢
    have hEl : E.length ≤ 1000000 := by rw [hb.2.1.length_eq]; exact Nat.le_trans (red_le hb.1) hn
    have hE : Rws p n E := fun q hq => hb.1.rws q (hb.2.1.subset hq)
    have c1 := l01Rest_ok p n E r hp (by omega) (by omega) hE hrow
    have r1 := less_row (n := n) (p := p) (L := E) (row := r) (by omega) (fun q hq => (hE q hq).1) hrow
    have c2 := l01Lead_ok (lessL p E r) (by rw [r1.1]; omega)
    have ht : echS p E r = if Led (lessL p E r) then insL (fun q => subR p q (nrm p (lessL p E r)) (gt q (leadN (lessL p E r)))) (nrm p (lessL p E r)) (leadN (lessL p E r)) E else E := rfl
    generalize lessL p E r = row1 at c1 c2 r1 ht
    refine S 60 _ _ ?_
    simp
    refine ⟨hlt, fun r' hr' => ?_⟩
    obtain rfl : r = r' := Option.some.inj (hr.symm.trans hr')
    refine CallW.ok (by decide) (by simp) c1 (by simp) (S 60 _ _ ?_)
    simp
    by_cases hld : Led row1
    · rw [led_leadZ hld] at c2
      rw [if_pos hld] at ht
      have hld' : leadN row1 < row1.length := hld
      have e1 := r1.1
      have g1 := gt_get hld'
      have g2 := gt_range (by omega) r1 (leadN row1)
      have g3 := gt_lead hld
      have c3 := l01Inverse_ok (gt row1 (leadN row1)) p hp g2.1 g2.2
      obtain ⟨_, v1, v2⟩ := inv_ok hp (n := gt row1 (leadN row1)) (by omega) g2.2
      obtain ⟨n1, n2, n3, _⟩ := nrm_ok hp r1 hld
      have hnt : ∀ i, i < row1.length → (nrm p row1).take (i + 1) = (nrm p row1).take i ++ [gt row1 i * invN (gt row1 (leadN row1)) p % p] := fun i hi => nrm_take hi
      generalize hwn : nrm p row1 = wn at ht n1 n2 n3 hnt
      generalize hvi : invN (gt row1 (leadN row1)) p = vi at c3 v1 v2 hnt
      have hp0 : p ≠ 0 := by omega
      rw [ht] at hst
      refine CallW.ok (by decide) (by simp) c2 (by simp) (S 60 _ _ ?_)
      simp
      refine ⟨fun h => absurd h (by omega), ⟨hld', fun a ha => ?_⟩⟩
      obtain rfl := Option.some.inj (g1.symm.trans ha)
      refine CallW.ok (by decide) (by simp) c3 (by simp) (S 60 _ _ ?_)
      simp
      refine J.loop hw (fun j : Nat => ⟨[(0, .c (.d (i64 p))), (1, .c (.d (vIntss rows))), (5, .c (.ob 64005)), (6, .c (.d (i64 i))), (7, .c (.ob 64007)), (8, .c (.d (i64 (leadN row1)))), (9, .c (.d (i64 vi))), (10, .c (.d (i64 j)))],
          [(64005, .arr 48 1 (E.map fun xs => [oInts xs])), (64007, .arr 2 1 (ints (wn.take j ++ row1.drop j)))]⟩)
        (fun j => j ≤ row1.length) (fun j => row1.length - j) 0 (by simp) (by simp) ?_
      intro j hj
      have hwl : (wn.take j).length = j := by rw [List.length_take, n1.1]; omega
      have hnt2 := hnt j
      generalize hcr : wn.take j ++ row1.drop j = cur
      have hcl : cur.length = row1.length := by rw [← hcr]; simp [n1.1]; omega
      refine S 12 _ _ ?_
      simp
      refine ⟨fun hlt2 => ?_, fun hge2 => ?_⟩
      · have q1 := gt_get (r := row1) (i := j) (by omega)
        have q2 := gt_range (by omega) r1 j
        have q3 := hnt2 (by omega)
        generalize gt row1 j = x at q1 q2 q3
        have m1 : 0 ≤ x * vi := Int.mul_nonneg q2.1 (by omega)
        have m2 : x * vi ≤ 13 * 13 := Int.mul_le_mul (by omega) (by omega) (by omega) (by omega)
        have w1 : IntKind.i64.wrap (x * vi) = x * vi := wrap64 (by omega) (by omega)
        have hmod : (x * vi).tmod p = x * vi % p := Int.tmod_eq_emod_of_nonneg m1
        have gc : cur[j]? = some x := by
          rw [← hcr, List.getElem?_append_right (by omega), hwl, Nat.sub_self, List.getElem?_drop]; simpa using q1
        have hs : cur.set j (x * vi % p) = wn.take (j + 1) ++ row1.drop (j + 1) := by
          rw [← hcr, List.set_append, if_neg (by omega), hwl, Nat.sub_self, q3, drop_cons q1]
          simp
        have hs2 : List.take (j + 1) (List.map (fun i => [D.v (Value.int IntKind.i64 i)]) wn) ++ List.drop (j + 1) (List.map (fun i => [D.v (Value.int IntKind.i64 i)]) row1) = (ints cur).set j [i64 (x * vi % p)] := by
          rw [← List.map_take, ← List.map_drop, ← List.map_append, ← hs, List.map_set]
        refine S 60 _ _ ?_
        simp
        refine ⟨by omega, fun x' hx' => ?_⟩
        obtain rfl : x = x' := Option.some.inj (gc.symm.trans hx')
        simp [w1, hmod, hp0]
        exact ⟨by omega, Nxt.mk (j + 1) (by omega) (by simp [wrapS (i := j) (n := row1.length) (by omega) (by omega), hs2]) (by omega)⟩
      · have e : cur = wn := by
          have hin : j = row1.length := by omega
          rw [← hcr, hin, List.drop_of_length_le (Nat.le_refl _), List.append_nil, List.take_of_length_le (by rw [n1.1]; omega)]
        subst e
        refine S 60 _ _ ?_
        simp
        clear hj hwl hnt2 hcr hcl hge2
        generalize hk : leadN row1 = k at hst n2 n3 S ⊢
        refine J.loop hw (fun q : Nat × List (List Int) × Bool => echSt p rows i E cur k q.1 q.2.1 q.2.2)
          (fun q => q.1 ≤ E.length ∧ q.2.1.length ≤ q.1 + (if q.2.2 then 1 else 0) ∧ q.2.1 ++ (if q.2.2 then (E.drop q.1).map (fun r => subR p r cur (gt r k)) else insL (fun r => subR p r cur (gt r k)) cur k (E.drop q.1)) = insL (fun r => subR p r cur (gt r k)) cur k E) (fun q => E.length - q.1) (0, [], false) (by simp) (by simp [echSt]) ?_
        rintro ⟨j, next, placed⟩ ⟨hj, hnl, hnx⟩
        simp only at hj hnl hnx
        simp only [echSt]
        cases placed with
        | false =>
          have hnl : next.length ≤ j := by simpa using hnl
          refine S 12 _ _ ?_
          simp
          refine ⟨fun hlt3 => ?_, fun hge3 => ?_⟩
          · obtain ⟨q, hq⟩ : ∃ q, E[j]? = some q := ⟨E[j], List.getElem?_eq_getElem hlt3⟩
            obtain ⟨b1, b2⟩ := hE q (List.mem_of_getElem? hq)
            have hql := b1.1
            have d1 := l01Lead_ok q (by rw [b1.1]; omega)
            rw [led_leadZ b2] at d1
            have hkq := gt_get (r := q) (i := k) (by rw [b1.1, ← e1]; omega)
            have hkr := gt_range (by omega) b1 k
            have d2 := l01Less_ok p n q cur (gt q k) hp (by omega) b1 n1 hkr
            have hdr := drop_cons hq
            rw [hdr, if_neg (by simp), insL_cons] at hnx
            generalize hqs : subR p q cur (gt q k) = q' at d2 hnx
            generalize gt q k = c at hkq hkr d2
            refine S 60 _ _ ?_
            simp
            refine ⟨hlt3, fun q'' hq'' => ?_⟩
            obtain rfl : q = q'' := Option.some.inj (hq.symm.trans hq'')
            refine CallW.ok (by decide) (by simp) d1 (by simp) (S 5 _ _ ?_)
            simp
            refine ⟨fun hkl => ?_, fun hkl => ?_⟩
            · rw [if_pos hkl] at hnx
              refine S 60 _ _ ?_
              simp
              refine BsW.moveV hF (e := 48) (es := [[oInts cur]]) (ks := [64007]) (rt := 7) (K := 64007) (e1 := 2) (z1 := 1) (ys := ints cur) (by decide) rfl rfl rfl (by simp) (by simp) rfl (by decide) (by decide) (by simp) (by simp) (by simp) (by simp) (by decide) ?_
              refine S 4 _ _ ?_
              simp
              refine ⟨⟨by omega, by omega⟩, S 60 _ _ ?_⟩
              simp
              refine J.dr3 hF mixed 16 [[], [], [], [], [2, 3], [2, 3, 4], [], [], [], [7, 8], [7, 8, 9], [], [7, 8, 9, 10, 11], [7, 8, 9, 10, 11, 12], [1, 2, 3, 4, 5, 6, 7, 8, 9, 10, 11, 12, 13], [1, 2, 3, 4, 5, 6, 7, 8, 9, 10, 11, 12, 13, 14], [0, 1, 2, 3, 4, 5, 6, 7, 8, 9, 10, 11, 12, 13, 14, 15], [0, 1, 2, 3, 4, 5, 6, 7, 8, 9, 10, 11, 12, 13, 14, 15, 16]] [[77, 78, 79, 80, 81, 82, 83, 84, 85, 86, 87, 88, 89, 90, 91, 92], [77, 78, 79, 80, 81, 82, 83, 84, 85, 86, 87, 88, 89, 90, 91, 92], [77, 78, 79, 80, 81, 82, 83, 84, 85, 86, 87, 88, 89, 90, 91, 92], [77, 78, 79, 80, 81, 82, 83, 84, 85, 86, 87, 88, 89, 90, 91, 92], [77, 78, 81, 82, 83, 84, 85, 86, 87, 88, 89, 90, 91, 92], [77, 78, 82, 83, 84, 85, 86, 87, 88, 89, 90, 91, 92], [77, 78, 79, 80, 81, 82, 83, 84, 85, 86, 87, 88, 89, 90, 91, 92], [77, 78, 79, 80, 81, 82, 83, 84, 85, 86, 87, 88, 89, 90, 91, 92], [77, 78, 79, 80, 81, 82, 83, 84, 85, 86, 87, 88, 89, 90, 91, 92], [77, 78, 79, 80, 81, 82, 83, 86, 87, 88, 89, 90, 91, 92], [77, 78, 79, 80, 81, 82, 83, 87, 88, 89, 90, 91, 92], [77, 78, 79, 80, 81, 82, 83, 84, 85, 86, 87, 88, 89, 90, 91, 92], [77, 78, 79, 80, 81, 82, 83, 89, 90, 91, 92], [77, 78, 79, 80, 81, 82, 83, 90, 91, 92], [77, 91, 92], [77, 92]] [[], [], [], [], [], [], [], [], [], [], [], [], [], [], [], [5824]] [[5824], [], [], [], [], [], [], [], [], [], [], [], [], [], [], []] [] [] (by decide) ?_
              rw [← List.take_append_drop 6 (List.take _ _)]
              generalize htl : List.drop 6 (List.take _ _) = tl
              simp
              refine ⟨hlt3, fun q'' hq'' => ?_⟩
              obtain rfl : q = q'' := Option.some.inj (hq.symm.trans hq'')
              subst htl
              rw [← List.take_append_drop 5 (List.drop 6 _)]
              generalize htl : List.drop 5 (List.drop 6 _) = tl
              simp
              refine ⟨hlt3, fun q'' hq'' => ?_⟩
              obtain rfl : q = q'' := Option.some.inj (hq.symm.trans hq'')
              subst htl
              rw [← List.take_append_drop 3 (List.drop 5 (List.drop 6 _))]
              generalize htl : List.drop 3 (List.drop 5 (List.drop 6 _)) = tl
              simp
              refine ⟨by omega, fun c' hc' => ?_⟩
              obtain rfl : c = c' := Option.some.inj (hkq.symm.trans hc')
              subst htl
              simp
              refine DrC3.ok hF (by rfl) (by simp) d2 (by simp) (by simp) ?_
              simp
              refine DrB3.move hF (by rfl) (e := 48) (es := [[oInts q']]) (ks := [5824]) (by decide) rfl rfl rfl (by simp) (by simp) rfl (by decide) (by decide) (by simp) (by simp) ?_
              simp
              refine S 60 _ _ ?_
              simp
              refine ⟨⟨by omega, by omega⟩, ?_⟩
              exact Nxt.mk (j + 1, (next ++ [cur]) ++ [q'], true) (⟨hlt3, by simp; omega, by rw [← hnx]; simp⟩) (by simp [wrapS (i := j) (n := E.length) hlt3 (by omega)]) (by show E.length - (j + 1) < E.length - j; omega)
            · rw [if_neg (by omega)] at hnx
              refine S 4 _ _ ?_
              simp
              refine J.dr3 hF mixed 16 [[], [], [], [], [2, 3], [2, 3, 4], [], [], [], [7, 8], [7, 8, 9], [], [7, 8, 9, 10, 11], [7, 8, 9, 10, 11, 12], [1, 2, 3, 4, 5, 6, 7, 8, 9, 10, 11, 12, 13], [1, 2, 3, 4, 5, 6, 7, 8, 9, 10, 11, 12, 13, 14], [0, 1, 2, 3, 4, 5, 6, 7, 8, 9, 10, 11, 12, 13, 14, 15], [0, 1, 2, 3, 4, 5, 6, 7, 8, 9, 10, 11, 12, 13, 14, 15, 16]] [[77, 78, 79, 80, 81, 82, 83, 84, 85, 86, 87, 88, 89, 90, 91, 92], [77, 78, 79, 80, 81, 82, 83, 84, 85, 86, 87, 88, 89, 90, 91, 92], [77, 78, 79, 80, 81, 82, 83, 84, 85, 86, 87, 88, 89, 90, 91, 92], [77, 78, 79, 80, 81, 82, 83, 84, 85, 86, 87, 88, 89, 90, 91, 92], [77, 78, 81, 82, 83, 84, 85, 86, 87, 88, 89, 90, 91, 92], [77, 78, 82, 83, 84, 85, 86, 87, 88, 89, 90, 91, 92], [77, 78, 79, 80, 81, 82, 83, 84, 85, 86, 87, 88, 89, 90, 91, 92], [77, 78, 79, 80, 81, 82, 83, 84, 85, 86, 87, 88, 89, 90, 91, 92], [77, 78, 79, 80, 81, 82, 83, 84, 85, 86, 87, 88, 89, 90, 91, 92], [77, 78, 79, 80, 81, 82, 83, 86, 87, 88, 89, 90, 91, 92], [77, 78, 79, 80, 81, 82, 83, 87, 88, 89, 90, 91, 92], [77, 78, 79, 80, 81, 82, 83, 84, 85, 86, 87, 88, 89, 90, 91, 92], [77, 78, 79, 80, 81, 82, 83, 89, 90, 91, 92], [77, 78, 79, 80, 81, 82, 83, 90, 91, 92], [77, 91, 92], [77, 92]] [[], [], [], [], [], [], [], [], [], [], [], [], [], [], [], [5824]] [[5824], [], [], [], [], [], [], [], [], [], [], [], [], [], [], []] [] [] (by decide) ?_
              rw [← List.take_append_drop 6 (List.take _ _)]
              generalize htl : List.drop 6 (List.take _ _) = tl
              simp
              refine ⟨hlt3, fun q'' hq'' => ?_⟩
              obtain rfl : q = q'' := Option.some.inj (hq.symm.trans hq'')
              subst htl
              rw [← List.take_append_drop 5 (List.drop 6 _)]
              generalize htl : List.drop 5 (List.drop 6 _) = tl
              simp
              refine ⟨hlt3, fun q'' hq'' => ?_⟩
              obtain rfl : q = q'' := Option.some.inj (hq.symm.trans hq'')
              subst htl
              rw [← List.take_append_drop 3 (List.drop 5 (List.drop 6 _))]
              generalize htl : List.drop 3 (List.drop 5 (List.drop 6 _)) = tl
              simp
              refine ⟨by omega, fun c' hc' => ?_⟩
              obtain rfl : c = c' := Option.some.inj (hkq.symm.trans hc')
              subst htl
              simp
              refine DrC3.ok hF (by rfl) (by simp) d2 (by simp) (by simp) ?_
              simp
              refine DrB3.move hF (by rfl) (e := 48) (es := [[oInts q']]) (ks := [5824]) (by decide) rfl rfl rfl (by simp) (by simp) rfl (by decide) (by decide) (by simp) (by simp) ?_
              simp
              refine S 60 _ _ ?_
              simp
              refine ⟨⟨by omega, by omega⟩, ?_⟩
              exact Nxt.mk (j + 1, next ++ [q'], false) (⟨hlt3, by simp; omega, by rw [← hnx]; simp⟩) (by simp [wrapS (i := j) (n := E.length) hlt3 (by omega)]) (by show E.length - (j + 1) < E.length - j; omega)
          · have hnil : E.drop j = [] := List.drop_eq_nil_of_le hge3
            rw [hnil, if_neg (by simp)] at hnx
            have hnx : next ++ [cur] = _ := hnx
            rw [← hnx] at hst
            refine S 60 _ _ ?_
            simp
            refine BsW.move hF (e := 48) (es := [[oInts cur]]) (ks := [64007]) (by decide) rfl rfl rfl (by simp) (by simp) rfl (by decide) (by decide) (by simp) ?_
            refine S 60 _ _ ?_
            simp
            refine ⟨⟨by omega, by omega⟩, ?_⟩
            exact Nxt.mk (i + 1) hlt (by simp [wrapS (i := i) (n := rows.length) hlt (by omega), hst]) (by omega)
        | true =>
          have hnl : next.length ≤ j + 1 := by simpa using hnl
          refine S 12 _ _ ?_
          simp
          refine ⟨fun hlt3 => ?_, fun hge3 => ?_⟩
          · obtain ⟨q, hq⟩ : ∃ q, E[j]? = some q := ⟨E[j], List.getElem?_eq_getElem hlt3⟩
            obtain ⟨b1, b2⟩ := hE q (List.mem_of_getElem? hq)
            have hql := b1.1
            have hkq := gt_get (r := q) (i := k) (by rw [b1.1, ← e1]; omega)
            have hkr := gt_range (by omega) b1 k
            have d2 := l01Less_ok p n q cur (gt q k) hp (by omega) b1 n1 hkr
            have hdr := drop_cons hq
            rw [hdr, if_pos rfl, List.map_cons] at hnx
            generalize hqs : subR p q cur (gt q k) = q' at d2 hnx
            generalize gt q k = c at hkq hkr d2
            refine S 60 _ _ ?_
            simp
            refine J.dr3 hF mixed 16 [[], [], [], [], [2, 3], [2, 3, 4], [], [], [], [7, 8], [7, 8, 9], [], [7, 8, 9, 10, 11], [7, 8, 9, 10, 11, 12], [1, 2, 3, 4, 5, 6, 7, 8, 9, 10, 11, 12, 13], [1, 2, 3, 4, 5, 6, 7, 8, 9, 10, 11, 12, 13, 14], [0, 1, 2, 3, 4, 5, 6, 7, 8, 9, 10, 11, 12, 13, 14, 15], [0, 1, 2, 3, 4, 5, 6, 7, 8, 9, 10, 11, 12, 13, 14, 15, 16]] [[77, 78, 79, 80, 81, 82, 83, 84, 85, 86, 87, 88, 89, 90, 91, 92], [77, 78, 79, 80, 81, 82, 83, 84, 85, 86, 87, 88, 89, 90, 91, 92], [77, 78, 79, 80, 81, 82, 83, 84, 85, 86, 87, 88, 89, 90, 91, 92], [77, 78, 79, 80, 81, 82, 83, 84, 85, 86, 87, 88, 89, 90, 91, 92], [77, 78, 81, 82, 83, 84, 85, 86, 87, 88, 89, 90, 91, 92], [77, 78, 82, 83, 84, 85, 86, 87, 88, 89, 90, 91, 92], [77, 78, 79, 80, 81, 82, 83, 84, 85, 86, 87, 88, 89, 90, 91, 92], [77, 78, 79, 80, 81, 82, 83, 84, 85, 86, 87, 88, 89, 90, 91, 92], [77, 78, 79, 80, 81, 82, 83, 84, 85, 86, 87, 88, 89, 90, 91, 92], [77, 78, 79, 80, 81, 82, 83, 86, 87, 88, 89, 90, 91, 92], [77, 78, 79, 80, 81, 82, 83, 87, 88, 89, 90, 91, 92], [77, 78, 79, 80, 81, 82, 83, 84, 85, 86, 87, 88, 89, 90, 91, 92], [77, 78, 79, 80, 81, 82, 83, 89, 90, 91, 92], [77, 78, 79, 80, 81, 82, 83, 90, 91, 92], [77, 91, 92], [77, 92]] [[], [], [], [], [], [], [], [], [], [], [], [], [], [], [], [5824]] [[5824], [], [], [], [], [], [], [], [], [], [], [], [], [], [], []] [] [] (by decide) ?_
            rw [← List.take_append_drop 6 (List.take _ _)]
            generalize htl : List.drop 6 (List.take _ _) = tl
            simp
            refine ⟨hlt3, fun q'' hq'' => ?_⟩
            obtain rfl : q = q'' := Option.some.inj (hq.symm.trans hq'')
            subst htl
            rw [← List.take_append_drop 5 (List.drop 6 _)]
            generalize htl : List.drop 5 (List.drop 6 _) = tl
            simp
            refine ⟨hlt3, fun q'' hq'' => ?_⟩
            obtain rfl : q = q'' := Option.some.inj (hq.symm.trans hq'')
            subst htl
            rw [← List.take_append_drop 3 (List.drop 5 (List.drop 6 _))]
            generalize htl : List.drop 3 (List.drop 5 (List.drop 6 _)) = tl
            simp
            refine ⟨by omega, fun c' hc' => ?_⟩
            obtain rfl : c = c' := Option.some.inj (hkq.symm.trans hc')
            subst htl
            simp
            refine DrC3.ok hF (by rfl) (by simp) d2 (by simp) (by simp) ?_
            simp
            refine DrB3.move hF (by rfl) (e := 48) (es := [[oInts q']]) (ks := [5824]) (by decide) rfl rfl rfl (by simp) (by simp) rfl (by decide) (by decide) (by simp) (by simp) ?_
            simp
            refine S 60 _ _ ?_
            simp
            refine ⟨⟨by omega, by omega⟩, ?_⟩
            exact Nxt.mk (j + 1, next ++ [q'], true) (⟨hlt3, by simp; omega, by rw [← hnx]; simp⟩) (by simp [wrapS (i := j) (n := E.length) hlt3 (by omega)]) (by show E.length - (j + 1) < E.length - j; omega)
          · have hnil : E.drop j = [] := List.drop_eq_nil_of_le hge3
            rw [hnil, if_pos rfl, List.map_nil, List.append_nil] at hnx
            subst hnx
            refine S 60 _ _ ?_
            simp
            exact Nxt.mk (i + 1) hlt (by simp [wrapS (i := i) (n := rows.length) hlt (by omega), hst]) (by omega)
    · have h0 : leadZ row1 = -1 := if_neg hld
      rw [h0] at c2
      rw [if_neg hld] at ht
      rw [ht] at hst
      refine CallW.ok (by decide) (by simp) c2 (by simp) (S 60 _ _ ?_)
      simp
      exact Nxt.mk (i + 1) hlt (by simp [wrapS (i := i) (n := rows.length) hlt (by omega), hst]) (by omega)
  · have e : rows.take i = rows := List.take_of_length_le hge
    rw [e]
    refine S 60 _ _ ?_
    simp

end Go.Sm

namespace Go.Sm
open Go.RowKit

theorem plc_first {up : List (List Int)} {x : List Int} {i : Nat} (h : up[i]? = some x) (hf : ∀ j < i, up[j]? ≠ some x) : plc up x = i := by
  obtain ⟨hi, e⟩ := List.getElem?_eq_some_iff.1 h
  unfold plc
  rw [List.findIdx_eq hi]
  refine ⟨by simp [e], fun j hj => ?_⟩
  have hjl : j < up.length := by omega
  have := hf j hj
  rw [List.getElem?_eq_getElem hjl] at this
  simpa using this

set_option maxHeartbeats 1000000 in
theorem l09Place_ok (up : List (List Int)) (x : List Int) (hx : x ∈ up) (hw' : ∀ y ∈ up, y.length = x.length) (hl : up.length ≤ 1000000) (hxl : x.length ≤ 1000000) : CallOK Go.Proofs.Tryz.prog 57 [.one (vIntss up), .one (vInts x)] (.one (i64 (plc up x))) := by
  have hF := fnOk 37 [.tmp 4]
  refine callOK hF 60 Go.Proofs.Tryz.func57 rfl rfl rfl (by decide) (by simp) rfl ?_
  intro w0 hw
  have S := @vc_sound w0 _ hF ⟨(.one (i64 (plc up x))), []⟩ Go.Proofs.Tryz.f57 rfl (by simp)
  simp
  refine J.loop hw (fun i : Nat => ⟨[(0, .c (.d (vIntss up))), (1, .c (.d (vInts x))), (4, .c (.d (i64 0))), (5, .c (.d (i64 i)))], []⟩)
    (fun i => i ≤ up.length ∧ ∀ j < i, up[j]? ≠ some x) (fun i => up.length - i) 0 (by simp) (by simp) ?_
  rintro i ⟨hi, hf⟩
  refine S 12 _ _ ?_
  simp
  refine ⟨fun hlt => ?_, fun hge => ?_⟩
  · obtain ⟨y, hy⟩ : ∃ y, up[i]? = some y := ⟨up[i], List.getElem?_eq_getElem hlt⟩
    have hyl := hw' y (List.mem_of_getElem? hy)
    refine S 60 _ _ ?_
    simp
    refine J.loop hw (fun k : Nat => ⟨[(0, .c (.d (vIntss up))), (1, .c (.d (vInts x))), (4, .c (.d (i64 0))), (5, .c (.d (i64 i))), (6, .c (.d (bo (decide (y.take k = x.take k))))), (7, .c (.d (i64 k)))], []⟩)
      (fun k => k ≤ x.length) (fun k => x.length - k) 0 (by simp) (by simp) ?_
    intro k hk
    refine S 12 _ _ ?_
    simp
    refine ⟨fun hlt2 => ?_, fun hge2 => ?_⟩
    · obtain ⟨a, ha⟩ : ∃ a, y[k]? = some a := ⟨y[k], List.getElem?_eq_getElem (by omega)⟩
      obtain ⟨b, hb⟩ : ∃ b, x[k]? = some b := ⟨x[k], List.getElem?_eq_getElem hlt2⟩
      have hst : (y.take (k + 1) = x.take (k + 1)) ↔ (y.take k = x.take k ∧ a = b) := by
        rw [List.take_add_one, List.take_add_one, ha, hb]
        constructor
        · intro h
          have := List.append_inj h (by simp [hyl])
          exact ⟨this.1, by simpa using this.2⟩
        · rintro ⟨h1, rfl⟩; rw [h1]
      by_cases hs : y.take k = x.take k
      · simp only [decide_eq_true hs]
        refine S 60 _ _ ?_
        simp
        refine J.dr hF mixed 13 [[], [0], [0, 1], [0, 1], [0, 1, 2, 3], [0, 1, 2, 3, 4], [0, 1], [0, 1, 2, 3, 4, 5, 6], [0, 1, 2, 3, 4, 5, 6, 7], [0, 1], [0, 1], [0, 1, 9, 10], [0, 1, 9, 10, 11], [0, 1, 2, 3, 4, 5, 6, 7, 8, 9, 10, 11, 12], [0, 1, 2, 3, 4, 5, 6, 7, 8, 9, 10, 11, 12, 13], [0, 1, 2, 3, 4, 5, 6, 7, 8, 9, 10, 11, 12, 13, 14]] [[20, 21, 22, 23, 24, 25, 26, 27, 28, 29, 30, 31, 32], [21, 22, 23, 24, 25, 26, 27, 28, 29, 30, 31, 32], [22, 23, 24, 25, 26, 27, 28, 29, 30, 31, 32], [22, 23, 24, 25, 26, 27, 28, 29, 30, 31, 32], [24, 25, 26, 27, 28, 29, 30, 31, 32], [25, 26, 27, 28, 29, 30, 31, 32], [22, 23, 24, 25, 26, 27, 28, 29, 30, 31, 32], [27, 28, 29, 30, 31, 32], [28, 29, 30, 31, 32], [22, 23, 24, 25, 26, 27, 28, 29, 30, 31, 32], [22, 23, 24, 25, 26, 27, 28, 29, 30, 31, 32], [22, 23, 24, 25, 26, 27, 28, 31, 32], [22, 23, 24, 25, 26, 27, 28, 32]] (by decide) ?_
        simp
        refine ⟨hlt, fun y' hy' => ?_⟩
        obtain rfl := Option.some.inj (hy.symm.trans hy')
        refine ⟨by omega, fun a' ha' => ?_⟩
        obtain rfl := Option.some.inj (ha.symm.trans ha')
        refine ⟨hlt2, fun b' hb' => ?_⟩
        obtain rfl := Option.some.inj (hb.symm.trans hb')
        have hd : decide (y.take (k + 1) = x.take (k + 1)) = decide (a = b) := decide_eq_decide.2 (hst.trans ⟨fun h => h.2, fun h => ⟨hs, h⟩⟩)
        refine S 60 _ _ ?_
        simp
        exact Nxt.mk (k + 1) (by omega) (by simp [wrapS (i := k) (n := x.length) hlt2 (by omega), hd]; rfl) (by omega)
      · simp only [decide_eq_false hs]
        have hst0 : ¬ y.take (k + 1) = x.take (k + 1) := fun h => hs (hst.1 h).1
        refine S 60 _ _ ?_
        simp
        refine J.dr hF mixed 13 [[], [0], [0, 1], [0, 1], [0, 1, 2, 3], [0, 1, 2, 3, 4], [0, 1], [0, 1, 2, 3, 4, 5, 6], [0, 1, 2, 3, 4, 5, 6, 7], [0, 1], [0, 1], [0, 1, 9, 10], [0, 1, 9, 10, 11], [0, 1, 2, 3, 4, 5, 6, 7, 8, 9, 10, 11, 12], [0, 1, 2, 3, 4, 5, 6, 7, 8, 9, 10, 11, 12, 13], [0, 1, 2, 3, 4, 5, 6, 7, 8, 9, 10, 11, 12, 13, 14]] [[20, 21, 22, 23, 24, 25, 26, 27, 28, 29, 30, 31, 32], [21, 22, 23, 24, 25, 26, 27, 28, 29, 30, 31, 32], [22, 23, 24, 25, 26, 27, 28, 29, 30, 31, 32], [22, 23, 24, 25, 26, 27, 28, 29, 30, 31, 32], [24, 25, 26, 27, 28, 29, 30, 31, 32], [25, 26, 27, 28, 29, 30, 31, 32], [22, 23, 24, 25, 26, 27, 28, 29, 30, 31, 32], [27, 28, 29, 30, 31, 32], [28, 29, 30, 31, 32], [22, 23, 24, 25, 26, 27, 28, 29, 30, 31, 32], [22, 23, 24, 25, 26, 27, 28, 29, 30, 31, 32], [22, 23, 24, 25, 26, 27, 28, 31, 32], [22, 23, 24, 25, 26, 27, 28, 32]] (by decide) ?_
        simp
        refine S 60 _ _ ?_
        simp
        exact Nxt.mk (k + 1) (by omega) (by simp [wrapS (i := k) (n := x.length) hlt2 (by omega), hst0]) (by omega)
    · have e1 : y.take k = y := List.take_of_length_le (by omega)
      have e2 : x.take k = x := List.take_of_length_le hge2
      rw [e1, e2]
      by_cases hs : y = x
      · subst hs
        have := plc_first hy hf
        refine S 60 _ _ ?_
        simp [this]
      · simp only [decide_eq_false hs]
        refine S 60 _ _ ?_
        simp
        refine Nxt.mk (i + 1) ⟨by omega, fun j hj => ?_⟩ (by simp [wrapS (i := i) (n := up.length) hlt (by omega)]) (by omega)
        by_cases e : j = i
        · subst e; rw [hy]; exact fun h => hs (Option.some.inj h)
        · exact hf j (by omega)
  · exfalso
    obtain ⟨j, hj⟩ := List.mem_iff_getElem?.1 hx
    exact hf j (by have := (List.getElem?_eq_some_iff.1 hj).1; omega) hj

/-- The exponents so far. -/
theorem addV_take {e q : List Int} {x : Nat} {a b : Int} (ha : e[x]? = some a) (hb : q[x]? = some b) : addV (e.take (x + 1)) (q.take (x + 1)) = addV (e.take x) (q.take x) ++ [a + b] := by
  have h1 := (List.getElem?_eq_some_iff.1 ha).1
  have h2 := (List.getElem?_eq_some_iff.1 hb).1
  unfold addV
  rw [List.take_add_one, List.take_add_one, ha, hb]
  exact List.zipWith_append (by rw [List.length_take, List.length_take]; omega)
theorem addV_len {e q : List Int} (h : e.length = q.length) : (addV e q).length = e.length := by unfold addV; rw [List.length_zipWith]; omega
theorem flatMap_take {α β : Type} {L : List α} {i : Nat} {x : α} (f : α → List β) (h : L[i]? = some x) : (L.take (i + 1)).flatMap f = (L.take i).flatMap f ++ f x := by
  rw [List.take_add_one, h, List.flatMap_append]; simp
theorem map_take1 {α β : Type} {L : List α} {i : Nat} {x : α} (f : α → β) (h : L[i]? = some x) : (L.take (i + 1)).map f = (L.take i).map f ++ [f x] := by
  rw [List.take_add_one, h]; simp
theorem flatL_len {α β : Type} {f : α → List β} {B : Nat} : ∀ {L : List α}, (∀ x ∈ L, (f x).length ≤ B) → (L.flatMap f).length ≤ L.length * B
  | [], _ => by simp
  | x :: L, h => by
    have h1 := h x (List.mem_cons_self ..)
    have h2 := flatL_len (L := L) fun y hy => h y (List.mem_cons_of_mem _ hy)
    rw [List.flatMap_cons, List.length_append, List.length_cons, Nat.succ_mul]
    omega
/-- The rows so far. -/
def outG (E Lo Mo RK A0 : List (List Int)) (i k : Nat) : List (List Int) := A0 ++ ((RK.take i).flatMap fun r => Mo.map fun e' => liftL E Lo (fun e => addV e e') r) ++ match RK[i]? with
  | none => []
  | some r => (Mo.take k).map fun e' => liftL E Lo (fun e => addV e e') r
theorem outG_zero (E Lo Mo RK A0 : List (List Int)) : outG E Lo Mo RK A0 0 0 = A0 := by unfold outG; cases RK[0]? <;> simp
theorem outG_k {E Lo Mo RK A0 : List (List Int)} {i k : Nat} {r e' : List Int} (hr : RK[i]? = some r) (he : Mo[k]? = some e') : outG E Lo Mo RK A0 i (k + 1) = outG E Lo Mo RK A0 i k ++ [liftL E Lo (fun e => addV e e') r] := by
  unfold outG
  simp only [hr]
  rw [map_take1 _ he, List.append_assoc, List.append_assoc, List.append_assoc]
theorem outG_i {E Lo Mo RK A0 : List (List Int)} {i : Nat} {r : List Int} (hr : RK[i]? = some r) : outG E Lo Mo RK A0 (i + 1) 0 = outG E Lo Mo RK A0 i Mo.length := by
  unfold outG
  simp only [hr]
  rw [flatMap_take _ hr, List.take_length, ← List.append_assoc]
  cases RK[i + 1]? <;> simp
theorem outG_end (E Lo Mo RK A0 : List (List Int)) : outG E Lo Mo RK A0 RK.length 0 = A0 ++ RK.flatMap fun r => Mo.map fun e' => liftL E Lo (fun e => addV e e') r := by
  unfold outG
  rw [List.getElem?_eq_none (Nat.le_refl _), List.take_length]; simp
theorem outG_len {E Lo Mo RK A0 : List (List Int)} {i k B : Nat} (hM : Mo.length ≤ B) (hR : RK.length ≤ B) : (outG E Lo Mo RK A0 i k).length ≤ A0.length + B * B + B := by
  have h1 := flatL_len (L := RK.take i) (f := fun r => Mo.map fun e' => liftL E Lo (fun e => addV e e') r) (B := B) fun r _ => by rw [List.length_map]; exact hM
  have h2 : (RK.take i).length * B ≤ B * B := Nat.mul_le_mul_right B (by rw [List.length_take]; omega)
  unfold outG
  cases RK[i]? with
  | none => simp only [List.append_nil, List.length_append]; omega
  | some r => simp only [List.length_append, List.length_map, List.length_take]; omega
theorem liftS_len {p d : Int} {ys : List Pl} (h : RelOk p d ys) {n : Nat} (hn : n ≤ 12) : ∀ {m : Nat}, m ≤ n → (liftS p d ys n m).length ≤ m * (125970 * 125970)
  | 0, _ => by simp [liftS]
  | m + 1, hm => by
    have ih := liftS_len h hn (m := m) (by omega)
    have h1 := (relK_len h.hp h.hg h.hd1 (n := m) (by omega)).1
    have h2 := cntL_many h.ds (by rw [List.length_map]; exact h.hl) (n := m) (by omega)
    have h3 := cntL_many h.ds (by rw [List.length_map]; exact h.hl) (n := n - m) (by omega)
    have h4 := flatL_len (L := relK p d ys m) (f := fun r => (expsL (ys.map dgP) (n - m)).map fun e' => liftL (expsL (ys.map dgP) n) (expsL (ys.map dgP) m) (fun e => addV e e') r) (B := 125970) fun r _ => by rw [List.length_map]; exact h3
    have h5 := Nat.mul_le_mul_right 125970 (Nat.le_trans h1 h2)
    rw [liftS, List.length_append, Nat.succ_mul]
    omega

set_option maxHeartbeats 4000000 in
set_option maxRecDepth 8000 in
theorem l09Lifted_ok (p d : Int) (ys : List Pl) (n : Nat) (h : RelOk p d ys) (hn : n ≤ 12) : CallOK Go.Proofs.Tryz.prog 32 [.one (vPolys ys), .one (i64 n)] (.one (oIntss (liftS p d ys n n))) := by
  have hF := fnOk 100 [.tmp 4]
  refine callOK hF 60 Go.Proofs.Tryz.func32 rfl rfl rfl (by decide) (by simp) rfl ?_
  intro w0 hw
  have S := @vc_sound w0 _ hF ⟨(.one (oIntss (liftS p d ys n n))), []⟩ Go.Proofs.Tryz.f32 rfl (by simp)
  have hl8 := h.hl
  have hlm : (ys.map dgP).length ≤ 8 := by rw [List.length_map]; exact h.hl
  have cE := fun m (hm : m ≤ 12) => l05Exponents_ok ys m hm h.hl (fun y hy => ⟨by have := goodP_len (h.hg y hy).2.2; omega, h.hd1 y hy⟩)
  have hcm := fun m (hm : m ≤ 12) => cntL_many h.ds hlm hm
  have cR := fun m (hm : m ≤ 12) => l09Relations_ok p d ys m h.hp h.hd h.hg h.hl h.hne h.hd1 hm (by have := hcm m hm; omega)
  have hE1 := cE n hn
  simp
  refine CallW.ok (by decide) (by simp) hE1 (by simp) (S 60 _ _ ?_)
  simp
  refine J.loop hw (fun m : Nat => ⟨[(0, .c (.d (vPolys ys))), (1, .c (.d (i64 n))), (5, .c (.ob 64005)), (6, .c (.ob 64006)), (7, .c (.d (i64 m)))],
      [(64005, .arr 48 1 ((expsL (ys.map dgP) n).map fun x => [oInts x])), (64006, .arr 48 1 ((liftS p d ys n m).map fun x => [oInts x]))]⟩)
    (fun m => m ≤ n) (fun m => n - m) 0 (by simp) (by simp [liftS]) ?_
  intro m hm
  refine S 12 _ _ ?_
  simp
  refine ⟨fun hlt => ?_, fun hge => ?_⟩
  · have hLl := liftS_len h hn hm
    have c2 := cR m (by omega)
    have c3 := cE m (by omega)
    have c4 := cE (n - m) (by omega)
    have hrl := relK_len h.hp h.hg h.hd1 (n := m) (by omega)
    have hm1 := hcm m (by omega)
    have hm2 := hcm (n - m) (by omega)
    have hm0 := hcm n (by omega)
    have hex := fun e he => exps_of h (n := m) (e := e) he
    have hxl := fun e he => exps_le h (n := m) (e := e) he
    have hxl2 := fun e he => exps_le h (n := n - m) (e := e) he
    have hex2 := fun e he => exps_of h (n := n - m) (e := e) he
    have hex0 := fun e he => exps_of h (n := n) (e := e) he
    have hadd := fun e q he hq => exps_add h (m := m) (k := n - m) (e := e) (q := q) he hq
    rw [show m + (n - m) = n by omega] at hadd
    have hsS : liftS p d ys n (m + 1) = liftS p d ys n m ++ (relK p d ys m).flatMap fun r => (expsL (ys.map dgP) (n - m)).map fun e' => liftL (expsL (ys.map dgP) n) (expsL (ys.map dgP) m) (fun e => addV e e') r := rfl
    rw [← outG_end] at hsS
    generalize liftS p d ys n m = A0 at hLl hsS ⊢
    generalize relK p d ys m = RK at c2 hrl hsS
    unfold cntL at hm1 hm2 hm0 hrl
    generalize expsL (ys.map dgP) m = Lo at c3 hrl hm1 hex hxl hadd hsS
    generalize expsL (ys.map dgP) (n - m) = Mo at c4 hm2 hex2 hxl2 hadd hsS
    generalize expsL (ys.map dgP) n = E at hm0 hex0 hadd hsS ⊢
    have hwd : IntKind.i64.wrap ((n : Int) - (m : Int)) = ((n - m : Nat) : Int) := by rw [wrap64] <;> omega
    have hz := outG_zero E Lo Mo RK A0
    have hki := fun i k r e' => @outG_k E Lo Mo RK A0 i k r e'
    have hii := fun i r => @outG_i E Lo Mo RK A0 i r
    have hol := fun i k => @outG_len E Lo Mo RK A0 i k 125970 hm2 (by omega)
    have hln := fun (f : List Int → List Int) r i => liftN_len E Lo f r i
    have hls := fun f r i e => @liftN_step E Lo f r i e
    refine S 60 _ _ ?_
    simp
    refine CallW.ok (by decide) (by simp) c2 (by simp) (S 60 _ _ ?_)
    simp
    refine CallW.ok (by decide) (by simp) c3 (by simp) (S 60 _ _ ?_)
    simp [hwd]
    refine CallW.ok (by decide) (by simp) c4 (by simp) (S 60 _ _ ?_)
    simp
    refine J.loop hw (fun i : Nat => ⟨[(0, .c (.d (vPolys ys))), (1, .c (.d (i64 n))), (5, .c (.ob 64005)), (6, .c (.ob 64006)), (7, .c (.d (i64 m))), (8, .c (.ob 64008)), (9, .c (.ob 64009)), (10, .c (.ob 64010)), (11, .c (.d (i64 i)))],
        [(64005, .arr 48 1 (E.map fun x => [oInts x])), (64008, .arr 48 1 (RK.map fun x => [oInts x])), (64009, .arr 48 1 (Lo.map fun x => [oInts x])), (64010, .arr 48 1 (Mo.map fun x => [oInts x])),
          (64006, .arr 48 1 ((outG E Lo Mo RK A0 i 0).map fun x => [oInts x]))]⟩)
      (fun i => i ≤ RK.length) (fun i => RK.length - i) 0 (by simp) (by simp [hz]) ?_
    intro i hi
    refine S 12 _ _ ?_
    simp
    refine ⟨fun hlt1 => ?_, fun hge => ?_⟩
    · obtain ⟨r, hr⟩ : ∃ r, RK[i]? = some r := ⟨RK[i], List.getElem?_eq_getElem hlt1⟩
      have hrow := hrl.2 r (List.mem_of_getElem? hr)
      have hki := hki i
      have hii := hii i r hr
      have hol := hol i
      refine S 60 _ _ ?_
      simp
      refine J.loop hw (fun k : Nat => ⟨[(0, .c (.d (vPolys ys))), (1, .c (.d (i64 n))), (5, .c (.ob 64005)), (6, .c (.ob 64006)), (7, .c (.d (i64 m))), (8, .c (.ob 64008)), (9, .c (.ob 64009)), (10, .c (.ob 64010)), (11, .c (.d (i64 i))), (12, .c (.d (i64 k)))],
          [(64005, .arr 48 1 (E.map fun x => [oInts x])), (64008, .arr 48 1 (RK.map fun x => [oInts x])), (64009, .arr 48 1 (Lo.map fun x => [oInts x])), (64010, .arr 48 1 (Mo.map fun x => [oInts x])),
            (64006, .arr 48 1 ((outG E Lo Mo RK A0 i k).map fun x => [oInts x]))]⟩)
        (fun k => k ≤ Mo.length) (fun k => Mo.length - k) 0 (by simp) (by simp) ?_
      intro k hk
      refine S 12 _ _ ?_
      simp
      refine ⟨fun hlt2 => ?_, fun hge2 => ?_⟩
      · obtain ⟨e', he'⟩ : ∃ e', Mo[k]? = some e' := ⟨Mo[k], List.getElem?_eq_getElem hlt2⟩
        have hki := hki k r e' hr he'
        have hol := hol k
        have hem' := List.mem_of_getElem? he'
        obtain ⟨b1, _, b3⟩ := hex2 e' hem'
        have hls := hls (fun e => addV e e') r
        have hln := hln (fun e => addV e e') r
        have hLL : liftL E Lo (fun e => addV e e') r = liftN E Lo (fun e => addV e e') r Lo.length := rfl
        rw [hLL] at hki
        have hL0 : liftN E Lo (fun e => addV e e') r 0 = List.replicate E.length 0 := rfl
        generalize outG E Lo Mo RK A0 i k = OA at hki hol ⊢
        refine S 60 _ _ ?_
        simp
        refine ⟨⟨by omega, by omega⟩, ?_⟩
        refine J.loop hw (fun j : Nat => ⟨[(0, .c (.d (vPolys ys))), (1, .c (.d (i64 n))), (5, .c (.ob 64005)), (6, .c (.ob 64006)), (7, .c (.d (i64 m))), (8, .c (.ob 64008)), (9, .c (.ob 64009)), (10, .c (.ob 64010)), (11, .c (.d (i64 i))), (12, .c (.d (i64 k))), (13, .c (.ob 64013)), (14, .c (.d (i64 j)))],
            [(64005, .arr 48 1 (E.map fun x => [oInts x])), (64008, .arr 48 1 (RK.map fun x => [oInts x])), (64009, .arr 48 1 (Lo.map fun x => [oInts x])), (64010, .arr 48 1 (Mo.map fun x => [oInts x])),
              (64006, .arr 48 1 (OA.map fun x => [oInts x])), (64013, .arr 2 1 (ints (liftN E Lo (fun e => addV e e') r j)))]⟩)
          (fun j => j ≤ Lo.length) (fun j => Lo.length - j) 0 (by simp) (by simp [hL0]) ?_
        intro j hj
        have hlnj := hln j
        have hlsj := hls j
        generalize hW : liftN E Lo (fun e => addV e e') r j = W at hlnj hlsj ⊢
        refine S 12 _ _ ?_
        simp
        refine ⟨fun hlt3 => ?_, fun hge3 => ?_⟩
        · obtain ⟨e, he⟩ : ∃ e, Lo[j]? = some e := ⟨Lo[j], List.getElem?_eq_getElem hlt3⟩
          obtain ⟨c, hc⟩ : ∃ c, r[j]? = some c := ⟨r[j]'(by rw [hrow.1]; exact hlt3), List.getElem?_eq_getElem _⟩
          have hgc : gt r j = c := by unfold gt; rw [List.getD_eq_getElem?_getD, hc]; rfl
          have hem := List.mem_of_getElem? he
          obtain ⟨a1, _, a3⟩ := hex e hem
          have hpl := plc_lt (hadd e e' hem hem')
          have c5 := l09Place_ok E (addV e e') (hadd e e' hem hem') (fun y hy => by rw [(hex0 y hy).1, (hex0 _ (hadd e e' hem hem')).1]) (by omega) (by rw [(hex0 _ (hadd e e' hem hem')).1]; omega)
          have hlsj := hlsj e he
          rw [hgc] at hlsj
          refine S 60 _ _ ?_
          simp
          refine J.loop hw (fun x : Nat => ⟨[(0, .c (.d (vPolys ys))), (1, .c (.d (i64 n))), (5, .c (.ob 64005)), (6, .c (.ob 64006)), (7, .c (.d (i64 m))), (8, .c (.ob 64008)), (9, .c (.ob 64009)), (10, .c (.ob 64010)), (11, .c (.d (i64 i))), (12, .c (.d (i64 k))), (13, .c (.ob 64013)), (14, .c (.d (i64 j))), (15, .c (.ob 64015)), (16, .c (.d (i64 x)))],
              [(64005, .arr 48 1 (E.map fun x => [oInts x])), (64008, .arr 48 1 (RK.map fun x => [oInts x])), (64009, .arr 48 1 (Lo.map fun x => [oInts x])), (64010, .arr 48 1 (Mo.map fun x => [oInts x])),
                (64006, .arr 48 1 (OA.map fun x => [oInts x])), (64013, .arr 2 1 (ints W)), (64015, .arr 2 1 (ints (addV (e.take x) (e'.take x))))]⟩)
            (fun x => x ≤ ys.length) (fun x => ys.length - x) 0 (by simp) (by simp [addV]) ?_
          intro x hx
          refine S 12 _ _ ?_
          simp
          refine ⟨fun hlt4 => ?_, fun hge4 => ?_⟩
          · obtain ⟨a, ha⟩ : ∃ a, e[x]? = some a := ⟨e[x]'(by omega), List.getElem?_eq_getElem _⟩
            obtain ⟨b, hb⟩ : ∃ b, e'[x]? = some b := ⟨e'[x]'(by omega), List.getElem?_eq_getElem _⟩
            have hst := addV_take ha hb
            have hall : (addV (e.take x) (e'.take x)).length = x := by rw [addV_len (by rw [List.length_take, List.length_take]; omega), List.length_take]; omega
            generalize addV (e.take x) (e'.take x) = V at hst hall ⊢
            refine S 60 _ _ ?_
            simp
            refine J.dr hF mixed 17 [[], [], [], [1, 2], [1, 2, 3], [], [1, 2, 3, 4, 5], [1, 2, 3, 4, 5, 6], [], [], [8, 9], [8, 9, 10], [], [8, 9, 10, 11, 12], [8, 9, 10, 11, 12, 13], [1, 2, 3, 4, 5, 6, 7, 8, 9, 10, 11, 12, 13, 14], [1, 2, 3, 4, 5, 6, 7, 8, 9, 10, 11, 12, 13, 14, 15], [0, 1, 2, 3, 4, 5, 6, 7, 8, 9, 10, 11, 12, 13, 14, 15, 16], [0, 1, 2, 3, 4, 5, 6, 7, 8, 9, 10, 11, 12, 13, 14, 15, 16, 17]] [[65, 66, 67, 68, 69, 70, 71, 72, 73, 74, 75, 76, 77, 78, 79, 80, 81], [65, 66, 67, 68, 69, 70, 71, 72, 73, 74, 75, 76, 77, 78, 79, 80, 81], [65, 66, 67, 68, 69, 70, 71, 72, 73, 74, 75, 76, 77, 78, 79, 80, 81], [65, 68, 69, 70, 71, 72, 73, 74, 75, 76, 77, 78, 79, 80, 81], [65, 69, 70, 71, 72, 73, 74, 75, 76, 77, 78, 79, 80, 81], [65, 66, 67, 68, 69, 70, 71, 72, 73, 74, 75, 76, 77, 78, 79, 80, 81], [65, 71, 72, 73, 74, 75, 76, 77, 78, 79, 80, 81], [65, 72, 73, 74, 75, 76, 77, 78, 79, 80, 81], [65, 66, 67, 68, 69, 70, 71, 72, 73, 74, 75, 76, 77, 78, 79, 80, 81], [65, 66, 67, 68, 69, 70, 71, 72, 73, 74, 75, 76, 77, 78, 79, 80, 81], [65, 66, 67, 68, 69, 70, 71, 72, 75, 76, 77, 78, 79, 80, 81], [65, 66, 67, 68, 69, 70, 71, 72, 76, 77, 78, 79, 80, 81], [65, 66, 67, 68, 69, 70, 71, 72, 73, 74, 75, 76, 77, 78, 79, 80, 81], [65, 66, 67, 68, 69, 70, 71, 72, 78, 79, 80, 81], [65, 66, 67, 68, 69, 70, 71, 72, 79, 80, 81], [65, 80, 81], [65, 81]] (by decide) ?_
            rw [← List.take_append_drop 5 (List.take _ _)]
            generalize htl : List.drop 5 (List.take _ _) = tl
            simp
            refine ⟨hlt3, fun q hq => ?_⟩
            obtain rfl := Option.some.inj (he.symm.trans hq)
            subst htl
            rw [← List.take_append_drop 3 (List.drop 5 _)]
            generalize htl : List.drop 3 (List.drop 5 _) = tl
            simp
            refine ⟨by omega, fun q hq => ?_⟩
            obtain rfl := Option.some.inj (ha.symm.trans hq)
            subst htl
            rw [← List.take_append_drop 4 (List.drop 3 _)]
            generalize htl : List.drop 4 (List.drop 3 _) = tl
            simp
            refine ⟨hlt2, fun q hq => ?_⟩
            obtain rfl := Option.some.inj (he'.symm.trans hq)
            subst htl
            rw [← List.take_append_drop 3 (List.drop 4 _)]
            generalize htl : List.drop 3 (List.drop 4 _) = tl
            simp
            refine ⟨by omega, fun q hq => ?_⟩
            obtain rfl := Option.some.inj (hb.symm.trans hq)
            subst htl
            have w1 : IntKind.i64.wrap (a + b) = a + b := by
              have := a3 a (List.mem_of_getElem? ha)
              have := b3 b (List.mem_of_getElem? hb)
              have := hxl e hem a (List.mem_of_getElem? ha)
              have := hxl2 e' hem' b (List.mem_of_getElem? hb)
              rw [wrap64] <;> omega
            simp [w1]
            refine S 60 _ _ ?_
            simp
            refine ⟨⟨by omega, by omega⟩, ?_⟩
            exact Nxt.mk (x + 1) (by omega) (by simp [wrapS (i := x) (n := ys.length) hlt4 (by omega), hst]) (by omega)
          · have e1 : e.take x = e := List.take_of_length_le (by omega)
            have e2 : e'.take x = e' := List.take_of_length_le (by omega)
            rw [e1, e2]
            refine S 60 _ _ ?_
            simp
            refine J.dr hF mixed 11 [[], [], [], [1, 2], [], [], [4, 5], [4, 5, 6], [], [4, 5, 6, 7, 8], [4, 5, 6, 7, 8, 9], [0, 1, 2, 3, 4, 5, 6, 7, 8, 9, 10], [0, 1, 2, 3, 4, 5, 6, 7, 8, 9, 10, 11]] [[83, 84, 85, 86, 87, 88, 89, 90, 91, 92, 93], [83, 84, 85, 86, 87, 88, 89, 90, 91, 92, 93], [83, 84, 85, 86, 87, 88, 89, 90, 91, 92, 93], [83, 86, 87, 88, 89, 90, 91, 92, 93], [83, 84, 85, 86, 87, 88, 89, 90, 91, 92, 93], [83, 84, 85, 86, 87, 88, 89, 90, 91, 92, 93], [83, 84, 85, 86, 89, 90, 91, 92, 93], [83, 84, 85, 86, 90, 91, 92, 93], [83, 84, 85, 86, 87, 88, 89, 90, 91, 92, 93], [83, 84, 85, 86, 92, 93], [83, 84, 85, 86, 93]] (by decide) ?_
            simp
            refine DrC.ok hF (by rfl) (by simp) c5 (by simp) (by simp) ?_
            simp
            refine ⟨hlt1, fun q hq => ?_⟩
            obtain rfl := Option.some.inj (hr.symm.trans hq)
            refine ⟨by rw [hrow.1]; exact hlt3, fun q hq => ?_⟩
            obtain rfl := Option.some.inj (hc.symm.trans hq)
            refine S 60 _ _ ?_
            simp
            exact ⟨by omega, Nxt.mk (j + 1) (by omega) (by simp [wrapS (i := j) (n := Lo.length) hlt3 (by omega), hlsj]) (by omega)⟩
        · rw [show j = Lo.length by omega] at hW
          rw [hW] at hki
          refine S 60 _ _ ?_
          simp
          refine BsW.move hF (e := 48) (es := [[oInts W]]) (ks := [64013]) (by decide) rfl rfl rfl (by simp) (by simp) rfl (by decide) (by decide) (by simp) ?_
          refine S 60 _ _ ?_
          simp
          refine ⟨⟨by omega, by omega⟩, ?_⟩
          exact Nxt.mk (k + 1) (by omega) (by simp [wrapS (i := k) (n := Mo.length) hlt2 (by omega), hki]) (by omega)
      · rw [show k = Mo.length by omega, ← hii]
        refine S 60 _ _ ?_
        simp
        exact Nxt.mk (i + 1) (by omega) (by simp [wrapS (i := i) (n := RK.length) hlt1 (by omega)]) (by omega)
    · rw [show i = RK.length by omega, ← hsS]
      refine S 60 _ _ ?_
      simp
      exact Nxt.mk (m + 1) (by omega) (by simp [wrapS (i := m) (n := n) hlt (by omega)]) (by omega)
  · have : m = n := by omega
    subst this
    refine S 60 _ _ ?_
    simp
end Go.Sm
