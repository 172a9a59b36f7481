/- Towards the rows of this seat: what the functions do, as contracts over plain data. -/
import Derived.Test.YtdfihhfnnogpeaaGreatPkQrNewRelationsBK9
import Derived.Test.YtdfihhfnnogpeaaGreatPkQrNewRelationsBK25
import Derived.Test.YtdfihhfnnogpeaaGreatPkQrNewRelationsBK24
namespace Go.Sm

/-! ### rows that are moved -/
def plc (up : List (List Int)) (x : List Int) : Nat := up.findIdx fun y => decide (y = x)
theorem plc_lt {up : List (List Int)} {x : List Int} (h : x ∈ up) : plc up x < up.length := List.findIdx_lt_length_of_exists ⟨x, h, by simp⟩
theorem plc_at {up : List (List Int)} {x : List Int} (h : x ∈ up) : up[plc up x]? = some x := by
  have h1 := plc_lt h
  have h2 := List.findIdx_getElem (w := h1) (p := fun y => decide (y = x))
  rw [List.getElem?_eq_getElem h1]
  have h3 : up[plc up x] = x := by
    simp only [decide_eq_true_eq] at h2
    exact h2
  rw [h3]
theorem nodup_at {α : Type} {up : List α} (hn : up.Nodup) {i j : Nat} {x : α} (h1 : up[i]? = some x) (h2 : up[j]? = some x) : i = j := by
  obtain ⟨hi, e1⟩ := List.getElem?_eq_some_iff.1 h1
  obtain ⟨hj, e2⟩ := List.getElem?_eq_some_iff.1 h2
  exact (List.getElem_inj hn).1 (e1.trans e2.symm)
/-- Each number to the place of its exponents' image. -/
def liftF (low up : List (List Int)) (f : List Int → List Int) (g : Nat → Int) : Nat → Int := fun j => sumA low g fun e => if some (f e) = up[j]? then 1 else 0
theorem lift_lin {low up : List (List Int)} {f : List Int → List Int} (c : Int) (g h : Nat → Int) (j : Nat) : liftF low up f (fun k => g k + c * h k) j = liftF low up f g j + c * liftF low up f h j := sumA_lin c _ low g h
theorem lift_al {p : Int} {low up : List (List Int)} {f : List Int → List Int} {g h : Nat → Int} (ha : Al p low.length g h) (n : Nat) : Al p n (liftF low up f g) (liftF low up f h) := fun _ _ => sumA_al _ low ha
theorem liftF_congr {low up : List (List Int)} {f f' : List Int → List Int} (g : Nat → Int) (j : Nat) (h : ∀ e ∈ low, f e = f' e) : liftF low up f g j = liftF low up f' g j := sumA_congr low fun e he => by rw [h e he]
theorem lift_zero (low up : List (List Int)) (f : List Int → List Int) (j : Nat) : liftF low up f (fun _ => 0) j = 0 := sumA_zero _ low
theorem sum_pick {up : List (List Int)} (hn : up.Nodup) {x : List Int} (hx : x ∈ up) (h : List Int → Int) : sumA up (fun j => if some x = up[j]? then 1 else 0) h = h x := by
  have h1 := plc_at hx
  rw [sumA_ext h up (h := fun j => if j = plc up x then 1 else 0) fun k _ => ?_, sumA_unit h up h1]
  by_cases e : k = plc up x
  · rw [if_pos e, if_pos (by rw [e, h1])]
  · rw [if_neg e, if_neg fun h2 => e (nodup_at hn h2.symm h1)]
theorem sum_lift {up : List (List Int)} (hn : up.Nodup) {f : List Int → List Int} (h : List Int → Int) : ∀ {low : List (List Int)} (g : Nat → Int), (∀ e ∈ low, f e ∈ up) → sumA up (liftF low up f g) h = sumA low g fun e => h (f e)
  | [], g, _ => by
    show sumA up (fun _ => 0) h = 0
    exact sumA_zero h up
  | e :: low, g, hf => by
    have e1 : liftF (e :: low) up f g = fun j => liftF low up f (fun i => g (i + 1)) j + g 0 * (fun j => if some (f e) = up[j]? then 1 else 0) j := by
      funext j
      exact Int.add_comm _ _
    rw [e1, sumA_lin, sum_pick hn (hf e (List.mem_cons_self ..)), sum_lift hn h _ fun x hx => hf x (List.mem_cons_of_mem _ hx)]
    simp only [sumA]
    omega
theorem lift_lift {mid up : List (List Int)} (hn : mid.Nodup) {low : List (List Int)} {f1 f2 : List Int → List Int} (hf : ∀ e ∈ low, f1 e ∈ mid) (g : Nat → Int) (j : Nat) :
    liftF mid up f2 (liftF low mid f1 g) j = liftF low up (fun e => f2 (f1 e)) g j := sum_lift hn _ g hf

/-- The same as a list, one number after the other. -/
def liftN (up low : List (List Int)) (f : List Int → List Int) (r : List Int) : Nat → List Int
  | 0 => List.replicate up.length 0
  | i + 1 => (liftN up low f r i).set (plc up (f (low.getD i []))) (gt r i)
def liftL (up low : List (List Int)) (f : List Int → List Int) (r : List Int) : List Int := liftN up low f r low.length
theorem liftN_step {up low : List (List Int)} {f : List Int → List Int} {r : List Int} {i : Nat} {e : List Int} (h : low[i]? = some e) : liftN up low f r (i + 1) = (liftN up low f r i).set (plc up (f e)) (gt r i) := by
  rw [liftN, List.getD_eq_getElem?_getD, h]; rfl
theorem liftN_len (up low : List (List Int)) (f : List Int → List Int) (r : List Int) : ∀ i, (liftN up low f r i).length = up.length
  | 0 => by simp [liftN]
  | i + 1 => by rw [liftN, List.length_set, liftN_len up low f r i]
theorem liftN_row {p : Int} (hp : 0 < p) {up low : List (List Int)} {f : List Int → List Int} {r : List Int} {n : Nat} (hr : RowOk p n r) : ∀ i, RowOk p up.length (liftN up low f r i)
  | 0 => ⟨by simp [liftN], fun x hx => by rw [liftN] at hx; rw [List.eq_of_mem_replicate hx]; omega⟩
  | i + 1 => by
    obtain ⟨h1, h2⟩ := liftN_row hp hr (up := up) (low := low) (f := f) i
    refine ⟨liftN_len up low f r (i + 1), fun x hx => ?_⟩
    rw [liftN] at hx
    rcases List.mem_or_eq_of_mem_set hx with hx | rfl
    · exact h2 x hx
    · exact gt_range hp hr i
theorem gt_set {r : List Int} {i j : Nat} {x : Int} (hi : i < r.length) : gt (r.set i x) j = if j = i then x else gt r j := by
  unfold gt
  rw [List.getD_eq_getElem?_getD, List.getD_eq_getElem?_getD, List.getElem?_set]
  by_cases h : i = j
  · subst h; simp [hi]
  · rw [if_neg h, if_neg (Ne.symm h)]
theorem gt_liftN {up low : List (List Int)} {f : List Int → List Int} {r : List Int} (hn : up.Nodup) (hl : low.Nodup) (hf : ∀ e ∈ low, f e ∈ up) (hi : ∀ e ∈ low, ∀ e' ∈ low, f e = f e' → e = e') {j : Nat} (hj : j < up.length) :
    ∀ i, i ≤ low.length → gt (liftN up low f r i) j = liftF (low.take i) up f (gt r) j
  | 0, _ => by
    show gt (List.replicate up.length 0) j = 0
    unfold gt
    rw [List.getD_eq_getElem?_getD, List.getElem?_replicate, if_pos hj]; rfl
  | i + 1, h => by
    obtain ⟨e, he⟩ : ∃ e, low[i]? = some e := ⟨low[i], List.getElem?_eq_getElem (by omega)⟩
    have hem := List.mem_of_getElem? he
    have ih := gt_liftN hn hl hf hi hj i (by omega) (r := r)
    have hlen : (low.take i).length = i := by rw [List.length_take]; omega
    have e1 : liftF (low.take (i + 1)) up f (gt r) j = liftF (low.take i) up f (gt r) j + gt r i * if some (f e) = up[j]? then 1 else 0 := by
      unfold liftF
      rw [List.take_add_one, he]
      show sumA (low.take i ++ [e]) _ _ = _
      rw [sumA_snoc, hlen]
    rw [liftN_step he, gt_set (by rw [liftN_len]; exact plc_lt (hf e hem)), e1]
    have h1 := plc_at (hf e hem)
    by_cases hje : j = plc up (f e)
    · subst hje
      rw [if_pos rfl, if_pos h1.symm]
      have h2 : liftF (low.take i) up f (gt r) (plc up (f e)) = 0 := by
        unfold liftF
        rw [sumA_congr (h := fun _ => 0) _ fun x hx => ?_]
        · have : ∀ (L : List (List Int)) (g : Nat → Int), sumA L g (fun _ => 0) = 0 := by
            intro L
            induction L with
            | nil => intro g; rfl
            | cons x L ih => intro g; simp only [sumA]; rw [ih]; simp
          exact this _ _
        · rw [if_neg fun h2 => ?_]
          rw [h1] at h2
          have h3 := hi x (List.take_subset _ _ hx) e hem (Option.some.inj h2)
          subst h3
          obtain ⟨k, hk⟩ := List.mem_iff_getElem?.1 hx
          rw [List.getElem?_take] at hk
          split at hk
          · rename_i hki
            have := nodup_at hl hk he
            omega
          · cases hk
      rw [h2]; omega
    · rw [if_neg hje, ih, if_neg fun h2 => hje (nodup_at hn (h2.symm) h1)]; omega
theorem gt_liftL {up low : List (List Int)} {f : List Int → List Int} {r : List Int} (hn : up.Nodup) (hl : low.Nodup) (hf : ∀ e ∈ low, f e ∈ up) (hi : ∀ e ∈ low, ∀ e' ∈ low, f e = f e' → e = e') {j : Nat} (hj : j < up.length) :
    gt (liftL up low f r) j = liftF low up f (gt r) j := by
  have := gt_liftN hn hl hf hi hj low.length (Nat.le_refl _) (r := r)
  rwa [List.take_length] at this
end Go.Sm

namespace Go.Sm

theorem exps_nodup : ∀ (ds : List Nat) (n : Nat), (expsL ds n).Nodup
  | [], n => by unfold expsL; split <;> simp
  | d :: ds, n => by
    have key : ∀ m, (expsG (expsL ds) d n m).Nodup := by
      intro m
      induction m with
      | zero => exact List.nodup_nil
      | succ m ih =>
        rw [expsG]
        refine List.nodup_append.2 ⟨?_, ih, fun a ha b hb => ?_⟩
        · exact List.pairwise_map.2 ((exps_nodup ds (n - m * d)).imp fun h e => h (List.cons.inj e).2)
        · obtain ⟨r, _, rfl⟩ := List.mem_map.1 ha
          obtain ⟨k, hk, s, _, rfl⟩ := expsG_mem hb
          intro e
          have := (List.cons.inj e).1
          omega
    exact key _
theorem exps_zero : ∀ (ds : List Nat), (expsL ds 0).length = 1
  | [] => rfl
  | d :: ds => by
    rw [expsL, Nat.zero_div]
    simp only [expsG, List.append_nil, List.length_map, Nat.zero_sub]
    exact exps_zero ds
def addV (e q : List Int) : List Int := List.zipWith (· + ·) e q
theorem timesT_add (p : Int) (y : List Tm) (j : Nat) : ∀ (i : Nat) (a : List Tm), timesT p y (i + j) a = timesT p y j (timesT p y i a)
  | 0, a => by rw [Nat.zero_add]; rfl
  | i + 1, a => by
    rw [show i + 1 + j = i + j + 1 by omega]
    exact timesT_add p y j i (mulT p a y)
theorem timesT_mul2 {p : Int} (hp : 0 < p) (y : List Tm) (i j : Nat) (a b : List Tm) : timesT p y (i + j) (mulT p a b) = mulT p (timesT p y i a) (timesT p y j b) := by
  rw [timesT_add, timesT_mul hp, mulT_comm hp, timesT_mul hp, mulT_comm hp]
theorem prodL_add {p : Int} (hp : 0 < p) : ∀ (ys : List Pl) (e q : List Int) (a b : List Tm), e.length = ys.length → q.length = ys.length → (∀ x ∈ e, 0 ≤ x) → (∀ x ∈ q, 0 ≤ x) →
    prodL p ys (addV e q) (mulT p a b) = mulT p (prodL p ys e a) (prodL p ys q b)
  | [], _, _, _, _, _, _, _, _ => by simp [prodL]
  | _ :: _, [], _, _, _, h, _, _, _ => by simp at h
  | _ :: _, _ :: _, [], _, _, _, h, _, _ => by simp at h
  | y :: ys, k :: e, l :: q, a, b, h1, h2, h3, h4 => by
    have hk := h3 k (by simp)
    have hl := h4 l (by simp)
    show prodL p ys (addV e q) (timesT p y.ts (k + l).toNat (mulT p a b)) = _
    rw [show (k + l).toNat = k.toNat + l.toNat by omega, timesT_mul2 hp]
    exact prodL_add hp ys e q _ _ (by simpa using h1) (by simpa using h2) (fun x hx => h3 x (by simp [hx])) fun x hx => h4 x (by simp [hx])
theorem addV_facts : ∀ {ds : List Nat} {e q : List Int}, e.length = ds.length → q.length = ds.length → (∀ x ∈ e, 0 ≤ x) → (∀ x ∈ q, 0 ≤ x) →
    (addV e q).length = ds.length ∧ degL ds (addV e q) = degL ds e + degL ds q ∧ ∀ x ∈ addV e q, 0 ≤ x
  | [], [], [], _, _, _, _ => by simp [addV, degL]
  | _ :: _, [], _, h, _, _, _ => by simp at h
  | _ :: _, _ :: _, [], _, h, _, _ => by simp at h
  | [], _ :: _, _, h, _, _, _ => by simp at h
  | [], [], _ :: _, _, h, _, _ => by simp at h
  | d :: ds, k :: e, l :: q, h1, h2, h3, h4 => by
    have hk := h3 k (by simp)
    have hl := h4 l (by simp)
    obtain ⟨g1, g2, g3⟩ := addV_facts (ds := ds) (e := e) (q := q) (by simpa using h1) (by simpa using h2) (fun x hx => h3 x (by simp [hx])) fun x hx => h4 x (by simp [hx])
    have e1 : addV (k :: e) (l :: q) = (k + l) :: addV e q := rfl
    rw [e1]
    refine ⟨by simp [g1], ?_, fun x hx => ?_⟩
    · simp only [degL]
      rw [g2, show (k + l).toNat = k.toNat + l.toNat by omega, Nat.add_mul]
      omega
    · rcases List.mem_cons.1 hx with rfl | hx
      · omega
      · exact g3 x hx
theorem addV_inj : ∀ {q e e' : List Int}, e.length = q.length → e'.length = q.length → addV e q = addV e' q → e = e'
  | [], [], [], _, _, _ => rfl
  | [], _ :: _, _, h, _, _ => by simp at h
  | [], [], _ :: _, _, h, _ => by simp at h
  | _ :: _, [], _, h, _, _ => by simp at h
  | _ :: _, _ :: _, [], _, h, _ => by simp at h
  | l :: q, k :: e, k' :: e', h1, h2, h => by
    have e1 : (k + l) :: addV e q = (k' + l) :: addV e' q := h
    obtain ⟨a, b⟩ := List.cons.inj e1
    rw [addV_inj (by simpa using h1) (by simpa using h2) b, show k = k' by omega]
theorem addV_inc : ∀ (e q : List Int) (i : Nat), e.length = q.length → i < q.length → addV e (incE i q) = incE i (addV e q)
  | [], [], _, _, h => by simp at h
  | [], _ :: _, _, h, _ => by simp at h
  | _ :: _, [], _, h, _ => by simp at h
  | k :: e, l :: q, 0, _, _ => by
    show (k + (l + 1)) :: addV e q = (k + l + 1) :: addV e q
    rw [Int.add_assoc]
  | k :: e, l :: q, i + 1, h, hi => by
    show (k + l) :: addV e (incE i q) = (k + l) :: incE i (addV e q)
    rw [addV_inc e q i (by simpa using h) (by simpa using hi)]
theorem addV_zero : ∀ (e : List Int), addV e (List.replicate e.length 0) = e
  | [] => rfl
  | k :: e => by
    show (k + 0) :: addV e (List.replicate e.length 0) = _
    rw [addV_zero e, Int.add_zero]
theorem degL_zero : ∀ ds : List Nat, degL ds (List.replicate ds.length 0) = 0
  | [] => rfl
  | z :: zs => by simp only [List.length_cons, List.replicate_succ, degL, degL_zero zs]; simp
theorem incE_inj : ∀ {i : Nat} {e e' : List Int}, incE i e = incE i e' → e = e'
  | _, [], [], _ => rfl
  | 0, [], _ :: _, h => by simp [incE] at h
  | _ + 1, [], _ :: _, h => by simp [incE] at h
  | 0, _ :: _, [], h => by simp [incE] at h
  | _ + 1, _ :: _, [], h => by simp [incE] at h
  | 0, k :: e, k' :: e', h => by
    simp only [incE, List.cons.injEq] at h
    rw [h.2, show k = k' by omega]
  | i + 1, k :: e, k' :: e', h => by
    simp only [incE, List.cons.injEq] at h
    rw [h.1, incE_inj h.2]

/-- What makes 0 of the products of a degree. -/
def RelP (p d : Int) (ys : List Pl) (n : Nat) (g : Nat → Int) : Prop := ∀ c < (mons d n).length, p ∣ sumA (expsL (ys.map dgP) n) g fun e => gt (rowT d n (prodL p ys e one1)) c
theorem rel_iff {p d : Int} (hp : Pr p) {ys : List Pl} (hg : GL p d ys) (hd1 : ∀ y ∈ ys, 1 ≤ dgP y) {n : Nat} (hn : n ≤ 12) {g : Nat → Int} :
    Sp p (expsL (ys.map dgP) n).length (· ∈ relK p d ys n) g ↔ RelP p d ys n g := by
  have h := ker_iff hp (relRows_row (d := d) hp.pos.1 hg hd1 hn) (g := g)
  have hl : (relRows p d ys n (expsL (ys.map dgP) n)).length = (expsL (ys.map dgP) n).length := by rw [relRows, List.length_map]
  rw [hl] at h
  refine h.trans ⟨fun h c hc => ?_, fun h c hc => ?_⟩
  · have := h c hc
    rwa [relRows, sumA_map] at this
  · have := h c hc
    rw [relRows, sumA_map]
    exact this
theorem sum_swap {α : Type} (v : α → Nat → Int) (h : Ex → Int) (M : List Ex) : ∀ (L : List α) (g : Nat → Int), sumA L g (fun e => sumI M (v e) h) = sumI M (fun k => sumA L g fun e => v e k) h
  | [], g => (sumI_zero h M).symm
  | e :: L, g => by
    simp only [sumA]
    rw [sum_swap v h M L, Int.add_comm, ← sumI_lin]
    refine sumI_ext h M fun k _ => ?_
    omega
/-- A relation's multiple is a relation. -/
theorem lift_rel {p d : Int} (hp : Pr p) {ys : List Pl} (hg : GL p d ys) (hh : HL d ys) (hd1 : ∀ y ∈ ys, 1 ≤ dgP y) {m n : Nat} (hm : m ≤ 12) {g : Nat → Int} (hr : RelP p d ys m g) (z : List Tm) {f : List Int → List Int}
    (hf : ∀ e ∈ expsL (ys.map dgP) m, f e ∈ expsL (ys.map dgP) n ∧ prodL p ys (f e) one1 = mulT p z (prodL p ys e one1)) : RelP p d ys n (liftF (expsL (ys.map dgP) m) (expsL (ys.map dgP) n) f g) := fun c hc => by
  have hpp := hp.pos
  have hp0 : 0 < p := by omega
  have hds : ∀ x ∈ ys.map dgP, 1 ≤ x := fun x hx => by obtain ⟨y, hy, rfl⟩ := List.mem_map.1 hx; exact hd1 y hy
  rw [sum_lift (exps_nodup _ _) _ g fun e he => (hf e he).1]
  have h1 := sumA_alG (p := p) (f := g) (g := fun e => gt (rowT d n (prodL p ys (f e) one1)) c) (h := fun e => mulA z (mons d m) (mons d n) (gt (rowT d m (prodL p ys e one1))) c) (expsL (ys.map dgP) m) fun e he => by
    obtain ⟨a1, a2, a3⟩ := expsL_mem hds he
    have b1 := (prodL_good hpp.1 hg (by omega : degL (ys.map dgP) e ≤ 12)).1
    have b2 := prodL_hom (p := p) ys e hh (one_hom d) (by omega)
    rw [a2, Nat.zero_add] at b2
    rw [(hf e he).2]
    exact row_mul hp0 hm b1 b2 c hc
  have h2 : p ∣ sumA (expsL (ys.map dgP) m) g fun e => mulA z (mons d m) (mons d n) (gt (rowT d m (prodL p ys e one1))) c := by
    unfold mulA
    rw [sum_swap (fun e => gt (rowT d m (prodL p ys e one1)))]
    have := mulA_zero (p := p) (x := z) (M := mons d m) (M' := mons d n) (fun k => sumA (expsL (ys.map dgP) m) g fun e => gt (rowT d m (prodL p ys e one1)) k) (fun k hk => by
      show p ∣ _ - 0
      rw [Int.sub_zero]
      exact hr k hk) (c + 1) c (by omega)
    rwa [Int.sub_zero] at this
  have h3 := Int.dvd_add h1 h2
  rwa [Int.sub_add_cancel] at h3
end Go.Sm
