/- Towards the rows of this seat: what the functions do, as contracts over plain data. -/
import Derived.Test.YtdfihhfnnogpeaaGreatPkQrNewRelationsBK4
import Derived.Test.YtdfihhfnnogpeaaGreatPkQrNewRelationsBK1
namespace Go.Sm
open Go.RowKit

theorem snocInd {α : Type} {motive : List α → Prop} (nil : motive []) (snoc : ∀ xs x, motive xs → motive (xs ++ [x])) (xs : List α) : motive xs := by
  have h : ∀ n, ∀ xs : List α, xs.length = n → motive xs := by
    intro n
    induction n with
    | zero => intro xs h; rw [List.length_eq_zero_iff.1 h]; exact nil
    | succ n ih =>
      intro xs h
      have hne : xs ≠ [] := fun e => by rw [e] at h; simp at h
      rw [← List.dropLast_concat_getLast hne]
      exact snoc _ _ (ih _ (by simp [h]))
  exact h _ xs rfl

/-! ### products -/
def addE (x y : Ex) : Ex := ⟨by8 ((x.a.toNat : Int) + y.a.toNat), by8 ((x.b.toNat : Int) + y.b.toNat), by8 ((x.c.toNat : Int) + y.c.toNat)⟩
def mulRow (p : Int) (a : Tm) (out us : List Tm) : List Tm := us.foldl (fun o b => putT p o (addE a.e b.e) (a.v * b.v)) out
def mulT (p : Int) (ts us : List Tm) : List Tm := ts.foldl (fun o a => mulRow p a o us) []
def mulRowS (p : Int) (a : Tm) (l : List (Ex × Int)) (us : List Tm) : List (Ex × Int) := us.foldl (fun l b => sput l (addE a.e b.e) ((sget l (addE a.e b.e) + a.v * b.v).tmod p)) l
def mulS (p : Int) (ts us : List Tm) : List (Ex × Int) := ts.foldl (fun l a => mulRowS p a l us) []
theorem mulRow_snoc (p : Int) (a : Tm) (out us : List Tm) (b : Tm) : mulRow p a out (us ++ [b]) = putT p (mulRow p a out us) (addE a.e b.e) (a.v * b.v) := by simp [mulRow]
theorem mulT_snoc (p : Int) (ts us : List Tm) (a : Tm) : mulT p (ts ++ [a]) us = mulRow p a (mulT p ts us) us := by simp [mulT]
theorem mulRowS_snoc (p : Int) (a : Tm) (l : List (Ex × Int)) (us : List Tm) (b : Tm) : mulRowS p a l (us ++ [b]) = sput (mulRowS p a l us) (addE a.e b.e) ((sget (mulRowS p a l us) (addE a.e b.e) + a.v * b.v).tmod p) := by simp [mulRowS]
theorem mulS_snoc (p : Int) (ts us : List Tm) (a : Tm) : mulS p (ts ++ [a]) us = mulRowS p a (mulS p ts us) us := by simp [mulS]

/-- The map and the terms tell the same. -/
def Tell (p : Int) (n : Nat) (l : List (Ex × Int)) (ts : List Tm) : Prop :=
  (l.map (·.1)).Nodup ∧ l.length ≤ n ∧ Can p ts ∧ ts.length ≤ n ∧ ∀ e, sget l e = coef ts e
theorem Tell.nil (p : Int) : Tell p 0 [] [] := ⟨by simp, by simp, can_nil p, by simp, fun e => by simp [sget, coef]⟩
theorem Tell.step {p : Int} {n : Nat} {l : List (Ex × Int)} {ts : List Tm} (hp : 0 < p) (h : Tell p n l ts) (e : Ex) {v : Int} (hv : 0 ≤ v) :
    Tell p (n + 1) (sput l e ((sget l e + v).tmod p)) (putT p ts e v) := by
  obtain ⟨h1, h2, h3, h4, h5⟩ := h
  obtain ⟨k1, k2⟩ := putT_can hp h3 e v
  have hb := coef_bound hp h3 e
  have hl := sput_length l e ((sget l e + v).tmod p)
  have hl2 := putT_length p ts e v
  refine ⟨sput_nodup h1 _ _, by omega, k1, by omega, fun e' => ?_⟩
  rw [sget_sput, k2]
  split
  · rw [h5, Int.tmod_eq_emod_of_nonneg (by omega), Int.add_comm]
  · exact h5 e'
theorem Tell.row {p : Int} {l : List (Ex × Int)} {ts : List Tm} {n : Nat} (hp : 0 < p) (a : Tm) (ha : 0 ≤ a.v) (h : Tell p n l ts) : ∀ us : List Tm, (∀ u ∈ us, 0 ≤ u.v) → Tell p (n + us.length) (mulRowS p a l us) (mulRow p a ts us) := by
  intro us
  induction us using snocInd with
  | nil => intro _; exact h
  | snoc us u ih =>
    intro hu
    rw [mulRow_snoc, mulRowS_snoc, List.length_append]
    exact Tell.step hp (ih fun x hx => hu x (by simp [hx])) _ (Int.mul_nonneg ha (hu u (by simp)))
theorem Tell.mul {p : Int} (hp : 0 < p) (us : List Tm) (hu : ∀ u ∈ us, 0 ≤ u.v) : ∀ ts : List Tm, (∀ t ∈ ts, 0 ≤ t.v) → Tell p (ts.length * us.length) (mulS p ts us) (mulT p ts us) := by
  intro ts
  induction ts using snocInd with
  | nil => intro _; simpa [mulS, mulT] using Tell.nil p
  | snoc ts t ih =>
    intro ht
    rw [mulT_snoc, mulS_snoc, List.length_append, List.length_singleton, Nat.succ_mul]
    exact Tell.row hp t (ht t (by simp)) (ih fun x hx => ht x (by simp [hx])) us hu
theorem Tell.eq {p : Int} {n : Nat} {l : List (Ex × Int)} {ts : List Tm} (hp : 0 < p) (h : Tell p n l ts) : ofSum p l = ts := by
  obtain ⟨h1, _, h3, _, h5⟩ := h
  obtain ⟨k1, k2⟩ := ofSum_can hp h1
  refine can_ext k1 h3 fun e => ?_
  have := coef_bound hp h3 e
  rw [k2, h5, Int.emod_eq_of_lt (by omega) (by omega)]
theorem can_nonneg {p : Int} {ts : List Tm} (h : Can p ts) : ∀ t ∈ ts, 0 ≤ t.v := fun t ht => by have := h.2 t ht; omega
theorem mul_tell {p : Int} {ts us : List Tm} (hp : 0 < p) (ht : Can p ts) (hu : Can p us) : Tell p (ts.length * us.length) (mulS p ts us) (mulT p ts us) := Tell.mul hp us (can_nonneg hu) ts (can_nonneg ht)

/-! ### sums -/
def plusT (p : Int) (ts us : List Tm) (k : Int) : List Tm := us.foldl (fun o t => putT p o t.e (k * t.v)) ts
/-! ### entries of a map, added to -/
end Go.Sm

namespace Go.Sm

/-- Equal mod p. -/
def Eqm (p x y : Int) : Prop := ∃ k, x = y + p * k
theorem Eqm.refl (p x : Int) : Eqm p x x := ⟨0, by simp⟩
theorem Eqm.symm {p x y : Int} : Eqm p x y → Eqm p y x := fun ⟨k, h⟩ => ⟨-k, by grind⟩
theorem Eqm.trans {p x y z : Int} : Eqm p x y → Eqm p y z → Eqm p x z := fun ⟨k, h⟩ ⟨l, h2⟩ => ⟨k + l, by grind⟩
theorem Eqm.add {p x y a b : Int} : Eqm p x y → Eqm p a b → Eqm p (x + a) (y + b) := fun ⟨k, h⟩ ⟨l, h2⟩ => ⟨k + l, by grind⟩
theorem Eqm.mul {p x y : Int} (c : Int) : Eqm p x y → Eqm p (c * x) (c * y) := fun ⟨k, h⟩ => ⟨c * k, by grind⟩
theorem Eqm.of_eq {p x y : Int} (h : x = y) : Eqm p x y := h ▸ Eqm.refl p x
theorem Eqm.mod (p x : Int) : Eqm p (x % p) x := ⟨-(x / p), by have := Int.emod_add_mul_ediv x p; grind⟩
theorem Eqm.emod {p x y : Int} : Eqm p x y → x % p = y % p := fun ⟨k, h⟩ => by rw [h, Int.add_mul_emod_self_left]
theorem Eqm.eq {p x y : Int} (h : Eqm p x y) (hx : 0 ≤ x ∧ x < p) (hy : 0 ≤ y ∧ y < p) : x = y := by
  have := h.emod
  rwa [Int.emod_eq_of_lt hx.1 hx.2, Int.emod_eq_of_lt hy.1 hy.2] at this

/-- The sum of what the terms give to a function of the exponents. -/
def lin : List Tm → (Ex → Int) → Int
  | [], _ => 0
  | t :: ts, f => t.v * f t.e + lin ts f
theorem lin_append (xs ys : List Tm) (f : Ex → Int) : lin (xs ++ ys) f = lin xs f + lin ys f := by
  induction xs with
  | nil => simp [lin]
  | cons t xs ih => simp only [List.cons_append, lin, ih]; omega
theorem lin_congr {p : Int} {f g : Ex → Int} (h : ∀ e, Eqm p (f e) (g e)) : ∀ ts : List Tm, Eqm p (lin ts f) (lin ts g)
  | [] => Eqm.refl p _
  | t :: ts => ((h t.e).mul t.v).add (lin_congr h ts)
theorem lin_add (f g : Ex → Int) : ∀ ts : List Tm, lin ts (fun e => f e + g e) = lin ts f + lin ts g
  | [] => by simp [lin]
  | t :: ts => by simp only [lin]; rw [lin_add f g ts, Int.mul_add]; omega
theorem lin_mul (c : Int) (f : Ex → Int) : ∀ ts : List Tm, lin ts (fun e => c * f e) = c * lin ts f
  | [] => by simp [lin]
  | t :: ts => by simp only [lin]; rw [lin_mul c f ts]; grind
theorem lin_zero : ∀ ts : List Tm, lin ts (fun _ => 0) = 0
  | [] => rfl
  | t :: ts => by simp only [lin]; rw [lin_zero ts]; simp
theorem lin_swap (f : Ex → Ex → Int) : ∀ (ts us : List Tm), lin ts (fun x => lin us fun y => f x y) = lin us fun y => lin ts fun x => f x y
  | [], us => by simp only [lin]; exact (lin_zero us).symm
  | t :: ts, us => by simp only [lin]; rw [lin_swap f ts us, lin_add, lin_mul]
theorem lin_coef : ∀ {ts : List Tm}, (ts.map (·.e)).Nodup → ∀ e, lin ts (fun x => if x = e then 1 else 0) = coef ts e
  | [], _, e => rfl
  | t :: ts, h, e => by
    simp only [List.map_cons, List.nodup_cons] at h
    have ih := lin_coef h.2 e
    simp only [lin, coef]
    rw [ih]
    split
    · rename_i he
      rw [coef_none fun u hu => fun q => h.1 (by rw [he, ← q]; exact List.mem_map_of_mem hu)]
      simp
    · simp

theorem lin_filter (f : Ex → Int) (e : Ex) : ∀ {ts : List Tm}, (ts.map (·.e)).Nodup → lin ts f = lin (ts.filter fun t => t.e ≠ e) f + coef ts e * f e
  | [], _ => by simp [lin, coef]
  | t :: ts, h => by
    simp only [List.map_cons, List.nodup_cons] at h
    have ih := lin_filter f e h.2
    rw [List.filter_cons]
    by_cases he : t.e = e
    · rw [if_neg (by simpa using he)]
      have h0 : coef ts e = 0 := coef_none fun u hu => fun q => h.1 (by rw [he, ← q]; exact List.mem_map_of_mem hu)
      rw [h0] at ih
      simp only [lin, coef, if_pos he]
      rw [ih, he]; omega
    · rw [if_pos (by simpa using he)]
      simp only [lin, coef, if_neg he]
      rw [ih]; omega
theorem lin_putGo (f : Ex → Int) (e : Ex) (c : Int) : ∀ ts : List Tm, lin (putGo e c false ts) f = lin (ts.filter fun t => t.e ≠ e) f + c * f e
  | [] => by simp [putGo, lin]
  | t :: ts => by
    have ih := lin_putGo f e c ts
    rw [List.filter_cons]
    by_cases hlt : cmpE e t.e < 0
    · simp only [putGo, hlt, decide_true, Bool.or_true, and_self, if_true, putGo_true, List.cons_append, List.nil_append, lin, lin_append]
      by_cases he : t.e = e
      · rw [if_pos he, if_neg (by simpa using he)]; simp only [lin]; omega
      · rw [if_neg he, if_pos (by simpa using he)]; simp only [lin]; omega
    · simp only [putGo, hlt, and_false, if_false, decide_false, Bool.or_false, List.nil_append, lin_append, ih]
      by_cases he : t.e = e
      · rw [if_pos he, if_neg (by simpa using he)]; simp only [lin]; omega
      · rw [if_neg he, if_pos (by simpa using he)]; simp only [lin]; omega
theorem lin_putT {p : Int} {ts : List Tm} (h : Can p ts) (e : Ex) (v : Int) (f : Ex → Int) : Eqm p (lin (putT p ts e v) f) (lin ts f + v * f e) := by
  have hc := Eqm.mod p (v + coef ts e)
  rw [lin_filter f e (asc_nodup h.1)]
  unfold putT
  generalize (v + coef ts e) % p = c at hc
  obtain ⟨k, hk⟩ := hc
  by_cases h0 : c = 0
  · rw [show (c == 0) = true by simpa using h0, putGo_true]
    exact ⟨k * f e, by grind⟩
  · rw [show (c == 0) = false by simpa using h0, lin_putGo]
    exact ⟨k * f e, by grind⟩

theorem can_lin {p : Int} (hp : 0 < p) {xs ys : List Tm} (hx : Can p xs) (hy : Can p ys) (h : ∀ f, Eqm p (lin xs f) (lin ys f)) : xs = ys :=
  can_ext hx hy fun e => by
    have := h fun x => if x = e then 1 else 0
    rw [lin_coef (asc_nodup hx.1), lin_coef (asc_nodup hy.1)] at this
    exact this.eq (coef_bound hp hx e) (coef_bound hp hy e)

theorem mulRow_lin {p : Int} (hp : 0 < p) (a : Tm) (f : Ex → Int) {out : List Tm} (ho : Can p out) : ∀ us : List Tm, Can p (mulRow p a out us) ∧ Eqm p (lin (mulRow p a out us) f) (lin out f + a.v * lin us fun y => f (addE a.e y)) := by
  intro us
  induction us using snocInd with
  | nil => exact ⟨ho, Eqm.of_eq (by simp [mulRow, lin])⟩
  | snoc us u ih =>
    obtain ⟨h1, h2⟩ := ih
    rw [mulRow_snoc]
    refine ⟨(putT_can hp h1 _ _).1, (lin_putT h1 _ _ f).trans ?_⟩
    rw [lin_append]
    obtain ⟨k, hk⟩ := h2
    exact ⟨k, by simp only [lin]; grind⟩
/-- A product, told by what it gives. -/
theorem mulT_lin {p : Int} (hp : 0 < p) (us : List Tm) (f : Ex → Int) : ∀ ts : List Tm, Can p (mulT p ts us) ∧ Eqm p (lin (mulT p ts us) f) (lin ts fun x => lin us fun y => f (addE x y)) := by
  intro ts
  induction ts using snocInd with
  | nil => exact ⟨can_nil p, Eqm.refl p _⟩
  | snoc ts t ih =>
    obtain ⟨h1, h2⟩ := ih
    obtain ⟨k1, k2⟩ := mulRow_lin hp t f h1 us
    rw [mulT_snoc]
    refine ⟨k1, k2.trans ?_⟩
    rw [lin_append]
    obtain ⟨k, hk⟩ := h2
    exact ⟨k, by simp only [lin]; grind⟩
theorem mulT_can {p : Int} (hp : 0 < p) (ts us : List Tm) : Can p (mulT p ts us) := (mulT_lin hp us (fun _ => 0) ts).1
/-! ### exponents -/
theorem by8_add (x y : UInt8) : by8 ((x.toNat : Int) + y.toNat) = x + y := by
  apply UInt8.toNat.inj
  unfold by8
  rw [UInt8.toNat_ofNat', UInt8.toNat_add]
  omega
theorem addE_eq (x y : Ex) : addE x y = ⟨x.a + y.a, x.b + y.b, x.c + y.c⟩ := by unfold addE; rw [by8_add, by8_add, by8_add]
theorem addE_assoc (x y z : Ex) : addE (addE x y) z = addE x (addE y z) := by simp only [addE_eq, UInt8.add_assoc]
theorem addE_comm (x y : Ex) : addE x y = addE y x := by simp only [addE_eq, UInt8.add_comm]
abbrev e0 : Ex := ⟨0, 0, 0⟩
theorem addE_zero (x : Ex) : addE x e0 = x := by simp [addE_eq]
theorem zero_addE (x : Ex) : addE e0 x = x := by simp [addE_eq]

/-! ### laws -/
theorem mulT_assoc {p : Int} (hp : 0 < p) (a b c : List Tm) : mulT p a (mulT p b c) = mulT p (mulT p a b) c := by
  refine can_lin hp (mulT_can hp _ _) (mulT_can hp _ _) fun f => ?_
  refine ((mulT_lin hp _ f a).2.trans (lin_congr (fun x => (mulT_lin hp c (fun y => f (addE x y)) b).2) a)).trans ?_
  refine Eqm.symm (((mulT_lin hp _ f (mulT p a b)).2.trans (mulT_lin hp b (fun x => lin c fun y => f (addE x y)) a).2).trans ?_)
  exact Eqm.of_eq (by simp only [addE_assoc])
theorem mulT_comm {p : Int} (hp : 0 < p) (a b : List Tm) : mulT p a b = mulT p b a := by
  refine can_lin hp (mulT_can hp _ _) (mulT_can hp _ _) fun f => ?_
  refine ((mulT_lin hp _ f a).2.trans (Eqm.of_eq ?_)).trans (mulT_lin hp _ f b).2.symm
  rw [lin_swap]
  simp only [addE_comm]
theorem mulT_one {p : Int} (hp : 0 < p) {a : List Tm} (ha : Can p a) : mulT p a [⟨e0, 1⟩] = a := by
  refine can_lin hp (mulT_can hp _ _) ha fun f => ?_
  refine (mulT_lin hp _ f a).2.trans (Eqm.of_eq ?_)
  simp only [lin, addE_zero, Int.one_mul, Int.add_zero]
theorem mulT_nil {p : Int} (a : List Tm) : mulT p a [] = [] := by
  induction a using snocInd with
  | nil => rfl
  | snoc ts t ih => rw [mulT_snoc, ih]; rfl
theorem one_can {p : Int} (hp : 2 ≤ p) : Can p [⟨e0, 1⟩] := ⟨by simp, by simp; omega⟩
/-- The product with a power, one factor after the other. -/
def timesT (p : Int) (y : List Tm) : Nat → List Tm → List Tm
  | 0, a => a
  | k + 1, a => timesT p y k (mulT p a y)
theorem timesT_succ (p : Int) (y : List Tm) : ∀ (k : Nat) (a : List Tm), timesT p y (k + 1) a = mulT p (timesT p y k a) y
  | 0, _ => rfl
  | k + 1, a => timesT_succ p y k (mulT p a y)
end Go.Sm

namespace Go.Sm
open Go.RowKit

def unE (i : Nat) : Ex := match i with
  | 0 => ⟨1, 0, 0⟩
  | 1 => ⟨0, 1, 0⟩
  | _ => ⟨0, 0, 1⟩

theorem monomial_ok (p d : Int) (e : Ex) (n : Int) (hp : 0 < p) (hp2 : p ≤ 13) : CallOK Go.Proofs.Tryz.prog 93 [.one (i64 p), .one (i64 d), .agg e.ds, .one (i64 n)] (po p d (ofSum p [(e, n)])) := by
  have hF := fnOk 16 [.cell 8 44]
  refine callOK hF 60 Go.Proofs.Tryz.func93 rfl rfl rfl (by decide) (by simp) rfl ?_
  intro w0 hw
  have S := @vc_sound w0 _ hF ⟨(po p d (ofSum p [(e, n)])), []⟩ Go.Proofs.Tryz.f93 rfl (by simp)
  have c1 := poly_ok p d [(e, n)] (by simp) (by simp) hp (by omega)
  simp
  refine CallW.ok (by decide) (by simp [mpPut, mpIdx]) c1 (by simp) (S 60 _ _ ?_)
  simp

theorem constant_ok (p d : Int) (n : Int) (hp : 0 < p) (hp2 : p ≤ 13) : CallOK Go.Proofs.Tryz.prog 76 [.one (i64 p), .one (i64 d), .one (i64 n)] (po p d (ofSum p [(⟨0, 0, 0⟩, n)])) := by
  have hF := fnOk 12 [.cell 6 44]
  refine callOK hF 60 Go.Proofs.Tryz.func76 rfl rfl rfl (by decide) (by simp) rfl ?_
  intro w0 hw
  have S := @vc_sound w0 _ hF ⟨(po p d (ofSum p [(⟨0, 0, 0⟩, n)])), []⟩ Go.Proofs.Tryz.f76 rfl (by simp)
  have c1 := monomial_ok p d ⟨0, 0, 0⟩ n hp hp2
  simp
  refine CallW.ok (by decide) (by simp) c1 (by simp) (S 60 _ _ ?_)
  simp

theorem l01One_ok (p d : Int) (e : Ex) (n : Int) (hp : 0 < p) (hp2 : p ≤ 13) (hn : -1000000 ≤ n) (hn2 : n ≤ 1000000) : CallOK Go.Proofs.Tryz.prog 85 [.one (i64 p), .one (i64 d), .agg e.ds, .one (i64 n)] (po p d (putT p [] e n)) := by
  have hF := fnOk 15 [.cell 8 44]
  refine callOK hF 60 Go.Proofs.Tryz.func85 rfl rfl rfl (by decide) (by simp) rfl ?_
  intro w0 hw
  have S := @vc_sound w0 _ hF ⟨(po p d (putT p [] e n)), []⟩ Go.Proofs.Tryz.f85 rfl (by simp)
  have c1 := l01Empty_ok p d
  have c2 := l01Put_ok p d [] e n (by simp) hp (by omega) (by simp [coef]; omega) (by simp [coef]; omega)
  simp
  refine J.dr hF mixed 5 [[], [], [0, 1], [], [], [0, 1, 2, 3, 4], [0, 1, 2, 3, 4, 5]] [[9, 10, 11, 12, 13], [9, 10, 11, 12, 13], [11, 12, 13], [9, 10, 11, 12, 13], [9, 10, 11, 12, 13]] (by decide) ?_
  simp
  refine DrC.ok hF (by rfl) (by simp) c1 (by simp) (by simp) ?_
  simp
  refine S 60 _ _ ?_
  simp
  refine CallW.ok (by decide) (by simp) c2 (by simp) (S 60 _ _ ?_)
  simp

set_option maxHeartbeats 1000000 in
theorem mul_ok (p d p2 d2 : Int) (ts us : List Tm) (hp : 0 < p) (hp2 : p ≤ 13) (ht : Can p ts) (hu : Can p us) (hlt : ts.length ≤ 1000) (hlu : us.length ≤ 1000) : CallOK Go.Proofs.Tryz.prog 77 [pv p d ts, pv p2 d2 us] (po p d (mulT p ts us)) := by
  have hF := fnOk 70 [.cell 4 44]
  refine callOK hF 60 Go.Proofs.Tryz.func77 rfl rfl rfl (by decide) (by simp) rfl ?_
  intro w0 hw
  have S := @vc_sound w0 _ hF ⟨(po p d (mulT p ts us)), []⟩ Go.Proofs.Tryz.f77 rfl (by simp)
  obtain ⟨m1, m2, _⟩ := mul_tell hp ht hu
  have heq := (mul_tell hp ht hu).eq hp
  have hmm : ts.length * us.length ≤ 1000 * 1000 := Nat.mul_le_mul hlt hlu
  have hpl := poly_ok p d (mulS p ts us) (by omega) m1 hp (by omega)
  rw [heq] at hpl
  simp
  refine J.loop hw (fun i : Nat => ⟨[(2, .c (.ref 64002 0)), (3, .c (.ref 64003 0)), (4, .c (.ref 64004 0)), (5, .c (.ob 64006)), (13, .c (.d (vTerms ts))), (14, .c (.d (i64 ts.length))), (15, .c (.d (i64 i)))],
      [(64002, .var [.d (i64 p), .d (i64 d), .d (vTerms ts)]), (64003, .var [.d (i64 p2), .d (i64 d2), .d (vTerms us)]), (64004, .var [.d (i64 0), .d (i64 0), .ob 64005]), (64005, .arr 70 4 []), (64006, .mp (sumM (mulS p (ts.take i) us)))]⟩)
    (fun i => i ≤ ts.length) (fun i => ts.length - i) 0 (by simp) (by simp [mulS]) ?_
  intro i hi
  refine S 8 _ _ ?_
  simp
  refine ⟨fun hlt1 => ?_, fun hge => ?_⟩
  · refine S 60 _ _ ?_
    simp
    refine ⟨hlt1, fun a ha => ?_⟩
    have ha0 := ht.2 a (List.mem_of_getElem? ha)
    have htell : Tell p ((ts.take i).length * us.length) (mulS p (ts.take i) us) (mulT p (ts.take i) us) :=
      Tell.mul hp us (can_nonneg hu) (ts.take i) fun t h => can_nonneg ht t (List.mem_of_mem_take h)
    have hnext : mulS p (ts.take (i + 1)) us = mulRowS p a (mulS p (ts.take i) us) us := by rw [List.take_add_one, ha]; exact mulS_snoc _ _ _ _
    generalize mulS p (ts.take i) us = l at htell hnext ⊢
    generalize mulT p (ts.take i) us = r at htell
    refine J.loop hw (fun k : Nat => ⟨[(2, .c (.ref 64002 0)), (3, .c (.ref 64003 0)), (4, .c (.ref 64004 0)), (5, .c (.ob 64006)), (13, .c (.d (vTerms ts))), (14, .c (.d (i64 ts.length))), (15, .c (.d (i64 i))),
          (7, .c (.ref 64008 0)), (20, .c (.d (vTerms us))), (21, .c (.d (i64 us.length))), (22, .c (.d (i64 k)))],
        [(64002, .var [.d (i64 p), .d (i64 d), .d (vTerms ts)]), (64003, .var [.d (i64 p2), .d (i64 d2), .d (vTerms us)]), (64004, .var [.d (i64 0), .d (i64 0), .ob 64005]), (64005, .arr 70 4 []), (64006, .mp (sumM (mulRowS p a l (us.take k)))),
          (64008, .var [.d (u8 a.e.a), .d (u8 a.e.b), .d (u8 a.e.c), .d (i64 a.v)])]⟩)
      (fun k => k ≤ us.length) (fun k => us.length - k) 0 (by simp) (by simp [mulRowS]) ?_
    intro k hk
    refine S 8 _ _ ?_
    simp
    refine ⟨fun hlt2 => ?_, fun hge2 => ?_⟩
    · refine S 6 _ _ ?_
      simp
      refine ⟨hlt2, fun b hb => ?_⟩
      have hb0 := hu.2 b (List.mem_of_getElem? hb)
      have htl := Tell.row hp a (by omega) htell (us.take k) fun t h => can_nonneg hu t (List.mem_of_mem_take h)
      have hnx : mulRowS p a l (us.take (k + 1)) = sput (mulRowS p a l (us.take k)) (addE a.e b.e) ((sget (mulRowS p a l (us.take k)) (addE a.e b.e) + a.v * b.v).tmod p) := by
        rw [List.take_add_one, hb]; exact mulRowS_snoc _ _ _ _ _
      generalize mulRowS p a l (us.take k) = m at htl hnx ⊢
      generalize mulRow p a r (us.take k) = mt at htl
      have hcb := coef_bound hp htl.2.2.1 (addE a.e b.e)
      rw [← htl.2.2.2.2] at hcb
      have hm : 0 ≤ a.v * b.v := Int.mul_nonneg (by omega) (by omega)
      have hm2 : a.v * b.v ≤ 13 * 13 := Int.mul_le_mul (by omega) (by omega) (by omega) (by omega)
      have hg := mpGet_sum m (addE a.e b.e)
      have hput := mpPut_sum m (addE a.e b.e) ((sget m (addE a.e b.e) + a.v * b.v).tmod p)
      generalize hs : sget m (addE a.e b.e) = s at *
      simp only [exK, addE] at hg hput hnx
      have w1 : IntKind.i64.wrap (a.v * b.v) = a.v * b.v := wrap64 (by omega) (by omega)
      have w2 : IntKind.i64.wrap (s + a.v * b.v) = s + a.v * b.v := wrap64 (by omega) (by omega)
      have hp0 : p ≠ 0 := by omega
      refine S 60 _ _ ?_
      simp
      refine J.dr hF mixed 14 [[], [], [], [], [2, 3], [], [5], [], [7], [5, 6, 7, 8], [2, 3, 4, 5, 6, 7, 8, 9], [], [11], [2, 3, 4, 5, 6, 7, 8, 9, 10, 11, 12], [0, 1, 2, 3, 4, 5, 6, 7, 8, 9, 10, 11, 12, 13]] [[48, 49, 50, 51, 52, 53, 54, 55, 56, 57, 58, 59, 60, 61], [48, 49, 50, 51, 52, 53, 54, 55, 56, 57, 58, 59, 60, 61], [48, 49, 50, 51, 52, 53, 54, 55, 56, 57, 58, 59, 60, 61], [48, 49, 50, 51, 52, 53, 54, 55, 56, 57, 58, 59, 60, 61], [48, 49, 52, 53, 54, 55, 56, 57, 58, 59, 60, 61], [48, 49, 50, 51, 52, 53, 54, 55, 56, 57, 58, 59, 60, 61], [48, 49, 50, 51, 52, 54, 55, 56, 57, 58, 59, 60, 61], [48, 49, 50, 51, 52, 53, 54, 55, 56, 57, 58, 59, 60, 61], [48, 49, 50, 51, 52, 53, 54, 56, 57, 58, 59, 60, 61], [48, 49, 50, 51, 52, 57, 58, 59, 60, 61], [48, 49, 58, 59, 60, 61], [48, 49, 50, 51, 52, 53, 54, 55, 56, 57, 58, 59, 60, 61], [48, 49, 50, 51, 52, 53, 54, 55, 56, 57, 58, 60, 61], [48, 49, 61]] (by decide) ?_
      simp [hg, hput, w1, w2, hp0]
      refine S 60 _ _ ?_
      simp [hput]
      exact Nxt.mk (k + 1) (by omega) (by simp [hnx, wrapS (i := k) (n := us.length) hlt2 (by omega)]) (by omega)
    · have e1 : us.take k = us := List.take_of_length_le hge2
      rw [e1]
      refine S 60 _ _ ?_
      simp
      exact Nxt.mk (i + 1) (by omega) (by simp [hnext, wrapS (i := i) (n := ts.length) hlt1 (by omega)]) (by omega)
  · have e1 : ts.take i = ts := List.take_of_length_le hge
    rw [e1]
    refine S 60 _ _ ?_
    simp
    refine CallW.ok (by decide) (by simp) hpl (by simp) (S 60 _ _ ?_)
    simp

end Go.Sm

namespace Go.Sm
open Go.RowKit

def degT (ts : List Tm) : Int := match ts.getLast? with
  | none => -1
  | some t => t.e.deg

theorem l01Degree_ok (p d : Int) (ts : List Tm) (hl : ts.length ≤ 1048576) : CallOK Go.Proofs.Tryz.prog 64 [pv p d ts] (.one (i64 (degT ts))) := by
  have hF := fnOk 17 [.tmp 2]
  refine callOK hF 60 Go.Proofs.Tryz.func64 rfl rfl rfl (by decide) (by simp) rfl ?_
  intro w0 hw
  have S := @vc_sound w0 _ hF ⟨(.one (i64 (degT ts))), []⟩ Go.Proofs.Tryz.f64 rfl (by simp)
  by_cases h0 : ts.length = 0
  · have e : ts = [] := List.length_eq_zero_iff.1 h0
    subst e
    have e : degT [] = -1 := rfl
    rw [e] at S ⊢
    simp
  · have hw1 : IntKind.i64.wrap ((ts.length : Int) - 1) = ((ts.length - 1 : Nat) : Int) := by rw [wrap64] <;> omega
    obtain ⟨t, ht⟩ : ∃ t, ts[ts.length - 1]? = some t := ⟨ts[ts.length - 1], List.getElem?_eq_getElem (by omega)⟩
    have e : degT ts = t.e.deg := by unfold degT; rw [List.getLast?_eq_getElem?, ht]
    rw [e] at S ⊢
    have c1 := l01Sum_ok t.e
    generalize hn : ts.length - 1 = n at *
    simp [h0, hw1]
    refine ⟨show n < ts.length by omega, fun a ha => ?_⟩
    obtain rfl : t = a := Option.some.inj (ht.symm.trans ha)
    refine CallW.ok (by decide) (by simp) c1 (by simp) (S 60 _ _ ?_)
    simp

end Go.Sm

namespace Go.Sm
open Go.RowKit

set_option maxHeartbeats 1000000 in
set_option maxRecDepth 4000 in
theorem l01Times_ok (p d p2 d2 : Int) (ts us : List Tm) (hp : 0 < p) (hp2 : p ≤ 13) (ht : Can p ts) (hu : Can p us) (hlt : ts.length ≤ 1000) (hlu : us.length ≤ 1000) (ht0 : ts.length ≠ 0) (hu0 : us.length ≠ 0) (hdeg : degT ts + degT us ≤ 12) (hd0 : -1 ≤ degT ts) (hd1 : degT ts ≤ 12) (hd2 : -1 ≤ degT us) (hd3 : degT us ≤ 12) : CallOK Go.Proofs.Tryz.prog 86 [pv p d ts, pv p2 d2 us] (.tup [(true, [i64 p, i64 d, oTerms (mulT p ts us)]), (false, [bo true])]) := by
  have hF := fnOk 88 [.cell 4 44, .tmp 5]
  refine callOK hF 60 Go.Proofs.Tryz.func86 rfl rfl rfl (by decide) (by simp) rfl ?_
  intro w0 hw
  have S := @vc_sound w0 _ hF ⟨(.tup [(true, [i64 p, i64 d, oTerms (mulT p ts us)]), (false, [bo true])]), []⟩ Go.Proofs.Tryz.f86 rfl (by simp)
  have c1 := l01Empty_ok p d
  have c2 := l01Degree_ok p d ts (by omega)
  have c3 := l01Degree_ok p2 d2 us (by omega)
  generalize degT ts = g1 at *
  generalize degT us = g2 at *
  have hw1 : IntKind.i64.wrap (g1 + g2) = g1 + g2 := wrap64 (by omega) (by omega)
  have h12 : ¬ 12 < g1 + g2 := by omega
  simp
  refine CallW.ok (by decide) (by simp) c1 (by simp) (S 60 _ _ ?_)
  simp [ht0, hu0]
  refine J.dr hF mixed 3 [[], [0], [], [0, 1, 2], [0, 1, 2, 3], [0, 1, 2, 3, 4]] [[27, 28, 29], [28, 29], [27, 28, 29]] (by decide) ?_
  simp
  refine DrC.ok hF (by rfl) (by simp) c2 (by simp) (by simp) ?_
  simp
  refine S 60 _ _ ?_
  simp
  refine CallW.ok (by decide) (by simp) c3 (by simp) (S 60 _ _ ?_)
  simp [hw1, h12]
  refine J.loop hw (fun i : Nat => ⟨[(2, .c (.ref 64002 0)), (3, .c (.ref 64003 0)), (4, .c (.ref 64004 0)), (6, .c (.ref 64006 0)), (7, .c (.d (i64 i)))],
      [(64002, .var [.d (i64 p), .d (i64 d), .d (vTerms ts)]), (64003, .var [.d (i64 p2), .d (i64 d2), .d (vTerms us)]), (64004, .var [.d (i64 0), .d (i64 0), .ob 64005]), (64005, .arr 70 4 []),
        (64006, .var [.d (i64 p), .d (i64 d), .ob 64007]), (64007, .arr 70 4 (terms (mulT p (ts.take i) us)))]⟩)
    (fun i => i ≤ ts.length) (fun i => ts.length - i) 0 (by simp) (by simp [mulT]) ?_
  intro i hi
  refine S 12 _ _ ?_
  simp
  refine ⟨fun hlt1 => ?_, fun hge => ?_⟩
  · obtain ⟨a, ha⟩ : ∃ a, ts[i]? = some a := ⟨ts[i], List.getElem?_eq_getElem hlt1⟩
    have ha0 := ht.2 a (List.mem_of_getElem? ha)
    have htell : Tell p ((ts.take i).length * us.length) (mulS p (ts.take i) us) (mulT p (ts.take i) us) :=
      Tell.mul hp us (can_nonneg hu) (ts.take i) fun t h => can_nonneg ht t (List.mem_of_mem_take h)
    have hnext : mulT p (ts.take (i + 1)) us = mulRow p a (mulT p (ts.take i) us) us := by rw [List.take_add_one, ha]; exact mulT_snoc _ _ _ _
    have hmm : (ts.take i).length * us.length ≤ 1000 * 1000 := Nat.mul_le_mul (by rw [List.length_take]; omega) hlu
    generalize mulT p (ts.take i) us = r at htell hnext ⊢
    generalize mulS p (ts.take i) us = l at htell
    refine S 60 _ _ ?_
    simp
    refine J.loop hw (fun k : Nat => ⟨[(2, .c (.ref 64002 0)), (3, .c (.ref 64003 0)), (4, .c (.ref 64004 0)), (6, .c (.ref 64006 0)), (7, .c (.d (i64 i))), (8, .c (.d (i64 k)))],
        [(64002, .var [.d (i64 p), .d (i64 d), .d (vTerms ts)]), (64003, .var [.d (i64 p2), .d (i64 d2), .d (vTerms us)]), (64004, .var [.d (i64 0), .d (i64 0), .ob 64005]), (64005, .arr 70 4 []),
          (64006, .var [.d (i64 p), .d (i64 d), .ob 64007]), (64007, .arr 70 4 (terms (mulRow p a r (us.take k))))]⟩)
      (fun k => k ≤ us.length) (fun k => us.length - k) 0 (by simp) (by simp [mulRow]) ?_
    intro k hk
    refine S 12 _ _ ?_
    simp
    refine ⟨fun hlt2 => ?_, fun hge2 => ?_⟩
    · obtain ⟨b, hb⟩ : ∃ b, us[k]? = some b := ⟨us[k], List.getElem?_eq_getElem hlt2⟩
      have hb0 := hu.2 b (List.mem_of_getElem? hb)
      have htl := Tell.row hp a (by omega) htell (us.take k) fun t h => can_nonneg hu t (List.mem_of_mem_take h)
      have hnx : mulRow p a r (us.take (k + 1)) = putT p (mulRow p a r (us.take k)) (addE a.e b.e) (a.v * b.v) := by
        rw [List.take_add_one, hb]; exact mulRow_snoc _ _ _ _ _
      generalize mulRow p a r (us.take k) = mt at htl hnx ⊢
      refine S 60 _ _ ?_
      simp
      refine J.dr3 hF mixed 13 [[], [0], [], [0, 1, 2], [0, 1, 2, 3], [], [5], [], [5, 6, 7], [5, 6, 7, 8], [], [], [0, 1, 2, 3, 4, 10, 11], [0, 1, 2, 3, 4, 5, 6, 7, 8, 9, 10, 11, 12]] [[48, 49, 50, 51, 52, 53, 54, 55, 56, 57, 9, 10], [49, 50, 51, 52, 53, 54, 55, 56, 57, 9, 10], [48, 49, 50, 51, 52, 53, 54, 55, 56, 57, 9, 10], [51, 52, 53, 54, 55, 56, 57, 9, 10], [52, 53, 54, 55, 56, 57, 9, 10], [48, 49, 50, 51, 52, 53, 54, 55, 56, 57, 9, 10], [48, 49, 50, 51, 52, 54, 55, 56, 57, 9, 10], [48, 49, 50, 51, 52, 53, 54, 55, 56, 57, 9, 10], [48, 49, 50, 51, 52, 56, 57, 9, 10], [48, 49, 50, 51, 52, 57, 9, 10], [48, 49, 50, 51, 52, 53, 54, 55, 56, 57, 9, 10], [48, 49, 50, 51, 52, 53, 54, 55, 56, 57, 9, 10], [53, 54, 55, 56, 57]] [[], [], [], [], [], [], [], [], [], [], [], [], [576]] [[], [], [], [], [], [576], [576], [576], [576], [576], [], [], []] [] [] (by decide) ?_
      rw [← List.take_append_drop 5 (List.take _ _)]
      generalize htl : List.drop 5 (List.take _ _) = tl
      simp
      refine ⟨hlt1, fun x hx => ?_⟩
      obtain rfl : a = x := Option.some.inj (ha.symm.trans hx)
      subst htl
      rw [← List.take_append_drop 5 (List.drop 5 _)]
      generalize htl : List.drop 5 (List.drop 5 _) = tl
      simp
      refine ⟨hlt2, fun x hx => ?_⟩
      obtain rfl : b = x := Option.some.inj (hb.symm.trans hx)
      subst htl
      simp
      have hcb := coef_bound hp htl.2.2.1 (addE a.e b.e)
      have hm : 0 ≤ a.v * b.v := Int.mul_nonneg (by omega) (by omega)
      have hm2 : a.v * b.v ≤ 13 * 13 := Int.mul_le_mul (by omega) (by omega) (by omega) (by omega)
      have hmm2 : mt.length ≤ 1000 * 1000 + 1000 := by
        have h1 := htl.2.2.2.1
        have h2 : (us.take k).length ≤ us.length := List.length_take_le' _ _
        omega
      have w1 : IntKind.i64.wrap (a.v * b.v) = a.v * b.v := wrap64 (by omega) (by omega)
      have c4 := l01Put_ok p d mt (addE a.e b.e) (a.v * b.v) (by omega) hp (by omega) (by omega) (by omega)
      simp only [addE] at c4 hnx
      refine S 60 _ _ ?_
      simp [w1]
      refine CallW.ok (by decide) (by simp) c4 (by simp) (S 60 _ _ ?_)
      simp
      exact Nxt.mk (k + 1) (by omega) (by simp [hnx, wrapS (i := k) (n := us.length) hlt2 (by omega)]) (by omega)
    · have e1 : us.take k = us := List.take_of_length_le hge2
      rw [e1]
      refine S 60 _ _ ?_
      simp
      exact Nxt.mk (i + 1) (by omega) (by simp [hnext, wrapS (i := i) (n := ts.length) hlt1 (by omega)]) (by omega)
  · have e1 : ts.take i = ts := List.take_of_length_le hge
    rw [e1]
    refine S 60 _ _ ?_
    simp

end Go.Sm

namespace Go.Sm
open Go.RowKit

@[simp] theorem argEs_take {α : Type} (f : α → List D) (xs : List α) (n : Nat) : argEs ((xs.map f).take n) = (xs.map fun x => argCs (f x)).take n := by rw [← List.map_take, argEs_map, List.map_take]
@[simp] theorem locEs_take {α : Type} (f : α → List D) (xs : List α) (n : Nat) : locEs ((xs.map f).take n) = (xs.map fun x => locCs (f x)).take n := by rw [← List.map_take, locEs_map, List.map_take]
@[simp] theorem freshEs_take {α : Type} (f : α → List D) (xs : List α) (n : Nat) : freshEs ((xs.map f).take n) = (xs.take n).all fun x => freshCs (f x) := by rw [← List.map_take, freshEs_map]
@[simp] theorem stOEs_take {α : Type} (f : α → List D) (xs : List α) (n : Nat) : stOEs ((xs.map f).take n) = (xs.take n).all fun x => stOCs (f x) := by rw [← List.map_take, stOEs_map]
@[simp] theorem okNo_take {α : Type} (f : α → List D) (xs : List α) (n : Nat) : okNo ((xs.map f).take n) = (xs.take n).all fun x => okNoC (f x) := by rw [← List.map_take, okNo_map]
@[simp] theorem argEs_drop {α : Type} (f : α → List D) (xs : List α) (n : Nat) : argEs ((xs.map f).drop n) = (xs.map fun x => argCs (f x)).drop n := by rw [← List.map_drop, argEs_map, List.map_drop]
@[simp] theorem locEs_drop {α : Type} (f : α → List D) (xs : List α) (n : Nat) : locEs ((xs.map f).drop n) = (xs.map fun x => locCs (f x)).drop n := by rw [← List.map_drop, locEs_map, List.map_drop]
@[simp] theorem freshEs_drop {α : Type} (f : α → List D) (xs : List α) (n : Nat) : freshEs ((xs.map f).drop n) = (xs.drop n).all fun x => freshCs (f x) := by rw [← List.map_drop, freshEs_map]
@[simp] theorem stOEs_drop {α : Type} (f : α → List D) (xs : List α) (n : Nat) : stOEs ((xs.map f).drop n) = (xs.drop n).all fun x => stOCs (f x) := by rw [← List.map_drop, stOEs_map]
@[simp] theorem okNo_drop {α : Type} (f : α → List D) (xs : List α) (n : Nat) : okNo ((xs.map f).drop n) = (xs.drop n).all fun x => okNoC (f x) := by rw [← List.map_drop, okNo_map]
@[simp] theorem drop_rest {α : Type} (f : α → List D) (xs : List α) (n : Nat) : ((xs.map f).drop n).take (xs.length - n) = (xs.map f).drop n := List.take_of_length_le (by simp)

/-! ### the program's -/
end Go.Sm

namespace Go.Sm
open Go.RowKit

/-! ### the reference's -/
end Go.Sm

namespace Go.Sm
open Go.RowKit

end Go.Sm
