/- The enumerator: the program's and the reference's. -/
import Derived.Test.YtihinogdolhjcaaQcB
import Derived.Test.YtihinogdolhjcaaSpB
namespace Go.Sm
open Go.RowKit

def eK (n k : Nat) : Ex := ⟨by8 ((n : Int) - k), by8 k, 0⟩
def enS (q : Int) (xs : List Int) (n : Nat) : Nat → List (Ex × Int)
  | 0 => []
  | k + 1 => sput (enS q xs n k) (eK n k) ((xs[k]?.getD 0).tmod q)
def enT (q : Int) (xs : List Int) (n : Nat) : Nat → List Tm
  | 0 => []
  | k + 1 => if (xs[k]?.getD 0).tmod q = 0 then enT q xs n k else putT q (enT q xs n k) (eK n k) ((xs[k]?.getD 0).tmod q)
theorem eK_ne {n k j : Nat} (hk : k < 256) (hj : j < 256) (h : j ≠ k) : eK n j ≠ eK n k := by
  intro e
  have : by8 (j : Int) = by8 (k : Int) := congrArg Ex.b e
  have := congrArg UInt8.toNat this
  rw [by8_nat hj, by8_nat hk] at this
  exact h this
theorem en_ok {q : Int} {xs : List Int} {n : Nat} (hq : 2 ≤ q) (hn : n ≤ 10) (hx : ∀ x ∈ xs, 0 ≤ x) : ∀ k, k ≤ n + 1 →
    ((enS q xs n k).map (·.1)).Nodup ∧ (enS q xs n k).length ≤ k ∧ Can q (enT q xs n k) ∧ (enT q xs n k).length ≤ k ∧ (∀ e, coef (enT q xs n k) e = sget (enS q xs n k) e % q) ∧ ∀ j, k ≤ j → j ≤ n → sget (enS q xs n k) (eK n j) = 0 := by
  intro k
  induction k with
  | zero => intro _; exact ⟨by simp [enS], by simp [enS], can_nil q, by simp [enT], fun e => by simp [enS, enT, coef, sget], fun j _ _ => by simp [enS, sget]⟩
  | succ k ih =>
    intro hk
    obtain ⟨h1, h2, h3, h4, h5, h6⟩ := ih (by omega)
    have hv : 0 ≤ (xs[k]?.getD 0).tmod q ∧ (xs[k]?.getD 0).tmod q < q := by
      have : 0 ≤ xs[k]?.getD 0 := by
        cases h : xs[k]? with
        | none => simp
        | some a => exact hx a (List.mem_of_getElem? h)
      rw [Int.tmod_eq_emod_of_nonneg this]
      exact ⟨Int.emod_nonneg _ (by omega), Int.emod_lt_of_pos _ (by omega)⟩
    simp only [enS, enT]
    generalize (xs[k]?.getD 0).tmod q = v at hv ⊢
    have hz : sget (enS q xs n k) (eK n k) = 0 := h6 k (by omega) (by omega)
    have hc : coef (enT q xs n k) (eK n k) = 0 := by rw [h5, hz]; simp
    have hl := sput_length (enS q xs n k) (eK n k) v
    refine ⟨sput_nodup h1 _ _, by omega, ?_⟩
    have h7 : ∀ j, k + 1 ≤ j → j ≤ n → sget (sput (enS q xs n k) (eK n k) v) (eK n j) = 0 := fun j hj hjn => by
      rw [sget_sput, if_neg (eK_ne (by omega) (by omega) (by omega))]
      exact h6 j (by omega) hjn
    by_cases h0 : v = 0
    · rw [if_pos h0]
      refine ⟨h3, by omega, fun e => ?_, h7⟩
      rw [sget_sput, h5]
      split
      · rename_i he; rw [he, hz, h0]
      · rfl
    · rw [if_neg h0]
      obtain ⟨k1, k2⟩ := putT_can (p := q) (by omega) h3 (eK n k) v
      have := putT_length q (enT q xs n k) (eK n k) v
      refine ⟨k1, by omega, fun e => ?_, h7⟩
      rw [k2, sget_sput, hc]
      split
      · simp
      · exact h5 e
theorem en_eq {q : Int} {xs : List Int} {n : Nat} (hq : 2 ≤ q) (hn : n ≤ 10) (hx : ∀ x ∈ xs, 0 ≤ x) : ofSum q (enS q xs n (n + 1)) = enT q xs n (n + 1) := by
  obtain ⟨h1, _, h3, _, h5, _⟩ := en_ok hq hn hx (n + 1) (by omega)
  obtain ⟨k1, k2⟩ := ofSum_can (p := q) (by omega) h1
  exact can_ext k1 h3 fun e => by rw [k2, h5]

def enumR (q : Int) (xs : List Int) : RV := if Pr q ∧ Cnt xs then pres q 2 (enT q xs (xs.length - 1) xs.length) 0 else pres 0 0 [] 2
theorem enumR_small (q : Int) (xs : List Int) : PresS (enumR q xs) := by
  unfold enumR
  split
  · rename_i h
    obtain ⟨h1, h2, h3⟩ := h.2
    refine ⟨_, _, _, _, rfl, ?_⟩
    have := (en_ok (n := xs.length - 1) h.1.pos.1 (by omega) (fun x hx => (h1 x hx).1) xs.length (by omega)).2.2.2.1
    omega
  · exact ⟨_, _, _, _, rfl, by simp⟩

set_option maxHeartbeats 1000000 in
theorem EnumeratorOf_ok (q : Int) (xs : List Int) (hl : xs.length ≤ 1048576) : CallOK Go.Proofs.Try.prog 33 [.one (i64 q), .one (vInts xs)] (enumR q xs) := by
  have hF := fnOk 45 [.cell 4 39, .tmp 5]
  refine callOK hF 60 Go.Proofs.Try.func33 rfl rfl rfl (by decide) (by simp) rfl ?_
  intro w0 hw
  have S := @vc_sound w0 _ hF ⟨(enumR q xs), []⟩ Go.Proofs.Try.f33 rfl (by simp)
  have c1 := isPrime_ok q
  have c2 := areCounts_ok xs hl
  by_cases hp : Pr q
  · by_cases hd : Cnt xs
    · have hpp := hp.pos
      obtain ⟨x1, x2, x3⟩ := id hd
      have hlen : xs.length - 1 + 1 = xs.length := by omega
      have e : enumR q xs = pres q 2 (ofSum q (enS q xs (xs.length - 1) xs.length)) 0 := by
        have := en_eq (n := xs.length - 1) hpp.1 (by omega) fun x hx => (x1 x hx).1
        rw [hlen] at this
        unfold enumR; rw [if_pos ⟨hp, hd⟩, this]
      rw [e] at S ⊢
      rw [decide_eq_true hp] at c1
      rw [decide_eq_true hd] at c2
      simp
      refine CallW.ok (by decide) (by simp) c1 (by simp) (S 60 _ _ ?_)
      simp
      refine CallW.ok (by decide) (by simp) c2 (by simp) (S 60 _ _ ?_)
      simp
      have hw0 : IntKind.i64.wrap ((xs.length : Int) - 1) = ((xs.length - 1 : Nat) : Int) := by rw [wrap64] <;> omega
      have key : ∀ i, i < xs.length → IntKind.i64.wrap (((xs.length - 1 : Nat) : Int) - i) = ((xs.length - 1 : Nat) : Int) - i := fun i hi => wrap64 (by omega) (by omega)
      generalize hn : xs.length - 1 = n at *
      refine J.loop hw (fun i : Nat => ⟨[(0, .c (.d (i64 q))), (1, .c (.d (vInts xs))), (4, .c (.ref 64004 0)), (6, .c (.ob 64006)), (7, .c (.d (i64 n))), (23, .c (.d (vInts xs))), (24, .c (.d (i64 xs.length))), (25, .c (.d (i64 i)))],
          [(64004, .var [.d (i64 0), .d (i64 0), .ob 64005]), (64005, .arr 108 4 []), (64006, .mp (sumM (enS q xs n i)))]⟩)
        (fun i => i ≤ xs.length) (fun i => xs.length - i) 0 (by simp) (by simp [enS, hw0]) ?_
      intro i hi
      refine S 8 _ _ ?_
      simp
      refine ⟨fun hlt => ?_, fun hge => ?_⟩
      · refine S 60 _ _ ?_
        simp
        refine ⟨hlt, fun a ha => ⟨by omega, ?_⟩⟩
        have hs : enS q xs n (i + 1) = sput (enS q xs n i) (eK n i) (a.tmod q) := by rw [enS, ha]; rfl
        have hm : mpPut ((enS q xs n i).map fun p => sumE p) [((by8 ((n : Int) - i)).toNat : Int), (by8 i).toNat, 0] (.int .i64 (a.tmod q)) = (enS q xs n (i + 1)).map fun p => sumE p := by
          rw [hs]; simpa [exK, eK] using mpPut_sum (enS q xs n i) (eK n i) (a.tmod q)
        simp only [key i hlt]
        exact Nxt.mk (i + 1) (by omega) (by simp [hm, wrapS (i := i) (n := xs.length) hlt (by omega)]) (by omega)
      · have : i = xs.length := by omega
        subst this
        obtain ⟨g1, g2, _⟩ := en_ok (n := n) hpp.1 (by omega) (fun x hx => (x1 x hx).1) xs.length (by omega)
        refine S 60 _ _ ?_
        simp
        refine CallW.ok (by decide) (by simp) (poly_ok q 2 (enS q xs n xs.length) (by omega) g1 (by omega) (by omega)) (by simp) (S 60 _ _ ?_)
        simp
    · have e : enumR q xs = pres 0 0 [] 2 := by unfold enumR; rw [if_neg (fun h => hd h.2)]
      rw [e] at S ⊢
      rw [decide_eq_true hp] at c1
      rw [decide_eq_false hd] at c2
      simp
      refine CallW.ok (by decide) (by simp) c1 (by simp) (S 60 _ _ ?_)
      simp
      refine CallW.ok (by decide) (by simp) c2 (by simp) (S 60 _ _ ?_)
      simp
  · have e : enumR q xs = pres 0 0 [] 2 := by unfold enumR; rw [if_neg (fun h => hp h.1)]
    rw [e] at S ⊢
    rw [decide_eq_false hp] at c1
    simp
    refine CallW.ok (by decide) (by simp) c1 (by simp) (S 60 _ _ ?_)
    simp

set_option maxHeartbeats 1000000 in
set_option maxRecDepth 4000 in
theorem specEnumeratorOf_ok (q : Int) (xs : List Int) (hl : xs.length ≤ 1048576) : CallOK Go.Proofs.Try.prog 32 [.one (i64 q), .one (vInts xs)] (enumR q xs) := by
  have hF := fnOk 51 [.cell 4 39, .tmp 5]
  refine callOK hF 60 Go.Proofs.Try.func32 rfl rfl rfl (by decide) (by simp) rfl ?_
  intro w0 hw
  have S := @vc_sound w0 _ hF ⟨(enumR q xs), []⟩ Go.Proofs.Try.f32 rfl (by simp)
  have c1 := l01Prime_ok q
  have c2 := l10Counts_ok xs hl
  by_cases hp : Pr q
  · by_cases hd : Cnt xs
    · have hpp := hp.pos
      obtain ⟨x1, x2, x3⟩ := id hd
      have hlen : xs.length - 1 + 1 = xs.length := by omega
      have e : enumR q xs = pres q 2 (enT q xs (xs.length - 1) xs.length) 0 := by unfold enumR; rw [if_pos ⟨hp, hd⟩]
      rw [e] at S ⊢
      rw [decide_eq_true hp] at c1
      rw [decide_eq_true hd] at c2
      have c3 := l01Empty_ok q 2
      simp
      refine CallW.ok (by decide) (by simp) c1 (by simp) (S 60 _ _ ?_)
      simp
      refine CallW.ok (by decide) (by simp) c2 (by simp) (S 60 _ _ ?_)
      simp
      refine CallW.ok (by decide) (by simp) c3 (by simp) (S 60 _ _ ?_)
      simp
      have hw0 : IntKind.i64.wrap ((xs.length : Int) - 1) = ((xs.length - 1 : Nat) : Int) := by rw [wrap64] <;> omega
      have key : ∀ i, i < xs.length → IntKind.i64.wrap (((xs.length - 1 : Nat) : Int) - i) = ((xs.length - 1 : Nat) : Int) - i := fun i hi => wrap64 (by omega) (by omega)
      generalize hn : xs.length - 1 = n at *
      refine J.loop hw (fun i : Nat => ⟨[(0, .c (.d (i64 q))), (1, .c (.d (vInts xs))), (4, .c (.ref 64004 0)), (6, .c (.d (i64 n))), (7, .c (.ref 64007 0)), (8, .c (.d (i64 i)))],
          [(64004, .var [.d (i64 0), .d (i64 0), .ob 64005]), (64005, .arr 108 4 []), (64007, .var [.d (i64 q), .d (i64 2), .ob 64008]), (64008, .arr 108 4 (terms (enT q xs n i)))]⟩)
        (fun i => i ≤ xs.length) (fun i => xs.length - i) 0 (by simp) (by simp [enT, hw0]) ?_
      intro i hi
      refine S 10 _ _ ?_
      simp
      refine ⟨fun hlt => ?_, fun hge => ?_⟩
      · refine S 14 _ _ ?_
        simp
        obtain ⟨g1, g2, g3, g4, _, g6⟩ := en_ok (n := n) hpp.1 (by omega) (fun x hx => (x1 x hx).1) i (by omega)
        have hb := coef_bound (show 0 < q by omega) g3 (eK n i)
        refine ⟨by omega, fun a ha => ⟨by omega, fun h0 => ?_, fun h0 => ?_⟩⟩
        · have hs : enT q xs n (i + 1) = putT q (enT q xs n i) (eK n i) (a.tmod q) := by rw [enT, ha, Option.getD_some, if_neg h0]
          have hr := tmod_range a q (by omega)
          have c4 := l01Put_ok q 2 (enT q xs n i) (eK n i) (a.tmod q) (by omega) (by omega) (by omega) (by omega) (by omega)
          refine J.dr hF mixed 14 [[], [], [], [1, 2], [1, 2, 3], [], [5], [1, 2, 3, 4, 5, 6], [], [], [8, 9], [8, 9, 10], [], [8, 9, 10, 11, 12], [0, 1, 2, 3, 4, 5, 6, 7, 8, 9, 10, 11, 12, 13], [0, 1, 2, 3, 4, 5, 6, 7, 8, 9, 10, 11, 12, 13, 14]] [[35, 36, 37, 38, 39, 40, 41, 42, 43, 44, 45, 46, 47, 48], [35, 36, 37, 38, 39, 40, 41, 42, 43, 44, 45, 46, 47, 48], [35, 36, 37, 38, 39, 40, 41, 42, 43, 44, 45, 46, 47, 48], [35, 38, 39, 40, 41, 42, 43, 44, 45, 46, 47, 48], [35, 39, 40, 41, 42, 43, 44, 45, 46, 47, 48], [35, 36, 37, 38, 39, 40, 41, 42, 43, 44, 45, 46, 47, 48], [35, 36, 37, 38, 39, 41, 42, 43, 44, 45, 46, 47, 48], [35, 42, 43, 44, 45, 46, 47, 48], [35, 36, 37, 38, 39, 40, 41, 42, 43, 44, 45, 46, 47, 48], [35, 36, 37, 38, 39, 40, 41, 42, 43, 44, 45, 46, 47, 48], [35, 36, 37, 38, 39, 40, 41, 42, 45, 46, 47, 48], [35, 36, 37, 38, 39, 40, 41, 42, 46, 47, 48], [35, 36, 37, 38, 39, 40, 41, 42, 43, 44, 45, 46, 47, 48], [35, 36, 37, 38, 39, 40, 41, 42, 48]] (by decide) ?_
          simp
          refine ⟨by omega, fun b hb => ?_⟩
          obtain rfl : a = b := Option.some.inj (ha.symm.trans hb)
          simp [key i (by omega)]
          refine ⟨by omega, S 60 _ _ ?_⟩
          simp
          refine CallW.ok (by decide) (by simp [eK]) c4 (by simp) (S 60 _ _ ?_)
          simp
          exact Nxt.mk (i + 1) (by omega) (by simp [hs, wrapS (i := i) (n := xs.length) (by omega) (by omega)]) (by omega)
        · have hs : enT q xs n (i + 1) = enT q xs n i := by rw [enT, ha, Option.getD_some, if_pos h0]
          refine S 60 _ _ ?_
          simp
          exact Nxt.mk (i + 1) (by omega) (by simp [hs, wrapS (i := i) (n := xs.length) (by omega) (by omega)]) (by omega)
      · have : i = xs.length := by omega
        subst this
        refine S 60 _ _ ?_
        simp
    · have e : enumR q xs = pres 0 0 [] 2 := by unfold enumR; rw [if_neg (fun h => hd h.2)]
      rw [e] at S ⊢
      rw [decide_eq_true hp] at c1
      rw [decide_eq_false hd] at c2
      simp
      refine CallW.ok (by decide) (by simp) c1 (by simp) (S 60 _ _ ?_)
      simp
      refine CallW.ok (by decide) (by simp) c2 (by simp) (S 60 _ _ ?_)
      simp
  · have e : enumR q xs = pres 0 0 [] 2 := by unfold enumR; rw [if_neg (fun h => hp h.1)]
    rw [e] at S ⊢
    rw [decide_eq_false hp] at c1
    simp
    refine CallW.ok (by decide) (by simp) c1 (by simp) (S 60 _ _ ?_)
    simp

end Go.Sm
