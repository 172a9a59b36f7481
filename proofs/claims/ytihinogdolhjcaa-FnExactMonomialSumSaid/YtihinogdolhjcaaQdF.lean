/- Monomial sums of given exponents: the program's and the reference's. -/
import Derived.Test.YtihinogdolhjcaaQdC
namespace Go.Sm
open Go.RowKit

/-- The first i exponents. -/
def exP (xs : List Int) : Nat → Ex
  | 0 => ⟨0, 0, 0⟩
  | i + 1 => setE (exP xs i) i (by8 (xs[i]?.getD 0))
theorem exP_all : ∀ {xs : List Int}, 1 ≤ xs.length ∧ xs.length ≤ 3 → exP xs xs.length = exOf xs
  | [], h => by simp at h
  | [_], _ => rfl
  | [_, _], _ => rfl
  | [_, _, _], _ => rfl
  | _ :: _ :: _ :: _ :: _, h => by simp at h
theorem sum_nonneg : ∀ {xs : List Int}, (∀ x ∈ xs, 0 ≤ x) → 0 ≤ xs.sum
  | [], _ => by simp
  | x :: xs, h => by
    have h1 := h x (by simp)
    have h2 := sum_nonneg fun y (hy : y ∈ xs) => h y (by simp [hy])
    rw [List.sum_cons]; omega
theorem sum_mem : ∀ {xs : List Int} {x : Int}, (∀ x ∈ xs, 0 ≤ x) → x ∈ xs → x ≤ xs.sum
  | [], _, _, h => by cases h
  | y :: xs, x, h, hm => by
    have h1 := h y (by simp)
    have h2 := sum_nonneg fun y (hy : y ∈ xs) => h y (by simp [hy])
    rw [List.sum_cons]
    rcases List.mem_cons.1 hm with rfl | hm
    · omega
    · have := sum_mem (fun y (hy : y ∈ xs) => h y (by simp [hy])) hm
      omega
theorem sum_take {xs : List Int} {i : Nat} {a : Int} (h : xs[i]? = some a) : (xs.take (i + 1)).sum = (xs.take i).sum + a := by
  rw [List.take_add_one, h]; simp
theorem sum_take_le {xs : List Int} (h : ∀ x ∈ xs, 0 ≤ x) (i : Nat) : 0 ≤ (xs.take i).sum ∧ (xs.take i).sum ≤ xs.sum := by
  have h1 : 0 ≤ (xs.take i).sum := sum_nonneg fun x hx => h x (List.mem_of_mem_take hx)
  have h2 : 0 ≤ (xs.drop i).sum := sum_nonneg fun x hx => h x (List.mem_of_mem_drop hx)
  have h3 : xs.sum = (xs.take i).sum + (xs.drop i).sum := by rw [← List.sum_append, List.take_append_drop]
  omega

theorem sum_le12 : ∀ {xs : List Int}, (∀ x ∈ xs, x ≤ 12) → xs.sum ≤ 12 * xs.length
  | [], _ => by simp
  | x :: xs, h => by
    have h1 := h x (by simp)
    have h2 := sum_le12 fun y (hy : y ∈ xs) => h y (by simp [hy])
    rw [List.sum_cons, List.length_cons]; omega

def expCode (xs : List Int) : Int := if ∀ x ∈ xs, 0 ≤ x then (if xs.sum ≤ 12 then 0 else 3) else 2
def expE (xs : List Int) : Ex := if expCode xs = 0 then exOf xs else ⟨0, 0, 0⟩

set_option maxHeartbeats 1000000 in
theorem expsOf_ok (xs : List Int) (hl : 1 ≤ xs.length ∧ xs.length ≤ 3) : CallOK Go.Proofs.Try.prog 98 [.one (i64 xs.length), .one (vInts xs)] (.tup [(true, (expE xs).ds), (false, [i64 (expCode xs)])]) := by
  have hF := fnOk 50 [.cell 4 88, .tmp 5]
  refine callOK hF 60 Go.Proofs.Try.func98 rfl rfl rfl (by decide) (by simp) rfl ?_
  intro w0 hw
  have S := @vc_sound w0 _ hF ⟨(.tup [(true, (expE xs).ds), (false, [i64 (expCode xs)])]), []⟩ Go.Proofs.Try.f98 rfl (by simp)
  have hall := exP_all hl
  simp
  refine J.loop hw (fun i : Nat => ⟨[(0, .c (.d (i64 xs.length))), (1, .c (.d (vInts xs))), (4, .c (.ref 64004 0)), (6, .c (.ref 64006 0)), (7, .c (.d (i64 0))), (18, .c (.d (vInts xs))), (19, .c (.d (i64 xs.length))), (20, .c (.d (i64 i)))],
      [(64004, .var [.d (u8 0), .d (u8 0), .d (u8 0)]), (64006, .var [.d (u8 0), .d (u8 0), .d (u8 0)])]⟩)
    (fun i => i ≤ xs.length ∧ ∀ x ∈ xs.take i, 0 ≤ x) (fun i => xs.length - i) 0 (by simp) (by simp) ?_
  rintro i ⟨hi, hx⟩
  refine S 60 _ _ ?_
  simp
  refine ⟨fun hlt => ⟨hlt, fun a ha => ?_⟩, fun hge => ?_⟩
  · refine ⟨fun ha0 => ?_, fun ha0 => ?_⟩
    · have e : expCode xs = 2 := by unfold expCode; rw [if_neg (fun h => by have := h a (List.mem_of_getElem? ha); omega)]
      have e2 : expE xs = ⟨0, 0, 0⟩ := by unfold expE; rw [if_neg (by omega)]
      rw [e, e2]
      exact ⟨⟨rfl, rfl, rfl⟩, rfl⟩
    · refine Nxt.mk (i + 1) ⟨hlt, fun x hx' => ?_⟩ (by simp [wrapS (i := i) (n := xs.length) hlt (by omega)]) (by omega)
      rw [List.take_add_one, ha] at hx'
      simp only [Option.toList, List.mem_append, List.mem_singleton] at hx'
      rcases hx' with h' | rfl
      · exact hx x h'
      · omega
  · have e1 : xs.take i = xs := List.take_of_length_le hge
    rw [e1] at hx
    refine J.loop hw (fun i : Nat => ⟨[(0, .c (.d (i64 xs.length))), (1, .c (.d (vInts xs))), (4, .c (.ref 64004 0)), (6, .c (.ref 64006 0)), (7, .c (.d (i64 (xs.take i).sum))), (28, .c (.d (vInts xs))), (29, .c (.d (i64 xs.length))), (30, .c (.d (i64 i)))],
        [(64004, .var [.d (u8 0), .d (u8 0), .d (u8 0)]), (64006, .var [.d (u8 (exP xs i).a), .d (u8 (exP xs i).b), .d (u8 (exP xs i).c)])]⟩)
      (fun i => i ≤ xs.length ∧ ∀ x ∈ xs.take i, x ≤ 12) (fun i => xs.length - i) 0 (by simp) (by simp [exP]) ?_
    rintro i ⟨hi, hy⟩
    refine S 8 _ _ ?_
    simp
    refine ⟨fun hlt => ?_, fun hge => ?_⟩
    · refine S 6 _ _ ?_
      simp
      refine ⟨hlt, fun a ha => ?_⟩
      have ha0 := hx a (List.mem_of_getElem? ha)
      by_cases ha12 : 12 < a
      · have e : expCode xs = 3 := by unfold expCode; rw [if_pos hx, if_neg (by have := sum_mem hx (List.mem_of_getElem? ha); omega)]
        have e2 : expE xs = ⟨0, 0, 0⟩ := by unfold expE; rw [if_neg (by omega)]
        rw [e, e2] at S ⊢
        refine S 60 _ _ ?_
        simp [ha12]
      · have hn : exP xs (i + 1) = setE (exP xs i) i (by8 a) := by rw [exP, ha]; rfl
        have hsum := sum_take ha
        have hb := sum_take_le hx i
        have hb2 := sum_le12 hy
        rw [List.length_take] at hb2
        have hw1 : IntKind.i64.wrap ((xs.take i).sum + a) = (xs.take i).sum + a := wrap64 (by omega) (by omega)
        have hy' : ∀ x ∈ xs.take (i + 1), x ≤ 12 := fun x hx' => by
          rw [List.take_add_one, ha] at hx'
          simp only [Option.toList, List.mem_append, List.mem_singleton] at hx'
          rcases hx' with h' | rfl
          · exact hy x h'
          · omega
        generalize exP xs i = x at hn ⊢
        generalize (xs.take i).sum = s at hsum hw1 ⊢
        have hi3 : i = 0 ∨ i = 1 ∨ i = 2 := by omega
        rcases hi3 with rfl | rfl | rfl
        all_goals
          simp only [setE] at hn
          refine S 60 _ _ ?_
          simp [ha12]
        · exact Nxt.mk 1 ⟨hlt, hy'⟩ (by simp [hn, hsum, hw1]) (by omega)
        · exact Nxt.mk 2 ⟨hlt, hy'⟩ (by simp [hn, hsum, hw1]) (by omega)
        · exact Nxt.mk 3 ⟨hlt, hy'⟩ (by simp [hn, hsum, hw1]) (by omega)
    · have : i = xs.length := by omega
      subst this
      rw [List.take_length, hall]
      by_cases h12 : 12 < xs.sum
      · have e : expCode xs = 3 := by unfold expCode; rw [if_pos hx, if_neg (by omega)]
        have e2 : expE xs = ⟨0, 0, 0⟩ := by unfold expE; rw [if_neg (by omega)]
        rw [e, e2] at S ⊢
        refine S 60 _ _ ?_
        simp [h12]
      · have e : expCode xs = 0 := by unfold expCode; rw [if_pos hx, if_pos (by omega)]
        have e2 : expE xs = exOf xs := by unfold expE; rw [if_pos e]
        rw [e, e2] at S ⊢
        refine S 60 _ _ ?_
        simp [h12]

def msumR (p : Int) (xs : List Int) : RV :=
  if Pr p ∧ 1 ≤ xs.length ∧ xs.length ≤ 3 then (if expCode xs = 0 then pres p xs.length (ofSum p (sumOf (permsE xs.length (exOf xs)))) 0 else pres 0 0 [] (expCode xs)) else pres 0 0 [] 2
theorem msumR_small (p : Int) (xs : List Int) : PresS (msumR p xs) := by
  unfold msumR
  split
  · rename_i h
    split
    · exact ⟨_, _, _, _, rfl, permsE_small p h.1.pos.1 _ _⟩
    · exact ⟨_, _, _, _, rfl, by simp⟩
  · exact ⟨_, _, _, _, rfl, by simp⟩

theorem MonomialSum_ok (p : Int) (xs : List Int) (_ : xs.length ≤ 1048576) : CallOK Go.Proofs.Try.prog 45 [.one (i64 p), .one (vInts xs)] (msumR p xs) := by
  have hF := fnOk 34 [.cell 4 39, .tmp 5]
  refine callOK hF 60 Go.Proofs.Try.func45 rfl rfl rfl (by decide) (by simp) rfl ?_
  intro w0 hw
  have S := @vc_sound w0 _ hF ⟨(msumR p xs), []⟩ Go.Proofs.Try.f45 rfl (by simp)
  have c1 := isPrime_ok p
  have c2 := isVars_ok xs.length
  by_cases hp : Pr p
  · rw [decide_eq_true hp] at c1
    by_cases hd : 1 ≤ xs.length ∧ xs.length ≤ 3
    · have hd2 : 1 ≤ (xs.length : Int) ∧ (xs.length : Int) ≤ 3 := by omega
      rw [decide_eq_true hd2] at c2
      have hpp := hp.pos
      have c3 := expsOf_ok xs hd
      have e : msumR p xs = (if expCode xs = 0 then pres p xs.length (ofSum p (sumOf (permsE xs.length (exOf xs)))) 0 else pres 0 0 [] (expCode xs)) := by unfold msumR; rw [if_pos ⟨hp, hd⟩]
      rw [e] at S ⊢
      by_cases h0 : expCode xs = 0
      · have e2 : expE xs = exOf xs := by unfold expE; rw [if_pos h0]
        have c4 := monomialSum_ok p xs.length (exOf xs) (by omega) (by omega) hd
        rw [h0, e2] at c3
        rw [if_pos h0] at S ⊢
        simp
        refine CallW.ok (by decide) (by simp) c1 (by simp) (S 60 _ _ ?_)
        simp
        refine CallW.ok (by decide) (by simp) c2 (by simp) (S 60 _ _ ?_)
        simp
        refine CallW.ok (by decide) (by simp) c3 (by simp) (S 60 _ _ ?_)
        simp
        refine CallW.ok (by decide) (by simp) c4 (by simp) (S 60 _ _ ?_)
        simp
      · rw [if_neg h0] at S ⊢
        generalize expCode xs = ec at *
        simp
        refine CallW.ok (by decide) (by simp) c1 (by simp) (S 60 _ _ ?_)
        simp
        refine CallW.ok (by decide) (by simp) c2 (by simp) (S 60 _ _ ?_)
        simp
        refine CallW.ok (by decide) (by simp) c3 (by simp) (S 60 _ _ ?_)
        simp [h0]
    · have hd2 : ¬ (1 ≤ (xs.length : Int) ∧ (xs.length : Int) ≤ 3) := by omega
      rw [decide_eq_false hd2] at c2
      have e : msumR p xs = pres 0 0 [] 2 := by unfold msumR; rw [if_neg (fun h => hd h.2)]
      rw [e] at S ⊢
      simp
      refine CallW.ok (by decide) (by simp) c1 (by simp) (S 60 _ _ ?_)
      simp
      refine CallW.ok (by decide) (by simp) c2 (by simp) (S 60 _ _ ?_)
      simp
  · have e : msumR p xs = pres 0 0 [] 2 := by unfold msumR; rw [if_neg (fun h => hp h.1)]
    rw [e] at S ⊢
    rw [decide_eq_false hp] at c1
    simp
    refine CallW.ok (by decide) (by simp) c1 (by simp) (S 60 _ _ ?_)
    simp

/-- The sum of the first i, kept at most 100. -/
def sat (xs : List Int) : Nat → Int
  | 0 => 0
  | i + 1 => min (sat xs i + min (xs[i]?.getD 0) 100) 100
theorem sat_eq {xs : List Int} : ∀ {i : Nat}, (∀ x ∈ xs.take i, 0 ≤ x) → sat xs i = min (xs.take i).sum 100
  | 0, _ => by simp [sat]; omega
  | i + 1, h => by
    have ih := sat_eq (xs := xs) (i := i) fun x hx => h x ((List.take_prefix_take_left (by omega)).subset hx)
    have h0 := sum_nonneg h
    have h1 : 0 ≤ (xs.take i).sum := sum_nonneg fun x hx => h x ((List.take_prefix_take_left (by omega)).subset hx)
    cases ha : xs[i]? with
    | none =>
      have : xs.take (i + 1) = xs.take i := by rw [List.take_add_one, ha]; simp
      rw [sat, ih, ha, this]
      simp only [Option.getD_none]; omega
    | some a =>
      have := sum_take ha
      have ha0 : 0 ≤ a := h a (by rw [List.take_add_one, ha]; simp)
      rw [sat, ih, ha, this]
      simp only [Option.getD_some]; omega

set_option maxHeartbeats 1000000 in
theorem specMonomialSum_ok (p : Int) (xs : List Int) (_ : xs.length ≤ 1048576) : CallOK Go.Proofs.Try.prog 44 [.one (i64 p), .one (vInts xs)] (msumR p xs) := by
  have hF := fnOk 40 [.cell 4 39, .tmp 5]
  refine callOK hF 60 Go.Proofs.Try.func44 rfl rfl rfl (by decide) (by simp) rfl ?_
  intro w0 hw
  have S := @vc_sound w0 _ hF ⟨(msumR p xs), []⟩ Go.Proofs.Try.f44 rfl (by simp)
  have c1 := l08Shape_ok p xs.length
  by_cases hp : Pr p ∧ 1 ≤ (xs.length : Int) ∧ (xs.length : Int) ≤ 3
  · rw [decide_eq_true hp] at c1
    have hd : 1 ≤ xs.length ∧ xs.length ≤ 3 := by omega
    have hpp := hp.1.pos
    have e : msumR p xs = (if expCode xs = 0 then pres p xs.length (ofSum p (sumOf (permsE xs.length (exOf xs)))) 0 else pres 0 0 [] (expCode xs)) := by unfold msumR; rw [if_pos ⟨hp.1, hd⟩]
    have c2 := l08Sum_ok p xs (by omega) (by omega) hd
    rw [e] at S ⊢
    simp
    refine CallW.ok (by decide) (by simp) c1 (by simp) (S 60 _ _ ?_)
    simp
    refine J.loop hw (fun i : Nat => ⟨[(0, .c (.d (i64 p))), (1, .c (.d (vInts xs))), (4, .c (.ref 64004 0)), (6, .c (.d (i64 (sat xs i)))), (7, .c (.d (i64 i)))],
        [(64004, .var [.d (i64 0), .d (i64 0), .ob 64005]), (64005, .arr 108 4 [])]⟩)
      (fun i => i ≤ xs.length ∧ ∀ x ∈ xs.take i, 0 ≤ x) (fun i => xs.length - i) 0 (by simp) (by simp [sat]) ?_
    rintro i ⟨hi, hx⟩
    refine S 10 _ _ ?_
    simp
    refine ⟨fun hlt => ?_, fun hge => ?_⟩
    · refine S 8 _ _ ?_
      simp
      refine ⟨hlt, fun a ha => ?_⟩
      by_cases ha0 : a < 0
      · have e0 : expCode xs = 2 := by unfold expCode; rw [if_neg (fun h => by have := h a (List.mem_of_getElem? ha); omega)]
        rw [if_neg (by omega), e0] at S ⊢
        refine S 60 _ _ ?_
        simp [ha0]
      · have hsat : sat xs (i + 1) = min (sat xs i + min a 100) 100 := by rw [sat, ha]; rfl
        have h1 := sat_eq hx
        have h2 : 0 ≤ (xs.take i).sum := sum_nonneg hx
        have hw1 : IntKind.i64.wrap (sat xs i + min a 100) = sat xs i + min a 100 := wrap64 (by omega) (by omega)
        refine S 16 _ _ ?_
        simp [ha0]
        refine ⟨hlt, fun b hb => ?_⟩
        obtain rfl : a = b := Option.some.inj (ha.symm.trans hb)
        have hm : (if 100 < a then 100 else a) = min a 100 := by split <;> omega
        have hfin : (if 100 < IntKind.i64.wrap (sat xs i + if 100 < a then 100 else a) then 100 else IntKind.i64.wrap (sat xs i + if 100 < a then 100 else a)) = sat xs (i + 1) := by
          rw [hm, hw1, hsat]; split <;> omega
        rw [hfin]
        refine S 60 _ _ ?_
        simp
        refine Nxt.mk (i + 1) ⟨hlt, fun x hx' => ?_⟩ (by simp [wrapS (i := i) (n := xs.length) hlt (by omega)]) (by omega)
        rw [List.take_add_one, ha] at hx'
        simp only [Option.toList, List.mem_append, List.mem_singleton] at hx'
        rcases hx' with h' | rfl
        · exact hx x h'
        · omega
    · have e1 : xs.take i = xs := List.take_of_length_le hge
      have h1 := sat_eq hx
      rw [e1] at hx h1
      by_cases h12 : xs.sum ≤ 12
      · have e0 : expCode xs = 0 := by unfold expCode; rw [if_pos hx, if_pos h12]
        rw [if_pos e0] at S ⊢
        have h2 : ¬ 12 < sat xs i := by omega
        generalize sat xs i = s at *
        refine S 60 _ _ ?_
        simp [h2]
        refine CallW.ok (by decide) (by simp) c2 (by simp) (S 60 _ _ ?_)
        simp
      · have e0 : expCode xs = 3 := by unfold expCode; rw [if_pos hx, if_neg h12]
        rw [if_neg (by omega), e0] at S ⊢
        have h2 : 12 < sat xs i := by omega
        generalize sat xs i = s at *
        refine S 60 _ _ ?_
        simp [h2]
  · have e : msumR p xs = pres 0 0 [] 2 := by unfold msumR; rw [if_neg (fun h => hp ⟨h.1, by omega, by omega⟩)]
    rw [e] at S ⊢
    rw [decide_eq_false hp] at c1
    simp
    refine CallW.ok (by decide) (by simp) c1 (by simp) (S 60 _ _ ?_)
    simp

end Go.Sm
