/- Towards the rows of this seat: what the functions do, as contracts over plain data. -/
import Derived.Test.YtkoaodnabmmddaaPk15
namespace Go.Sm
open Go.RowKit

/-- The first i exponents. -/
def exP (xs : List Int) : Nat → Ex
  | 0 => ⟨0, 0, 0⟩
  | i + 1 => setE (exP xs i) i (by8 (xs[i]?.getD 0))
theorem exP_all : ∀ {xs : List Int}, 1 ≤ xs.length ∧ xs.length ≤ 3 → exP xs xs.length = exOf xs
  | [], h => by simp at h
  | [_], _ => rfl
  | [_, _], _ => rfl
  | [_, _, _], _ => rfl
  | _ :: _ :: _ :: _ :: _, h => by simp at h
theorem sum_nonneg : ∀ {xs : List Int}, (∀ x ∈ xs, 0 ≤ x) → 0 ≤ xs.sum
  | [], _ => by simp
  | x :: xs, h => by
    have h1 := h x (by simp)
    have h2 := sum_nonneg fun y (hy : y ∈ xs) => h y (by simp [hy])
    rw [List.sum_cons]; omega
theorem sum_mem : ∀ {xs : List Int} {x : Int}, (∀ x ∈ xs, 0 ≤ x) → x ∈ xs → x ≤ xs.sum
  | [], _, _, h => by cases h
  | y :: xs, x, h, hm => by
    have h1 := h y (by simp)
    have h2 := sum_nonneg fun y (hy : y ∈ xs) => h y (by simp [hy])
    rw [List.sum_cons]
    rcases List.mem_cons.1 hm with rfl | hm
    · omega
    · have := sum_mem (fun y (hy : y ∈ xs) => h y (by simp [hy])) hm
      omega
theorem sum_take {xs : List Int} {i : Nat} {a : Int} (h : xs[i]? = some a) : (xs.take (i + 1)).sum = (xs.take i).sum + a := by
  rw [List.take_add_one, h]; simp
theorem sum_take_le {xs : List Int} (h : ∀ x ∈ xs, 0 ≤ x) (i : Nat) : 0 ≤ (xs.take i).sum ∧ (xs.take i).sum ≤ xs.sum := by
  have h1 : 0 ≤ (xs.take i).sum := sum_nonneg fun x hx => h x (List.mem_of_mem_take hx)
  have h2 : 0 ≤ (xs.drop i).sum := sum_nonneg fun x hx => h x (List.mem_of_mem_drop hx)
  have h3 : xs.sum = (xs.take i).sum + (xs.drop i).sum := by rw [← List.sum_append, List.take_append_drop]
  omega

theorem sum_le12 : ∀ {xs : List Int}, (∀ x ∈ xs, x ≤ 12) → xs.sum ≤ 12 * xs.length
  | [], _ => by simp
  | x :: xs, h => by
    have h1 := h x (by simp)
    have h2 := sum_le12 fun y (hy : y ∈ xs) => h y (by simp [hy])
    rw [List.sum_cons, List.length_cons]; omega

def expCode (xs : List Int) : Int := if ∀ x ∈ xs, 0 ≤ x then (if xs.sum ≤ 12 then 0 else 3) else 2
def expE (xs : List Int) : Ex := if expCode xs = 0 then exOf xs else ⟨0, 0, 0⟩

set_option maxHeartbeats 1000000 in
theorem expsOf_ok (xs : List Int) (hl : 1 ≤ xs.length ∧ xs.length ≤ 3) : CallOK Go.Proofs.Try.prog 105 [.one (i64 xs.length), .one (vInts xs)] (.tup [(true, (expE xs).ds), (false, [i64 (expCode xs)])]) := by
  have hF := fnOk 50 [.cell 4 107, .tmp 5]
  refine callOK hF 60 Go.Proofs.Try.func105 rfl rfl rfl (by decide) (by simp) rfl ?_
  intro w0 hw
  have S := @vc_sound w0 _ hF ⟨(.tup [(true, (expE xs).ds), (false, [i64 (expCode xs)])]), []⟩ Go.Proofs.Try.f105 rfl (by simp)
  have hall := exP_all hl
  simp
  refine J.loop hw (fun i : Nat => ⟨[(0, .c (.d (i64 xs.length))), (1, .c (.d (vInts xs))), (4, .c (.ref 64004 0)), (6, .c (.ref 64006 0)), (7, .c (.d (i64 0))), (18, .c (.d (vInts xs))), (19, .c (.d (i64 xs.length))), (20, .c (.d (i64 i)))],
      [(64004, .var [.d (u8 0), .d (u8 0), .d (u8 0)]), (64006, .var [.d (u8 0), .d (u8 0), .d (u8 0)])]⟩)
    (fun i => i ≤ xs.length ∧ ∀ x ∈ xs.take i, 0 ≤ x) (fun i => xs.length - i) 0 (by simp) (by simp) ?_
  rintro i ⟨hi, hx⟩
  refine S 60 _ _ ?_
  simp
  refine ⟨fun hlt => ⟨hlt, fun a ha => ?_⟩, fun hge => ?_⟩
  · refine ⟨fun ha0 => ?_, fun ha0 => ?_⟩
    · have e : expCode xs = 2 := by unfold expCode; rw [if_neg (fun h => by have := h a (List.mem_of_getElem? ha); omega)]
      have e2 : expE xs = ⟨0, 0, 0⟩ := by unfold expE; rw [if_neg (by omega)]
      rw [e, e2]
      exact ⟨⟨rfl, rfl, rfl⟩, rfl⟩
    · refine Nxt.mk (i + 1) ⟨hlt, fun x hx' => ?_⟩ (by simp [wrapS (i := i) (n := xs.length) hlt (by omega)]) (by omega)
      rw [List.take_add_one, ha] at hx'
      simp only [Option.toList, List.mem_append, List.mem_singleton] at hx'
      rcases hx' with h' | rfl
      · exact hx x h'
      · omega
  · have e1 : xs.take i = xs := List.take_of_length_le hge
    rw [e1] at hx
    refine J.loop hw (fun i : Nat => ⟨[(0, .c (.d (i64 xs.length))), (1, .c (.d (vInts xs))), (4, .c (.ref 64004 0)), (6, .c (.ref 64006 0)), (7, .c (.d (i64 (xs.take i).sum))), (28, .c (.d (vInts xs))), (29, .c (.d (i64 xs.length))), (30, .c (.d (i64 i)))],
        [(64004, .var [.d (u8 0), .d (u8 0), .d (u8 0)]), (64006, .var [.d (u8 (exP xs i).a), .d (u8 (exP xs i).b), .d (u8 (exP xs i).c)])]⟩)
      (fun i => i ≤ xs.length ∧ ∀ x ∈ xs.take i, x ≤ 12) (fun i => xs.length - i) 0 (by simp) (by simp [exP]) ?_
    rintro i ⟨hi, hy⟩
    refine S 8 _ _ ?_
    simp
    refine ⟨fun hlt => ?_, fun hge => ?_⟩
    · refine S 6 _ _ ?_
      simp
      refine ⟨hlt, fun a ha => ?_⟩
      have ha0 := hx a (List.mem_of_getElem? ha)
      by_cases ha12 : 12 < a
      · have e : expCode xs = 3 := by unfold expCode; rw [if_pos hx, if_neg (by have := sum_mem hx (List.mem_of_getElem? ha); omega)]
        have e2 : expE xs = ⟨0, 0, 0⟩ := by unfold expE; rw [if_neg (by omega)]
        rw [e, e2] at S ⊢
        refine S 60 _ _ ?_
        simp [ha12]
      · have hn : exP xs (i + 1) = setE (exP xs i) i (by8 a) := by rw [exP, ha]; rfl
        have hsum := sum_take ha
        have hb := sum_take_le hx i
        have hb2 := sum_le12 hy
        rw [List.length_take] at hb2
        have hw1 : IntKind.i64.wrap ((xs.take i).sum + a) = (xs.take i).sum + a := wrap64 (by omega) (by omega)
        have hy' : ∀ x ∈ xs.take (i + 1), x ≤ 12 := fun x hx' => by
          rw [List.take_add_one, ha] at hx'
          simp only [Option.toList, List.mem_append, List.mem_singleton] at hx'
          rcases hx' with h' | rfl
          · exact hy x h'
          · omega
        generalize exP xs i = x at hn ⊢
        generalize (xs.take i).sum = s at hsum hw1 ⊢
        have hi3 : i = 0 ∨ i = 1 ∨ i = 2 := by omega
        rcases hi3 with rfl | rfl | rfl
        all_goals
          simp only [setE] at hn
          refine S 60 _ _ ?_
          simp [ha12]
        · exact Nxt.mk 1 ⟨hlt, hy'⟩ (by simp [hn, hsum, hw1]) (by omega)
        · exact Nxt.mk 2 ⟨hlt, hy'⟩ (by simp [hn, hsum, hw1]) (by omega)
        · exact Nxt.mk 3 ⟨hlt, hy'⟩ (by simp [hn, hsum, hw1]) (by omega)
    · have : i = xs.length := by omega
      subst this
      rw [List.take_length, hall]
      by_cases h12 : 12 < xs.sum
      · have e : expCode xs = 3 := by unfold expCode; rw [if_pos hx, if_neg (by omega)]
        have e2 : expE xs = ⟨0, 0, 0⟩ := by unfold expE; rw [if_neg (by omega)]
        rw [e, e2] at S ⊢
        refine S 60 _ _ ?_
        simp [h12]
      · have e : expCode xs = 0 := by unfold expCode; rw [if_pos hx, if_pos (by omega)]
        have e2 : expE xs = exOf xs := by unfold expE; rw [if_pos e]
        rw [e, e2] at S ⊢
        refine S 60 _ _ ?_
        simp [h12]

def msumR (p : Int) (xs : List Int) : RV :=
  if Pr p ∧ 1 ≤ xs.length ∧ xs.length ≤ 3 then (if expCode xs = 0 then pres p xs.length (ofSum p (sumOf (permsE xs.length (exOf xs)))) 0 else pres 0 0 [] (expCode xs)) else pres 0 0 [] 2
theorem msumR_small (p : Int) (xs : List Int) : PresS (msumR p xs) := by
  unfold msumR
  split
  · rename_i h
    split
    · exact ⟨_, _, _, _, rfl, permsE_small p h.1.pos.1 _ _⟩
    · exact ⟨_, _, _, _, rfl, by simp⟩
  · exact ⟨_, _, _, _, rfl, by simp⟩

/-- The sum of the first i, kept at most 100. -/
def sat (xs : List Int) : Nat → Int
  | 0 => 0
  | i + 1 => min (sat xs i + min (xs[i]?.getD 0) 100) 100
theorem sat_eq {xs : List Int} : ∀ {i : Nat}, (∀ x ∈ xs.take i, 0 ≤ x) → sat xs i = min (xs.take i).sum 100
  | 0, _ => by simp [sat]; omega
  | i + 1, h => by
    have ih := sat_eq (xs := xs) (i := i) fun x hx => h x ((List.take_prefix_take_left (by omega)).subset hx)
    have h0 := sum_nonneg h
    have h1 : 0 ≤ (xs.take i).sum := sum_nonneg fun x hx => h x ((List.take_prefix_take_left (by omega)).subset hx)
    cases ha : xs[i]? with
    | none =>
      have : xs.take (i + 1) = xs.take i := by rw [List.take_add_one, ha]; simp
      rw [sat, ih, ha, this]
      simp only [Option.getD_none]; omega
    | some a =>
      have := sum_take ha
      have ha0 : 0 ≤ a := h a (by rw [List.take_add_one, ha]; simp)
      rw [sat, ih, ha, this]
      simp only [Option.getD_some]; omega

end Go.Sm
