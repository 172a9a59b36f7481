/- The orders of letters, with their signs: the reference's and the program's. -/
import Derived.Test.YtihinogdolhjcaaQcB
namespace Go.Sm
open Go.RowKit

@[simp] theorem argEs_take {α : Type} (f : α → List D) (xs : List α) (n : Nat) : argEs ((xs.map f).take n) = (xs.map fun x => argCs (f x)).take n := by rw [← List.map_take, argEs_map, List.map_take]
@[simp] theorem locEs_take {α : Type} (f : α → List D) (xs : List α) (n : Nat) : locEs ((xs.map f).take n) = (xs.map fun x => locCs (f x)).take n := by rw [← List.map_take, locEs_map, List.map_take]
@[simp] theorem freshEs_take {α : Type} (f : α → List D) (xs : List α) (n : Nat) : freshEs ((xs.map f).take n) = (xs.take n).all fun x => freshCs (f x) := by rw [← List.map_take, freshEs_map]
@[simp] theorem stOEs_take {α : Type} (f : α → List D) (xs : List α) (n : Nat) : stOEs ((xs.map f).take n) = (xs.take n).all fun x => stOCs (f x) := by rw [← List.map_take, stOEs_map]
@[simp] theorem okNo_take {α : Type} (f : α → List D) (xs : List α) (n : Nat) : okNo ((xs.map f).take n) = (xs.take n).all fun x => okNoC (f x) := by rw [← List.map_take, okNo_map]
@[simp] theorem argEs_drop {α : Type} (f : α → List D) (xs : List α) (n : Nat) : argEs ((xs.map f).drop n) = (xs.map fun x => argCs (f x)).drop n := by rw [← List.map_drop, argEs_map, List.map_drop]
@[simp] theorem locEs_drop {α : Type} (f : α → List D) (xs : List α) (n : Nat) : locEs ((xs.map f).drop n) = (xs.map fun x => locCs (f x)).drop n := by rw [← List.map_drop, locEs_map, List.map_drop]
@[simp] theorem freshEs_drop {α : Type} (f : α → List D) (xs : List α) (n : Nat) : freshEs ((xs.map f).drop n) = (xs.drop n).all fun x => freshCs (f x) := by rw [← List.map_drop, freshEs_map]
@[simp] theorem stOEs_drop {α : Type} (f : α → List D) (xs : List α) (n : Nat) : stOEs ((xs.map f).drop n) = (xs.drop n).all fun x => stOCs (f x) := by rw [← List.map_drop, stOEs_map]
@[simp] theorem okNo_drop {α : Type} (f : α → List D) (xs : List α) (n : Nat) : okNo ((xs.map f).drop n) = (xs.drop n).all fun x => okNoC (f x) := by rw [← List.map_drop, okNo_map]
@[simp] theorem drop_rest {α : Type} (f : α → List D) (xs : List α) (n : Nat) : ((xs.map f).drop n).take (xs.length - n) = (xs.map f).drop n := List.take_of_length_le (by simp)

/-- k put at place a. -/
def ins (k : Nat) (l : List Int) (a : Nat) : List Int := l.take a ++ (k : Int) :: l.drop a
def insD (k : Nat) (l : List Int) : Nat → List (List Int)
  | 0 => []
  | n + 1 => ins k l n :: insD k l n
def sgD (k : Nat) (s : Int) : Nat → List Int
  | 0 => []
  | n + 1 => s * (1 - 2 * ((k : Int) - n).tmod 2) :: sgD k s n
def ordS : Nat → List (List Int)
  | 0 => [[]]
  | k + 1 => (ordS k).flatMap fun l => insD k l (k + 1)
def sgS : Nat → List Int
  | 0 => [1]
  | k + 1 => (sgS k).flatMap fun s => sgD k s (k + 1)
theorem insD_len (k : Nat) (l : List Int) : ∀ n, (insD k l n).length = n
  | 0 => rfl
  | n + 1 => by simp [insD, insD_len k l n]
theorem sgD_len (k : Nat) (s : Int) : ∀ n, (sgD k s n).length = n
  | 0 => rfl
  | n + 1 => by simp [sgD, sgD_len k s n]
theorem flat_len {α β : Type} (f : α → List β) (m : Nat) (h : ∀ x, (f x).length = m) : ∀ xs : List α, (xs.flatMap f).length = xs.length * m
  | [] => by simp
  | x :: xs => by rw [List.flatMap_cons, List.length_append, h, flat_len f m h xs, List.length_cons, Nat.succ_mul, Nat.add_comm]
theorem flat_take {α β : Type} (f : α → List β) {xs : List α} {i : Nat} {a : α} (h : xs[i]? = some a) : (xs.take (i + 1)).flatMap f = (xs.take i).flatMap f ++ f a := by
  rw [List.take_add_one, h]; simp
theorem ord_facts {k : Nat} (hk : k ≤ 2) : (ordS k).length ≤ 2 ∧ (sgS k).length = (ordS k).length ∧ (∀ l ∈ ordS k, l.length = k) ∧ ∀ s ∈ sgS k, s = 1 ∨ s = -1 := by
  have : k = 0 ∨ k = 1 ∨ k = 2 := by omega
  rcases this with rfl | rfl | rfl <;> decide

theorem l01Own_ok (xs : List Int) (hl : xs.length ≤ 1048576) : CallOK Go.Proofs.Try.prog 152 [.one (vInts xs)] (.one (oInts xs)) := by
  have hF := fnOk 6 [.tmp 2]
  refine callOK hF 60 Go.Proofs.Try.func152 rfl rfl rfl (by decide) (by simp) rfl ?_
  intro w0 hw
  have S := @vc_sound w0 _ hF ⟨(.one (oInts xs)), []⟩ Go.Proofs.Try.f152 rfl (by simp)
  simp
  refine ⟨by omega, by omega⟩

set_option maxRecDepth 4000 in
theorem l08Orders_ok (d : Nat) (hd : d ≤ 3) : CallOK Go.Proofs.Try.prog 124 [.one (i64 d)] (.tup [(false, [oIntss (ordS d)]), (false, [oInts (sgS d)])]) := by
  have hF := fnOk 72 [.tmp 2, .tmp 3]
  refine callOK hF 60 Go.Proofs.Try.func124 rfl rfl rfl (by decide) (by simp) rfl ?_
  intro w0 hw
  have S := @vc_sound w0 _ hF ⟨(.tup [(false, [oIntss (ordS d)]), (false, [oInts (sgS d)])]), []⟩ Go.Proofs.Try.f124 rfl (by simp)
  simp
  refine BsW.move hF (e := 22) (es := [[oInts []]]) (ks := [12 * 64]) (by decide) rfl rfl rfl (by simp) (by simp) rfl (by decide) (by decide) (by simp) ?_
  refine S 60 _ _ ?_
  simp
  refine J.loop hw (fun k : Nat => ⟨[(0, .c (.d (i64 d))), (4, .c (.ob 64004)), (5, .c (.ob 64005)), (6, .c (.d (i64 k)))],
      [(64004, .arr 22 1 ((ordS k).map fun x => [oInts x])), (64005, .arr 2 1 (ints (sgS k)))]⟩)
    (fun k => k ≤ d) (fun k => d - k) 0 (by simp) (by simp [ordS, sgS]) ?_
  intro k hk
  refine S 60 _ _ ?_
  simp
  refine ⟨fun hlt => ?_, fun hge => ?_⟩
  · obtain ⟨f1, f2, f3, f4⟩ := ord_facts (k := k) (by omega)
    generalize hL : ordS k = L at *
    generalize hG : sgS k = G at *
    refine J.loop hw (fun i : Nat => ⟨[(0, .c (.d (i64 d))), (4, .c (.ob 64004)), (5, .c (.ob 64005)), (6, .c (.d (i64 k))), (7, .c (.ob 64007)), (8, .c (.ob 64008)), (9, .c (.d (i64 i)))],
        [(64004, .arr 22 1 (L.map fun x => [oInts x])), (64005, .arr 2 1 (ints G)), (64007, .arr 22 1 (((L.take i).flatMap fun l => insD k l (k + 1)).map fun x => [oInts x])), (64008, .arr 2 1 (ints ((G.take i).flatMap fun s => sgD k s (k + 1))))]⟩)
      (fun i => i ≤ L.length) (fun i => L.length - i) 0 (by simp) (by simp) ?_
    intro i hi
    refine S 60 _ _ ?_
    simp
    refine ⟨fun hlt2 => ?_, fun hge2 => ?_⟩
    · obtain ⟨l, hl⟩ : ∃ l, L[i]? = some l := ⟨L[i], List.getElem?_eq_getElem hlt2⟩
      obtain ⟨g, hg⟩ : ∃ g, G[i]? = some g := ⟨G[i]'(by omega), List.getElem?_eq_getElem (by omega)⟩
      have hll : l.length = k := f3 l (List.mem_of_getElem? hl)
      have hgg := f4 g (List.mem_of_getElem? hg)
      generalize hN : (L.take i).flatMap (fun l => insD k l (k + 1)) = Nx
      generalize hM : (G.take i).flatMap (fun s => sgD k s (k + 1)) = Mx
      have hNl : Nx.length ≤ 6 := by
        rw [← hN, flat_len _ (k + 1) (fun x => insD_len k x _), List.length_take]
        have : min i L.length * (k + 1) ≤ 2 * 3 := Nat.mul_le_mul (by omega) (by omega)
        omega
      have hMl : Mx.length ≤ 6 := by
        rw [← hM, flat_len _ (k + 1) (fun x => sgD_len k x _), List.length_take]
        have : min i G.length * (k + 1) ≤ 2 * 3 := Nat.mul_le_mul (by omega) (by omega)
        omega
      refine J.loop hw (fun q : Nat × List (List Int) × List Int => ⟨[(0, .c (.d (i64 d))), (4, .c (.ob 64004)), (5, .c (.ob 64005)), (6, .c (.d (i64 k))), (7, .c (.ob 64007)), (8, .c (.ob 64008)), (9, .c (.d (i64 i))), (10, .c (.d (i64 ((q.1 : Int) - 1))))],
          [(64004, .arr 22 1 (L.map fun x => [oInts x])), (64005, .arr 2 1 (ints G)), (64007, .arr 22 1 ((Nx ++ q.2.1).map fun x => [oInts x])), (64008, .arr 2 1 (ints (Mx ++ q.2.2)))]⟩)
        (fun q => q.1 ≤ k + 1 ∧ q.2.1 ++ insD k l q.1 = insD k l (k + 1) ∧ q.2.2 ++ sgD k g q.1 = sgD k g (k + 1)) (fun q => q.1) (k + 1, [], []) (by simp) (by simp) ?_
      rintro ⟨n, acc, sac⟩ ⟨hn, ha1, ha2⟩
      simp only at hn ha1 ha2
      have hal : acc.length ≤ 3 := by
        have := congrArg List.length ha1
        rw [List.length_append, insD_len, insD_len] at this; omega
      have hsl : sac.length ≤ 3 := by
        have := congrArg List.length ha2
        rw [List.length_append, sgD_len, sgD_len] at this; omega
      cases n with
      | zero =>
        have ha1 : acc = insD k l (k + 1) := (List.append_nil _).symm.trans ha1
        have ha2 : sac = sgD k g (k + 1) := (List.append_nil _).symm.trans ha2
        refine S 60 _ _ ?_
        simp
        refine Nxt.mk (i + 1) (by omega) (by simp [flat_take _ hl, flat_take _ hg, hN, hM, ha1, ha2, wrapS (i := i) (n := L.length) hlt2 (by omega)]) (by omega)
      | succ n =>
        refine S 60 _ _ ?_
        simp
        refine ⟨hlt2, fun a ha => ?_⟩
        obtain rfl : l = a := Option.some.inj (hl.symm.trans ha)
        refine ⟨by omega, ?_⟩
        refine CallW.ok (by decide) (by simp) (l01Own_ok (l.take n) (by rw [List.length_take]; omega)) (by simp) (S 5 _ _ ?_)
        simp
        have hkb : min n l.length + 1 ≤ 4 := by omega
        refine ⟨⟨by omega, by omega⟩, ?_⟩
        refine S 8 _ _ ?_
        simp
        refine ⟨hlt2, fun a ha => ?_⟩
        obtain rfl : l = a := Option.some.inj (hl.symm.trans ha)
        refine S 3 _ _ ?_
        simp
        -- the rest of l behind k
        refine ⟨by omega, ⟨by omega, by omega⟩, S 60 _ _ ?_⟩
        simp
        refine BsW.move hF (e := 22) (es := [[oInts (ins k l n)]]) (ks := [51 * 64]) (by decide) rfl rfl rfl (by simp [ins]) (by simp) rfl (by decide) (by decide) (by simp) ?_
        refine S 3 _ _ ?_
        simp
        refine ⟨⟨by omega, by omega⟩, ?_⟩
        have hr := tmod_range ((k : Int) - n) 2 (by omega)
        have w1 : IntKind.i64.wrap ((k : Int) - n) = k - n := wrap64 (by omega) (by omega)
        have w2 : IntKind.i64.wrap (2 * ((k : Int) - n).tmod 2) = 2 * ((k : Int) - n).tmod 2 := wrap64 (by omega) (by omega)
        have w3 : IntKind.i64.wrap (1 - 2 * ((k : Int) - n).tmod 2) = 1 - 2 * ((k : Int) - n).tmod 2 := wrap64 (by omega) (by omega)
        have w4 : IntKind.i64.wrap (g * (1 - 2 * ((k : Int) - n).tmod 2)) = g * (1 - 2 * ((k : Int) - n).tmod 2) := by
          rcases hgg with rfl | rfl <;> exact wrap64 (by omega) (by omega)
        refine S 60 _ _ ?_
        simp
        refine ⟨by omega, fun b hb => ?_⟩
        obtain rfl : g = b := Option.some.inj (hg.symm.trans hb)
        simp [w1, w2, w3, w4]
        refine ⟨⟨by omega, by omega⟩, ?_⟩
        have w5 : IntKind.i64.wrap ((n : Int) - 1) = n - 1 := wrap64 (by omega) (by omega)
        refine Nxt.mk (n, acc ++ [ins k l n], sac ++ [g * (1 - 2 * ((k : Int) - n).tmod 2)]) ⟨by omega, by rw [← ha1]; simp [insD], by rw [← ha2]; simp [sgD]⟩ (by simp [w5]) (by show n < n + 1; omega)
    · have e1 : L.take i = L := List.take_of_length_le hge2
      have e2 : G.take i = G := List.take_of_length_le (by omega)
      rw [e1, e2]
      exact Nxt.mk (k + 1) (by omega) (by simp [ordS, sgS, hL, hG, wrapS (i := k) (n := d) hlt (by omega)]) (by omega)
  · have : k = d := by omega
    rw [this]
    exact ⟨rfl, rfl⟩

/-! ### the program's -/
abbrev nats (xs : List Nat) : List (List D) := xs.map fun (i : Nat) => [i64 (i : Int)]
abbrev oNats (xs : List Nat) : D := .own 3 1 (nats xs)
abbrev vNats (xs : List Nat) : D := .vw false 1 (nats xs)
abbrev oNatss (xss : List (List Nat)) : D := .own 122 1 (xss.map fun xs => [oNats xs])
def ordI : Nat → List (List Nat)
  | 2 => [[0, 1], [1, 0]]
  | 3 => [[0, 1, 2], [0, 2, 1], [1, 0, 2], [1, 2, 0], [2, 0, 1], [2, 1, 0]]
  | _ => [[0]]
/-- The sign of an order: what comes of s by the pairs (i, k), k < m. -/
def sgK (o : List Nat) (i : Nat) : Nat → Int → Int
  | 0, s => s
  | m + 1, s => if o[i]?.getD 0 < (o[m]?.getD 0) then - sgK o i m s else sgK o i m s
def sgI (o : List Nat) : Nat → Int
  | 0 => 1
  | i + 1 => sgK o i i (sgI o i)
def sgnI (d : Nat) : List Int := (ordI d).map fun o => sgI o o.length
theorem sgK_one {o : List Nat} {i m : Nat} {s : Int} (h : s = 1 ∨ s = -1) : sgK o i m s = 1 ∨ sgK o i m s = -1 := by
  induction m with
  | zero => exact h
  | succ m ih => unfold sgK; split <;> omega
theorem sgI_one {o : List Nat} {i : Nat} : sgI o i = 1 ∨ sgI o i = -1 := by
  induction i with
  | zero => exact .inl rfl
  | succ i ih => exact sgK_one ih

theorem ordI_facts (d : Nat) : (ordI d).length ≤ 6 ∧ ∀ o ∈ ordI d, o.length ≤ 3 ∧ ∀ x ∈ o, x < 3 := by
  unfold ordI
  split <;> decide

set_option maxRecDepth 4000 in
theorem orders_ok (d : Nat) (hd : 1 ≤ d ∧ d ≤ 3) : CallOK Go.Proofs.Try.prog 125 [.one (i64 d)] (.tup [(false, [oNatss (ordI d)]), (false, [oInts (sgnI d)])]) := by
  have hF := fnOk 64 [.tmp 2, .tmp 3]
  refine callOK hF 60 Go.Proofs.Try.func125 rfl rfl rfl (by decide) (by simp) rfl ?_
  intro w0 hw
  have S := @vc_sound w0 _ hF ⟨(.tup [(false, [oNatss (ordI d)]), (false, [oInts (sgnI d)])]), []⟩ Go.Proofs.Try.f125 rfl (by simp)
  obtain ⟨f1, f2⟩ := ordI_facts d
  simp only [sgnI] at S ⊢
  simp
  refine BsW.move hF (e := 122) (es := [[oNats [0]]]) (ks := [11 * 64]) (by decide) rfl rfl rfl (by simp) (by simp) rfl (by decide) (by decide) (by simp) (S 60 _ _ ?_)
  have hd' : d = 1 ∨ d = 2 ∨ d = 3 := by omega
  rcases hd' with rfl | rfl | rfl
  simp
  rotate_left
  simp
  refine BsW.move hF (e := 122) (es := [[oNats [0, 1]], [oNats [1, 0]]]) (ks := [16 * 64, 17 * 64]) (by decide) rfl rfl rfl (by simp) (by simp) rfl (by decide) (by decide) (by simp) (S 60 _ _ ?_)
  simp
  rotate_left
  simp
  refine BsW.move hF (e := 122) (es := [[oNats [0, 1, 2]], [oNats [0, 2, 1]], [oNats [1, 0, 2]], [oNats [1, 2, 0]], [oNats [2, 0, 1]], [oNats [2, 1, 0]]]) (ks := [21 * 64, 22 * 64, 23 * 64, 24 * 64, 25 * 64, 26 * 64]) (by decide) rfl rfl rfl (by simp) (by simp) rfl (by decide) (by decide) (by simp) (S 60 _ _ ?_)
  simp
  rotate_left
  all_goals
    generalize hA : ordI _ = A at S f1 f2 ⊢
    refine J.loop hw (fun i : Nat => ⟨[(4, .c (.ob 64029)), (5, .c (.ob 64005)), (29, .c (.ob 64029)), (30, .c (.d (i64 A.length))), (31, .c (.d (i64 i)))],
        [(64029, .arr 122 1 (A.map fun x => [oNats x])), (64005, .arr 2 1 (ints ((A.take i).map fun o => sgI o o.length)))]⟩)
      (fun i => i ≤ A.length) (fun i => A.length - i) 0 (by simp) (by subst hA; simp [ordI]) ?_
    intro i hi
    refine S 60 _ _ ?_
    simp
    refine ⟨fun hlt => ⟨hlt, fun o ho => ?_⟩, fun hge => ?_⟩
    · have hol := (f2 o (List.mem_of_getElem? ho)).1
      refine J.loop hw (fun j : Nat => ⟨[(4, .c (.ob 64029)), (5, .c (.ob 64005)), (29, .c (.ob 64029)), (30, .c (.d (i64 A.length))), (31, .c (.d (i64 i))), (7, .c (.d (vNats o))), (8, .c (.d (i64 (sgI o j)))), (36, .c (.d (i64 o.length))), (37, .c (.d (i64 j)))],
          [(64029, .arr 122 1 (A.map fun x => [oNats x])), (64005, .arr 2 1 (ints ((A.take i).map fun o => sgI o o.length)))]⟩)
        (fun j => j ≤ o.length) (fun j => o.length - j) 0 (by simp) (by simp [sgI]) ?_
      intro j hj
      refine S 60 _ _ ?_
      simp
      refine ⟨fun hlt2 => ?_, fun hge2 => ?_⟩
      · refine J.loop hw (fun m : Nat => ⟨[(4, .c (.ob 64029)), (5, .c (.ob 64005)), (29, .c (.ob 64029)), (30, .c (.d (i64 A.length))), (31, .c (.d (i64 i))), (7, .c (.d (vNats o))), (8, .c (.d (i64 (sgK o j m (sgI o j))))), (36, .c (.d (i64 o.length))), (37, .c (.d (i64 j))), (9, .c (.d (i64 j))), (40, .c (.d (i64 j))), (41, .c (.d (i64 m)))],
            [(64029, .arr 122 1 (A.map fun x => [oNats x])), (64005, .arr 2 1 (ints ((A.take i).map fun o => sgI o o.length)))]⟩)
          (fun m => m ≤ j) (fun m => j - m) 0 (by simp) (by simp [sgK]) ?_
        intro m hm
        refine S 60 _ _ ?_
        simp
        refine ⟨fun hlt3 => ?_, fun hge3 => ?_⟩
        · refine J.dr hF mixed 8 [[], [], [0, 1], [0, 1, 2], [], [], [4, 5], [4, 5, 6], [0, 1, 2, 3, 4, 5, 6, 7]] [[44, 45, 46, 47, 48, 49, 50, 51], [44, 45, 46, 47, 48, 49, 50, 51], [46, 47, 48, 49, 50, 51], [47, 48, 49, 50, 51], [44, 45, 46, 47, 48, 49, 50, 51], [44, 45, 46, 47, 48, 49, 50, 51], [44, 45, 46, 47, 50, 51], [44, 45, 46, 47, 51]] (by decide) ?_
          simp
          refine ⟨by omega, fun a ha => ⟨hlt2, fun b hb => S 60 _ _ ?_⟩⟩
          have hs := @sgK_one o j m (sgI o j) sgI_one
          have hw1 : IntKind.i64.wrap (-(sgK o j m (sgI o j))) = -(sgK o j m (sgI o j)) := wrap64 (by omega) (by omega)
          have hst : sgK o j (m + 1) (sgI o j) = if b < a then -(sgK o j m (sgI o j)) else sgK o j m (sgI o j) := by simp [sgK, ha, hb]
          simp
          refine ⟨fun hba => ?_, fun hba => ?_⟩
          · exact Nxt.mk (m + 1) (by omega) (by simp [hst, hba, hw1, wrapS (i := m) (n := j) hlt3 (by omega)]) (by omega)
          · exact Nxt.mk (m + 1) (by omega) (by simp [hst, show ¬ b < a by omega, wrapS (i := m) (n := j) hlt3 (by omega)]) (by omega)
        · have : m = j := by omega
          subst this
          exact Nxt.mk (m + 1) (by omega) (by simp [sgI, wrapS (i := m) (n := o.length) hlt2 (by omega)]) (by omega)
      · have : j = o.length := by omega
        subst this
        have := @sgI_one o o.length
        refine ⟨by omega, ?_⟩
        exact Nxt.mk (i + 1) (by omega) (by simp [List.take_add_one, ho, wrapS (i := i) (n := A.length) hlt (by omega)]) (by omega)
    · exact List.take_of_length_le (by simpa using hge)

end Go.Sm
