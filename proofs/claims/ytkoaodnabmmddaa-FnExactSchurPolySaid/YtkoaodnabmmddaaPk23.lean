/- Towards the rows of this seat: what the functions do, as contracts over plain data. -/
import Derived.Test.YtkoaodnabmmddaaPk22
import Derived.Test.YtkoaodnabmmddaaPk18
namespace Go.Sm
open Go.RowKit

/-! ### monomials put to a sum one after the other -/
def putL (p : Int) (xs : List (Ex × Int)) : List Tm := xs.foldl (fun ts x => putT p ts x.1 x.2) []
def addS (xs : List (Ex × Int)) : List (Ex × Int) := xs.foldl (fun l x => sput l x.1 (sget l x.1 + x.2)) []
theorem putL_snoc (p : Int) (xs : List (Ex × Int)) (x : Ex × Int) : putL p (xs ++ [x]) = putT p (putL p xs) x.1 x.2 := by simp [putL]
theorem addS_snoc (xs : List (Ex × Int)) (x : Ex × Int) : addS (xs ++ [x]) = sput (addS xs) x.1 (sget (addS xs) x.1 + x.2) := by simp [addS]
theorem putL_take {p : Int} {xs : List (Ex × Int)} {i : Nat} {x : Ex × Int} (h : xs[i]? = some x) : putL p (xs.take (i + 1)) = putT p (putL p (xs.take i)) x.1 x.2 := by
  rw [List.take_add_one, h]; exact putL_snoc ..
theorem addS_take {xs : List (Ex × Int)} {i : Nat} {x : Ex × Int} (h : xs[i]? = some x) : addS (xs.take (i + 1)) = sput (addS (xs.take i)) x.1 (sget (addS (xs.take i)) x.1 + x.2) := by
  rw [List.take_add_one, h]; exact addS_snoc ..
theorem putL_lin {p : Int} (hp : 0 < p) (f : Ex → Int) : ∀ xs : List (Ex × Int), Can p (putL p xs) ∧ (putL p xs).length ≤ xs.length ∧ Eqm p (lin (putL p xs) f) (lin (xs.map fun x => ⟨x.1, x.2⟩) f) := by
  intro xs
  induction xs using snocInd with
  | nil => exact ⟨can_nil p, by simp [putL], Eqm.refl p _⟩
  | snoc xs x ih =>
    obtain ⟨h1, h2, h3⟩ := ih
    rw [putL_snoc]
    have hl := putT_length p (putL p xs) x.1 x.2
    refine ⟨(putT_can hp h1 _ _).1, by simp; omega, (lin_putT h1 _ _ f).trans ?_⟩
    rw [List.map_append, lin_append]
    simp only [List.map_cons, List.map_nil, lin, Int.add_zero]
    exact h3.add (Eqm.refl p _)
theorem addS_ok {p : Int} (hp : 0 < p) : ∀ xs : List (Ex × Int), ((addS xs).map (·.1)).Nodup ∧ (addS xs).length ≤ xs.length ∧ ∀ e, coef (putL p xs) e = sget (addS xs) e % p := by
  intro xs
  induction xs using snocInd with
  | nil => exact ⟨by simp [addS], by simp [addS], fun e => by simp [addS, putL, coef, sget]⟩
  | snoc xs x ih =>
    obtain ⟨h1, h2, h3⟩ := ih
    rw [addS_snoc, putL_snoc]
    have hl := sput_length (addS xs) x.1 (sget (addS xs) x.1 + x.2)
    refine ⟨sput_nodup h1 _ _, by simp; omega, fun e => ?_⟩
    rw [(putT_can hp (putL_lin hp (fun _ => 0) xs).1 _ _).2, sget_sput]
    split
    · rw [h3, Int.add_emod_emod, Int.add_comm]
    · exact h3 e
theorem addS_eq {p : Int} (hp : 0 < p) (xs : List (Ex × Int)) : ofSum p (addS xs) = putL p xs := by
  obtain ⟨h1, _, h3⟩ := addS_ok hp xs
  obtain ⟨k1, k2⟩ := ofSum_can hp h1
  exact can_ext k1 (putL_lin hp (fun _ => 0) xs).1 fun e => by rw [k2, h3]

/-! ### the alternating sums -/
def altI (d : Nat) (e : Ex) : List (Ex × Int) := (permsE d e).zip (sgnI d)
def altS (p : Int) (d : Nat) (e : Ex) : List (Ex × Int) := (permsS d e).zip ((sgS d).map (· % p))
theorem altI_lin {d : Nat} (hd : 1 ≤ d ∧ d ≤ 3) {a b c : Nat} (h : Down d a b c) (f : Ex → Int) : lin ((altI d (E a b c)).map fun x => ⟨x.1, x.2⟩) f = altd d a b c f := by
  have : d = 1 ∨ d = 2 ∨ d = 3 := by omega
  obtain ⟨h1, h2, _, _⟩ := h
  rcases this with rfl | rfl | rfl
  · have := h1 rfl; subst this
    have := h2 (by decide); subst this
    show 1 * f (E a 0 0) + 0 = _
    simp [altd]
  · have := h2 (by decide); subst this
    show 1 * f (E a b 0) + ((-1) * f (E b a 0) + 0) = alt2 a b f
    unfold alt2; omega
  · show 1 * f (E a b c) + ((-1) * f (E a c b) + ((-1) * f (E b a c) + (1 * f (E c a b) + (1 * f (E b c a) + ((-1) * f (E c b a) + 0))))) = alt3 a b c f
    unfold alt3; omega
theorem altS_lin {p : Int} {d : Nat} (hd : 1 ≤ d ∧ d ≤ 3) {a b c : Nat} (h : Down d a b c) (f : Ex → Int) : Eqm p (lin ((altS p d (E a b c)).map fun x => ⟨x.1, x.2⟩) f) (altd d a b c f) := by
  have : d = 1 ∨ d = 2 ∨ d = 3 := by omega
  obtain ⟨h1, h2, _, _⟩ := h
  obtain ⟨k, hk⟩ := Eqm.mod p 1
  obtain ⟨l, hl⟩ := Eqm.mod p (-1)
  rcases this with rfl | rfl | rfl
  · have := h1 rfl; subst this
    have := h2 (by decide); subst this
    show Eqm p ((1 % p) * f (E a 0 0) + 0) _
    rw [hk]
    exact ⟨k * f (E a 0 0), by simp [altd]; grind⟩
  · have := h2 (by decide); subst this
    show Eqm p ((1 % p) * f (E a b 0) + ((-1 % p) * f (E b a 0) + 0)) (alt2 a b f)
    rw [hk, hl]
    exact ⟨k * f (E a b 0) + l * f (E b a 0), by unfold alt2; grind⟩
  · show Eqm p ((1 % p) * f (E a b c) + ((-1 % p) * f (E a c b) + ((1 % p) * f (E b c a) + ((-1 % p) * f (E b a c) + ((1 % p) * f (E c a b) + ((-1 % p) * f (E c b a) + 0)))))) (alt3 a b c f)
    rw [hk, hl]
    refine ⟨k * f (E a b c) + l * f (E a c b) + k * f (E b c a) + l * f (E b a c) + k * f (E c a b) + l * f (E c b a), ?_⟩
    unfold alt3; grind

/-- The Schur polynomial of exponents that go down. -/
noncomputable def schQ (p : Int) (d : Nat) (e : Ex) : List Tm :=
  open Classical in if h : ∃ q, Can p q ∧ AllE (DegLe d (12 - vdeg d)) q ∧ putL p (altI d e) = byV p d q then Classical.choose h else []
theorem schQ_ok {p : Int} (hp : Pr p) {d : Nat} (hd : 1 ≤ d ∧ d ≤ 3) {a b c : Nat} (h : Down d a b c) (h12 : a + b + c ≤ 12) :
    Can p (schQ p d (E a b c)) ∧ AllE (DegLe d (12 - vdeg d)) (schQ p d (E a b c)) ∧ putL p (altI d (E a b c)) = byV p d (schQ p d (E a b c)) ∧ putL p (altS p d (E a b c)) = byV p d (schQ p d (E a b c)) := by
  have hpp := hp.pos
  have hd' : 1 ≤ (d : Int) ∧ (d : Int) ≤ 3 := by omega
  have hex := quo_exists hp hd' (altd_dv hd' h h12 (Nat.le_refl 12)) (x := putL p (altI d (E a b c))) (putL_lin (by omega) (fun _ => 0) _).1 fun f => by
    have := (putL_lin (p := p) (by omega) f (altI d (E a b c))).2.2
    rw [altI_lin hd h] at this
    exact this
  have e : schQ p d (E a b c) = Classical.choose hex := by
    unfold schQ
    exact dif_pos hex
  obtain ⟨h1, h2, h3⟩ := Classical.choose_spec hex
  rw [e]
  refine ⟨h1, h2, h3, ?_⟩
  rw [← h3]
  refine can_lin (by omega) (putL_lin (by omega) (fun _ => 0) _).1 (putL_lin (by omega) (fun _ => 0) _).1 fun f => ?_
  refine ((putL_lin (p := p) (by omega) f _).2.2.trans (altS_lin hd h f)).trans ?_
  have := (putL_lin (p := p) (by omega) f (altI d (E a b c))).2.2
  rw [altI_lin hd h] at this
  exact this.symm
end Go.Sm

namespace Go.Sm
open Go.RowKit

/-- The exponents of a partition's alternating sum. -/
def upE (d : Nat) (xs : List Int) : List Int := xs.mapIdx fun i x => x + d - 1 - i
theorem upE_take {d : Nat} {xs : List Int} {i : Nat} {x : Int} (h : xs[i]? = some x) : upE d (xs.take (i + 1)) = upE d (xs.take i) ++ [x + d - 1 - i] := by
  have hi : i < xs.length := (List.getElem?_eq_some_iff.1 h).1
  unfold upE
  rw [List.take_add_one, h]
  simp only [Option.toList_some, List.mapIdx_concat, List.length_take]
  rw [Nat.min_eq_left (by omega)]
theorem upE_len (d : Nat) (xs : List Int) : (upE d xs).length = xs.length := by simp [upE]
/-- A number that is not less than 0, nor more than the one ahead of it. -/
def okAt (xs : List Int) (i : Nat) : Prop := ∀ x, xs[i]? = some x → 0 ≤ x ∧ (0 < i → ∀ y, xs[i - 1]? = some y → x ≤ y)
noncomputable def schR (p : Int) (xs : List Int) : RV :=
  open Classical in if Pr p ∧ (1 ≤ xs.length ∧ xs.length ≤ 3) ∧ ∀ i, okAt xs i then (if (upE xs.length xs).sum ≤ 12 then pres p xs.length (schQ p xs.length (exOf (upE xs.length xs))) 0 else pres 0 0 [] 3) else pres 0 0 [] 2
theorem schR_yes {p : Int} {xs : List Int} (hp : Pr p) (hd : 1 ≤ xs.length ∧ xs.length ≤ 3) (h : ∀ i, okAt xs i) (h12 : (upE xs.length xs).sum ≤ 12) : schR p xs = pres p xs.length (schQ p xs.length (exOf (upE xs.length xs))) 0 := by
  unfold schR; rw [if_pos ⟨hp, hd, h⟩, if_pos h12]
theorem schR_lim {p : Int} {xs : List Int} (hp : Pr p) (hd : 1 ≤ xs.length ∧ xs.length ≤ 3) (h : ∀ i, okAt xs i) (h12 : ¬ (upE xs.length xs).sum ≤ 12) : schR p xs = pres 0 0 [] 3 := by
  unfold schR; rw [if_pos ⟨hp, hd, h⟩, if_neg h12]
theorem schR_no {p : Int} {xs : List Int} (h : ¬ (Pr p ∧ (1 ≤ xs.length ∧ xs.length ≤ 3) ∧ ∀ i, okAt xs i)) : schR p xs = pres 0 0 [] 2 := by
  unfold schR; rw [if_neg h]

theorem ok_head {xs : List Int} {x0 : Int} (h : ∀ i, okAt xs i) (h0 : xs[0]? = some x0) : ∀ x ∈ xs, 0 ≤ x ∧ x ≤ x0 := by
  have key : ∀ (i : Nat) (x : Int), xs[i]? = some x → 0 ≤ x ∧ x ≤ x0 := by
    intro i
    induction i with
    | zero => intro x hx; rw [h0] at hx; cases hx; exact ⟨(h 0 x0 h0).1, Int.le_refl _⟩
    | succ i ih =>
      intro x hx
      have hi : i < xs.length := by have := (List.getElem?_eq_some_iff.1 hx).1; omega
      have h1 := h (i + 1) x hx
      obtain ⟨y, hy⟩ : ∃ y, xs[i]? = some y := ⟨xs[i], List.getElem?_eq_getElem hi⟩
      have h2 := h1.2 (by omega) y hy
      have := ih y hy
      exact ⟨h1.1, by omega⟩
  intro x hx
  obtain ⟨i, hi, rfl⟩ := List.getElem_of_mem hx
  exact key i _ (List.getElem?_eq_getElem hi)
theorem upE_nonneg {xs : List Int} (h : ∀ i, okAt xs i) : ∀ x ∈ upE xs.length xs, 0 ≤ x := by
  intro x hx
  obtain ⟨i, hi, rfl⟩ := List.getElem_of_mem hx
  rw [upE_len] at hi
  have := (h i _ (List.getElem?_eq_getElem hi)).1
  simp only [upE, List.getElem_mapIdx]
  omega
theorem upE_first {xs : List Int} (h : ∀ i, okAt xs i) {x0 : Int} (h0 : xs[0]? = some x0) (h12 : 12 < x0) : ¬ (upE xs.length xs).sum ≤ 12 := by
  have hl : 0 < xs.length := (List.getElem?_eq_some_iff.1 h0).1
  have hm : x0 + xs.length - 1 ∈ upE xs.length xs := by
    refine List.mem_of_getElem? (i := 0) ?_
    simp [upE, h0]
  have := sum_mem (upE_nonneg h) hm
  omega
theorem exOf1 (a : Nat) : exOf [(a : Int)] = E a 0 0 := by
  show (⟨by8 (a : Int), by8 ((0 : Nat) : Int), by8 ((0 : Nat) : Int)⟩ : Ex) = _
  rw [by8_ofNat, by8_ofNat]; rfl
theorem exOf2 (a b : Nat) : exOf [(a : Int), (b : Int)] = E a b 0 := by
  show (⟨by8 (a : Int), by8 (b : Int), by8 ((0 : Nat) : Int)⟩ : Ex) = _
  rw [by8_ofNat, by8_ofNat, by8_ofNat]; rfl
theorem exOf3 (a b c : Nat) : exOf [(a : Int), (b : Int), (c : Int)] = E a b c := by
  show (⟨by8 (a : Int), by8 (b : Int), by8 (c : Int)⟩ : Ex) = _
  rw [by8_ofNat, by8_ofNat, by8_ofNat]; rfl
/-- The exponents go down. -/
theorem upE_down {xs : List Int} (hd : 1 ≤ xs.length ∧ xs.length ≤ 3) (h : ∀ i, okAt xs i) :
    ∃ a b c : Nat, exOf (upE xs.length xs) = E a b c ∧ Down xs.length a b c ∧ (upE xs.length xs).sum = ((a + b + c : Nat) : Int) := by
  match xs, hd, h with
  | [x], _, h =>
    obtain ⟨h1, _⟩ := h 0 x rfl
    obtain ⟨a, rfl⟩ : ∃ a : Nat, x = a := ⟨x.toNat, by omega⟩
    have hu : upE [(a : Int)].length [(a : Int)] = [(a : Int)] := by
      show [(a : Int) + ((1 : Nat) : Int) - 1 - ((0 : Nat) : Int)] = _
      rw [show (a : Int) + ((1 : Nat) : Int) - 1 - ((0 : Nat) : Int) = a by omega]
    rw [hu]
    exact ⟨a, 0, 0, exOf1 a, by simp [Down], by simp⟩
  | [x, y], _, h =>
    obtain ⟨h1, _⟩ := h 0 x rfl
    obtain ⟨h2, h3⟩ := h 1 y rfl
    have h4 := h3 (by omega) x rfl
    obtain ⟨a, rfl⟩ : ∃ a : Nat, x = a := ⟨x.toNat, by omega⟩
    obtain ⟨b, rfl⟩ : ∃ b : Nat, y = b := ⟨y.toNat, by omega⟩
    have hu : upE [(a : Int), (b : Int)].length [(a : Int), (b : Int)] = [((a + 1 : Nat) : Int), (b : Int)] := by
      show [(a : Int) + ((2 : Nat) : Int) - 1 - ((0 : Nat) : Int), (b : Int) + ((2 : Nat) : Int) - 1 - ((1 : Nat) : Int)] = _
      rw [show (a : Int) + ((2 : Nat) : Int) - 1 - ((0 : Nat) : Int) = ((a + 1 : Nat) : Int) by omega, show (b : Int) + ((2 : Nat) : Int) - 1 - ((1 : Nat) : Int) = b by omega]
    rw [hu]
    exact ⟨a + 1, b, 0, exOf2 _ _, by simp [Down]; omega, by simp⟩
  | [x, y, z], _, h =>
    obtain ⟨h1, _⟩ := h 0 x rfl
    obtain ⟨h2, h3⟩ := h 1 y rfl
    have h4 := h3 (by omega) x rfl
    obtain ⟨h5, h6⟩ := h 2 z rfl
    have h7 := h6 (by omega) y rfl
    obtain ⟨a, rfl⟩ : ∃ a : Nat, x = a := ⟨x.toNat, by omega⟩
    obtain ⟨b, rfl⟩ : ∃ b : Nat, y = b := ⟨y.toNat, by omega⟩
    obtain ⟨c, rfl⟩ : ∃ c : Nat, z = c := ⟨z.toNat, by omega⟩
    have hu : upE [(a : Int), (b : Int), (c : Int)].length [(a : Int), (b : Int), (c : Int)] = [((a + 2 : Nat) : Int), ((b + 1 : Nat) : Int), (c : Int)] := by
      show [(a : Int) + ((3 : Nat) : Int) - 1 - ((0 : Nat) : Int), (b : Int) + ((3 : Nat) : Int) - 1 - ((1 : Nat) : Int), (c : Int) + ((3 : Nat) : Int) - 1 - ((2 : Nat) : Int)] = _
      rw [show (a : Int) + ((3 : Nat) : Int) - 1 - ((0 : Nat) : Int) = ((a + 2 : Nat) : Int) by omega, show (b : Int) + ((3 : Nat) : Int) - 1 - ((1 : Nat) : Int) = ((b + 1 : Nat) : Int) by omega, show (c : Int) + ((3 : Nat) : Int) - 1 - ((2 : Nat) : Int) = c by omega]
    rw [hu]
    exact ⟨a + 2, b + 1, c, exOf3 _ _ _, by simp [Down]; omega, by simp; omega⟩
  | _ :: _ :: _ :: _ :: _, hd, _ => simp at hd

theorem addS_bound : ∀ {xs : List (Ex × Int)}, (∀ x ∈ xs, x.2 = 1 ∨ x.2 = -1) → ∀ e, -(xs.length : Int) ≤ sget (addS xs) e ∧ sget (addS xs) e ≤ xs.length := by
  intro xs
  induction xs using snocInd with
  | nil => intro _ e; simp [addS, sget]
  | snoc xs x ih =>
    intro h e
    have h1 := ih (fun y hy => h y (by simp [hy]))
    have h2 := h x (by simp)
    have h3 := h1 e
    have h4 := h1 x.1
    rw [addS_snoc, sget_sput]
    simp only [List.length_append, List.length_singleton]
    split <;> omega
theorem altI_one {d : Nat} {e : Ex} : ∀ x ∈ altI d e, x.2 = 1 ∨ x.2 = -1 := by
  intro x hx
  have h1 : x.2 ∈ sgnI d := (List.of_mem_zip hx).2
  unfold sgnI at h1
  obtain ⟨o, _, ho⟩ := List.mem_map.1 h1
  rw [← ho]; exact sgI_one
theorem sgnI_len {d : Nat} (_ : 1 ≤ d ∧ d ≤ 3) : (sgnI d).length = (ordI d).length := by simp [sgnI]
theorem altI_get {d : Nat} {e : Ex} (hd : 1 ≤ d ∧ d ≤ 3) {i : Nat} {o : List Nat} {s : Int} (ho : (ordI d)[i]? = some o) (hs : (sgnI d)[i]? = some s) : (altI d e)[i]? = some (partE o e o.length, s) := by
  have : (permsE d e)[i]? = some (partE o e o.length) := by rw [permsE_map hd, List.getElem?_map, ho]; rfl
  unfold altI
  rw [List.getElem?_zip_eq_some]
  exact ⟨this, hs⟩
theorem altI_len {d : Nat} {e : Ex} (hd : 1 ≤ d ∧ d ≤ 3) : (altI d e).length = (ordI d).length := by
  simp [altI, permsE_ord hd, sgnI_len hd]

set_option maxHeartbeats 2000000 in
set_option maxRecDepth 4000 in
theorem SchurPoly_ok (p : Int) (xs : List Int) (hl : xs.length ≤ 1048576) : CallOK Go.Proofs.Try.prog 52 [.one (i64 p), .one (vInts xs)] (schR p xs) := by
  have hF := fnOk 133 [.cell 4 57, .tmp 5]
  refine callOK hF 60 Go.Proofs.Try.func52 rfl rfl rfl (by decide) (by simp) rfl ?_
  intro w0 hw
  have S := @vc_sound w0 _ hF ⟨(schR p xs), []⟩ Go.Proofs.Try.f52 rfl (by simp)
  have c1 := isPrime_ok p
  have c2 := isVars_ok xs.length
  by_cases hp : Pr p
  · rw [decide_eq_true hp] at c1
    by_cases hd : 1 ≤ xs.length ∧ xs.length ≤ 3
    · have hd2 : 1 ≤ (xs.length : Int) ∧ (xs.length : Int) ≤ 3 := by omega
      rw [decide_eq_true hd2] at c2
      have hpp := hp.pos
      obtain ⟨x0, hx0⟩ : ∃ x, xs[0]? = some x := ⟨xs[0], List.getElem?_eq_getElem (by omega)⟩
      have hno : ∀ i, ¬ okAt xs i → schR p xs = pres 0 0 [] 2 := fun i h => schR_no fun hh => h (hh.2.2 i)
      have hlim : (∀ i, okAt xs i) → ¬ (upE xs.length xs).sum ≤ 12 → schR p xs = pres 0 0 [] 3 := fun h => schR_lim hp hd h
      have hyes : (∀ i, okAt xs i) → (upE xs.length xs).sum ≤ 12 → schR p xs = pres p xs.length (schQ p xs.length (exOf (upE xs.length xs))) 0 := fun h => schR_yes hp hd h
      generalize schR p xs = R at S hno hlim hyes ⊢
      simp
      refine CallW.ok (by decide) (by simp) c1 (by simp) (S 60 _ _ ?_)
      simp
      refine CallW.ok (by decide) (by simp) c2 (by simp) (S 60 _ _ ?_)
      simp
      refine J.loop hw (fun i : Nat => ⟨[(0, .c (.d (i64 p))), (1, .c (.d (vInts xs))), (4, .c (.ref 64004 0)), (5, .c (.d (i64 0))), (6, .c (.d (i64 xs.length))), (33, .c (.d (vInts xs))), (34, .c (.d (i64 xs.length))), (35, .c (.d (i64 i)))],
          [(64004, .var [.d (i64 0), .d (i64 0), .ob 64014]), (64014, .arr 130 4 [])]⟩)
        (fun i => i ≤ xs.length ∧ ∀ j < i, okAt xs j) (fun i => xs.length - i) 0 (by simp) (by simp) ?_
      rintro i ⟨hi, hok⟩
      refine S 8 _ _ ?_
      simp
      refine ⟨fun hlt => ?_, fun hge => ?_⟩
      · refine S 6 _ _ ?_
        simp
        refine ⟨hlt, fun x hx => ?_⟩
        by_cases hxn : x < 0
        · rw [hno i (fun h => by have := (h x hx).1; omega)] at S ⊢
          refine S 60 _ _ ?_
          simp [hxn]
        · by_cases hi0 : i = 0
          · subst hi0
            refine S 60 _ _ ?_
            simp [hxn]
            refine Nxt.mk 1 ⟨by omega, fun j hj => ?_⟩ (by simp) (by omega)
            obtain rfl : j = 0 := by omega
            exact fun z hz => by
              obtain rfl : x = z := Option.some.inj (hx.symm.trans hz)
              exact ⟨by omega, fun h => by omega⟩
          · obtain ⟨j, rfl⟩ : ∃ j, i = j + 1 := ⟨i - 1, by omega⟩
            obtain ⟨y, hy⟩ : ∃ y, xs[j]? = some y := ⟨xs[j]'(by omega), List.getElem?_eq_getElem (by omega)⟩
            have hw1 : IntKind.i64.wrap (j : Int) = j := wrap64 (by omega) (by omega)
            have hw2 : IntKind.i64.wrap ((j : Int) + 1 + 1) = j + 1 + 1 := wrap64 (by omega) (by omega)
            refine S 60 _ _ ?_
            simp [hxn, hw1, hw2]
            refine ⟨by omega, fun a ha => ?_⟩
            obtain rfl : y = a := Option.some.inj (hy.symm.trans ha)
            refine ⟨fun hlt2 => ?_, fun hge2 => ?_⟩
            · exact (hno (j + 1) fun h => by have := (h x hx).2 (by omega) y hy; omega).symm
            · refine Nxt.mk (j + 1 + 1) ⟨by omega, fun k hk => ?_⟩ (by simp) (by omega)
              by_cases e : k = j + 1
              · subst e
                exact fun z hz => by
                  obtain rfl : x = z := Option.some.inj (hx.symm.trans hz)
                  refine ⟨by omega, fun _ w hw => ?_⟩
                  obtain rfl : y = w := Option.some.inj (hy.symm.trans hw)
                  exact hge2
              · exact hok k (by omega)
      · have hall : ∀ j, okAt xs j := fun j => by
          by_cases hj : j < xs.length
          · exact hok j (by omega)
          · intro x hx
            have := (List.getElem?_eq_some_iff.1 hx).1
            omega
        have hb := ok_head hall hx0
        refine S 60 _ _ ?_
        simp
        refine ⟨by omega, fun x hx => ?_⟩
        obtain rfl : x0 = x := Option.some.inj (hx0.symm.trans hx)
        refine ⟨fun h12 => ?_, fun h12 => ?_⟩
        · exact (hlim hall (upE_first hall hx0 h12)).symm
        · have hul := upE_len xs.length xs
          have c3 := expsOf_ok (upE xs.length xs) (by omega)
          rw [hul] at c3
          have c4 := orders_ok xs.length hd
          refine J.loop hw (fun i : Nat => ⟨[(0, .c (.d (i64 p))), (1, .c (.d (vInts xs))), (4, .c (.ref 64004 0)), (5, .c (.d (i64 0))), (6, .c (.d (i64 xs.length))), (9, .c (.ob 64009)), (63, .c (.d (vInts xs))), (64, .c (.d (i64 xs.length))), (65, .c (.d (i64 i)))],
              [(64004, .var [.d (i64 0), .d (i64 0), .ob 64014]), (64014, .arr 130 4 []), (64009, .arr 2 1 (ints (upE xs.length (xs.take i))))]⟩)
            (fun i => i ≤ xs.length) (fun i => xs.length - i) 0 (by simp) (by simp [upE]) ?_
          intro i hi
          refine S 8 _ _ ?_
          simp
          refine ⟨fun hlt => ?_, fun hge => ?_⟩
          · obtain ⟨x, hx⟩ : ∃ x, xs[i]? = some x := ⟨xs[i], List.getElem?_eq_getElem hlt⟩
            refine S 6 _ _ ?_
            simp
            refine ⟨hlt, fun x' hx' => ?_⟩
            obtain rfl : x = x' := Option.some.inj (hx.symm.trans hx')
            have hxb := hb x (List.mem_of_getElem? hx)
            have hnx := upE_take (d := xs.length) hx
            have hw1 : IntKind.i64.wrap (x + xs.length) = x + xs.length := wrap64 (by omega) (by omega)
            have hw2 : IntKind.i64.wrap (x + xs.length - 1) = x + xs.length - 1 := wrap64 (by omega) (by omega)
            have hw3 : IntKind.i64.wrap (x + xs.length - 1 - i) = x + xs.length - 1 - i := wrap64 (by omega) (by omega)
            refine S 60 _ _ ?_
            simp [hw1, hw2, hw3]
            have hl1 := upE_len xs.length (xs.take i)
            rw [List.length_take] at hl1
            exact ⟨⟨by omega, by omega⟩, Nxt.mk (i + 1) (by omega) (by simp [hnx, wrapS (i := i) (n := xs.length) hlt (by omega)]) (by omega)⟩
          · have e1 : xs.take i = xs := List.take_of_length_le (by omega)
            rw [e1]
            have hnn := upE_nonneg hall
            by_cases h12s : (upE xs.length xs).sum ≤ 12
            · have e0 : expCode (upE xs.length xs) = 0 := by unfold expCode; rw [if_pos hnn, if_pos h12s]
              have e2 : expE (upE xs.length xs) = exOf (upE xs.length xs) := by unfold expE; rw [if_pos e0]
              obtain ⟨ka, kb, kc, he, hdn, hsum⟩ := upE_down hd hall
              obtain ⟨s1, s2, s3, _⟩ := schQ_ok hp hd hdn (by omega)
              rw [e0, e2, he] at c3
              rw [hyes hall h12s, he] at S ⊢
              generalize E ka kb kc = e at *
              have c5 := quotientOf_ok p xs.length (schQ p xs.length e) hp hd2 s1 s2
              obtain ⟨m1, m2, _⟩ := addS_ok (p := p) (by omega) (altI xs.length e)
              have hal := altI_len (e := e) hd
              obtain ⟨f1, f2⟩ := ordI_facts xs.length
              have c6 := poly_ok p xs.length (addS (altI xs.length e)) (by omega) m1 (by omega) (by omega)
              rw [addS_eq (by omega), s3] at c6
              generalize schQ p xs.length e = q0 at *
              clear hno hlim hyes hok hall s3 hnn h12s e0 e2 hsum hdn he
              refine S 60 _ _ ?_
              simp
              refine CallW.ok (by decide) (by simp) c3 (by simp) (S 60 _ _ ?_)
              simp
              refine CallW.ok (by decide) (by simp) c4 (by simp) (S 60 _ _ ?_)
              simp
              have hsl := sgnI_len hd
              have hget := fun i o s => altI_get (e := e) hd (i := i) (o := o) (s := s)
              have hbnd := fun i => addS_bound (xs := (altI xs.length e).take i) fun x hx => altI_one x (List.mem_of_mem_take hx)
              have hone : ∀ s ∈ sgnI xs.length, s = 1 ∨ s = -1 := fun s hs => by
                unfold sgnI at hs
                obtain ⟨o, _, ho⟩ := List.mem_map.1 hs
                rw [← ho]; exact sgI_one
              generalize altI xs.length e = al at *
              generalize sgnI xs.length = sg at *
              generalize ordI xs.length = ol at *
              generalize hdl : xs.length = d at *
              refine J.loop hw (fun i : Nat => ⟨[(0, .c (.d (i64 p))), (4, .c (.ref 64004 0)), (5, .c (.d (i64 0))), (6, .c (.d (i64 d))), (12, .c (.ref 64012 0)), (15, .c (.ob 64015)), (16, .c (.ob 64016)), (96, .c (.ob 64096)), (97, .c (.d (i64 ol.length))), (98, .c (.d (i64 i)))],
                  [(64004, .var [.d (i64 0), .d (i64 0), .ob 64014]), (64014, .arr 130 4 []), (64012, .var [.d (u8 e.a), .d (u8 e.b), .d (u8 e.c)]), (64015, .arr 2 1 (ints sg)), (64016, .mp (sumM (addS (al.take i)))), (64096, .arr 117 1 (ol.map fun x => [oNats x]))]⟩)
                (fun i => i ≤ ol.length) (fun i => ol.length - i) 0 (by simp) (by simp [addS]) ?_
              clear hge hi
              intro i hi
              refine S 8 _ _ ?_
              simp
              refine ⟨fun hlt => ?_, fun hge => ?_⟩
              · refine S 6 _ _ ?_
                simp
                refine ⟨hlt, fun o ho => ?_⟩
                obtain ⟨f3, f4⟩ := f2 o (List.mem_of_getElem? ho)
                obtain ⟨s, hs⟩ : ∃ s, sg[i]? = some s := ⟨sg[i]'(by omega), List.getElem?_eq_getElem (by omega)⟩
                have hal2 := hget i o s ho hs
                refine S 60 _ _ ?_
                simp
                refine J.loop hw (fun j : Nat => ⟨[(0, .c (.d (i64 p))), (4, .c (.ref 64004 0)), (5, .c (.d (i64 0))), (6, .c (.d (i64 d))), (12, .c (.ref 64012 0)), (15, .c (.ob 64015)), (16, .c (.ob 64016)), (96, .c (.ob 64096)), (97, .c (.d (i64 ol.length))), (98, .c (.d (i64 i))), (17, .c (.d (i64 i))), (19, .c (.ref 64019 0)), (104, .c (.d (vNats o))), (105, .c (.d (i64 o.length))), (106, .c (.d (i64 j)))],
                    [(64004, .var [.d (i64 0), .d (i64 0), .ob 64014]), (64014, .arr 130 4 []), (64012, .var [.d (u8 e.a), .d (u8 e.b), .d (u8 e.c)]), (64015, .arr 2 1 (ints sg)), (64016, .mp (sumM (addS (al.take i)))), (64096, .arr 117 1 (ol.map fun x => [oNats x])), (64019, .var [.d (u8 (partE o e j).a), .d (u8 (partE o e j).b), .d (u8 (partE o e j).c)])]⟩)
                  (fun j => j ≤ o.length) (fun j => o.length - j) 0 (by simp) (by simp [partE]) ?_
                intro j hj
                refine S 8 _ _ ?_
                simp
                refine ⟨fun hlt2 => ?_, fun hge2 => ?_⟩
                · refine S 6 _ _ ?_
                  simp
                  refine ⟨hlt2, fun a ha => ?_⟩
                  have ha3 := f4 a (List.mem_of_getElem? ha)
                  have hn : partE o e (j + 1) = setE (partE o e j) a (getE e j) := by rw [partE, ha]; rfl
                  generalize partE o e j = x at hn ⊢
                  have hj3 : j = 0 ∨ j = 1 ∨ j = 2 := by omega
                  have ha4 : a = 0 ∨ a = 1 ∨ a = 2 := by omega
                  rcases hj3 with rfl | rfl | rfl
                  · rcases ha4 with rfl | rfl | rfl
                    all_goals
                      simp only [getE, setE] at hn
                      refine S 60 _ _ ?_
                      simp
                      exact Nxt.mk 1 (by omega) (by simp [hn]) (by omega)
                  · rcases ha4 with rfl | rfl | rfl
                    all_goals
                      simp only [getE, setE] at hn
                      refine S 60 _ _ ?_
                      simp
                      exact Nxt.mk 2 (by omega) (by simp [hn]) (by omega)
                  · rcases ha4 with rfl | rfl | rfl
                    all_goals
                      simp only [getE, setE] at hn
                      refine S 60 _ _ ?_
                      simp
                      exact Nxt.mk 3 (by omega) (by simp [hn]) (by omega)
                · have : j = o.length := by omega
                  subst this
                  have hnext := addS_take hal2
                  have hs1 := hone s (List.mem_of_getElem? hs)
                  have hb2 := hbnd i (partE o e o.length)
                  rw [List.length_take] at hb2
                  simp only at hnext
                  generalize partE o e o.length = x at hb2 hnext ⊢
                  generalize addS (al.take i) = l at hb2 hnext ⊢
                  have hg := mpGet_sum l x
                  have hgt := mpGet_touch (l.map fun p => sumE p) (exK x) (.int .i64 0)
                  have hat := mpAt_touch (l.map fun p => sumE p) (exK x) (.int .i64 0)
                  have hadd := mpAdd_sum l x (sget l x + s)
                  rw [hg] at hgt
                  generalize sget l x = n0 at *
                  simp only [exK] at hg hgt hat hadd
                  have w1 : IntKind.i64.wrap (n0 + s) = n0 + s := wrap64 (by omega) (by omega)
                  refine S 4 _ _ ?_
                  simp
                  refine J.dr3 hF mixed 10 [[], [], [0, 1], [], [], [3, 4], [3, 4, 5], [0, 1, 2, 3, 4, 5, 6], [0, 1, 3, 4, 5, 6], [0, 1, 3, 4, 5, 6, 8], [0, 1, 2, 3, 4, 5, 6, 7, 8, 9]] [[117, 118, 119, 120, 121, 122, 123, 124, 125, 126], [117, 118, 119, 120, 121, 122, 123, 124, 125, 126], [119, 120, 121, 122, 123, 124, 125, 126], [117, 118, 119, 120, 121, 122, 123, 124, 125, 126], [117, 118, 119, 120, 121, 122, 123, 124, 125, 126], [117, 118, 119, 122, 123, 124, 125, 126], [117, 118, 119, 123, 124, 125, 126], [124, 125, 126], [119, 124, 125, 126], [119, 124, 126]] [[], [], [], [], [], [], [], [], [64016], []] [[], [], [], [], [], [], [], [64016], [], []] [(2, 8, 64016)] [(8, .mp ⟨.u8, 3, mpTouch (l.map fun p => sumE p) [(x.a.toNat : Int), x.b.toNat, x.c.toNat] (.int .i64 0)⟩)] (by decide) ?_
                  simp [hg, hgt]
                  refine ⟨by omega, fun s' hs' => ?_⟩
                  obtain rfl : s = s' := Option.some.inj (hs.symm.trans hs')
                  refine S 60 _ _ ?_
                  simp [hadd, w1]
                  refine ⟨hat, ?_⟩
                  exact Nxt.mk (i + 1) (by omega) (by simp [hnext, wrapS (i := i) (n := ol.length) hlt (by omega)]) (by omega)
              · have e3 : al.take i = al := List.take_of_length_le (by omega)
                rw [e3]
                refine S 60 _ _ ?_
                simp
                refine CallW.ok (by decide) (by simp) c6 (by simp) (S 60 _ _ ?_)
                simp
                refine CallW.ok (by decide) (by simp) c5 (by simp) (S 60 _ _ ?_)
                simp
            · have e0 : expCode (upE xs.length xs) = 3 := by unfold expCode; rw [if_pos hnn, if_neg h12s]
              rw [hlim hall h12s] at S ⊢
              rw [e0] at c3
              refine S 60 _ _ ?_
              simp
              refine CallW.ok (by decide) (by simp) c3 (by simp) (S 60 _ _ ?_)
              simp
    · have hd2 : ¬ (1 ≤ (xs.length : Int) ∧ (xs.length : Int) ≤ 3) := by omega
      rw [decide_eq_false hd2] at c2
      have e : schR p xs = pres 0 0 [] 2 := schR_no fun h => hd h.2.1
      rw [e] at S ⊢
      simp
      refine CallW.ok (by decide) (by simp) c1 (by simp) (S 60 _ _ ?_)
      simp
      refine CallW.ok (by decide) (by simp) c2 (by simp) (S 60 _ _ ?_)
      simp
  · have e : schR p xs = pres 0 0 [] 2 := schR_no fun h => hp h.1
    rw [e] at S ⊢
    rw [decide_eq_false hp] at c1
    simp
    refine CallW.ok (by decide) (by simp) c1 (by simp) (S 60 _ _ ?_)
    simp
end Go.Sm

namespace Go.Sm
open Go.RowKit

/-- The sum of the first exponents, kept at most 100. -/
def satE (d : Nat) (xs : List Int) : Nat → Int
  | 0 => 0
  | i + 1 => min (satE d xs i + min (xs[i]?.getD 0) 100 + d - 1 - i) 100
theorem satE_eq {d : Nat} {xs : List Int} (hd : xs.length ≤ d) : ∀ {i : Nat}, i ≤ xs.length → (∀ x ∈ xs.take i, 0 ≤ x) → 0 ≤ (upE d (xs.take i)).sum ∧ satE d xs i = min (upE d (xs.take i)).sum 100
  | 0, _, _ => by simp [satE, upE]; omega
  | i + 1, hi, h => by
    obtain ⟨ih1, ih2⟩ := satE_eq (d := d) (xs := xs) hd (i := i) (by omega) fun x hx => h x ((List.take_prefix_take_left (by omega)).subset hx)
    have ha : xs[i]? = some xs[i] := List.getElem?_eq_getElem (by omega)
    have h0 : 0 ≤ xs[i] := h _ (by rw [List.take_add_one, ha, List.mem_append]; exact .inr (List.mem_singleton_self _))
    rw [upE_take ha, List.sum_append, satE, ih2, ha]
    simp only [List.sum_cons, List.sum_nil, Option.getD_some]
    omega

theorem sgS_len {d : Nat} (hd : 1 ≤ d ∧ d ≤ 3) : (sgS d).length = (ordS d).length := by
  have : d = 1 ∨ d = 2 ∨ d = 3 := by omega
  rcases this with rfl | rfl | rfl <;> rfl
theorem altS_get {p : Int} {d : Nat} {e : Ex} {i : Nat} {o : List Int} {s : Int} (ho : (ordS d)[i]? = some o) (hs : (sgS d)[i]? = some s) : (altS p d e)[i]? = some (partS o e d, s % p) := by
  have h1 : (permsS d e)[i]? = some (partS o e d) := by unfold permsS; rw [List.getElem?_map, ho]; rfl
  have h2 : ((sgS d).map (· % p))[i]? = some (s % p) := by rw [List.getElem?_map, hs]; rfl
  unfold altS
  rw [List.getElem?_zip_eq_some]
  exact ⟨h1, h2⟩
theorem altS_len {p : Int} {d : Nat} {e : Ex} (hd : 1 ≤ d ∧ d ≤ 3) : (altS p d e).length = (ordS d).length := by
  simp [altS, permsS, sgS_len hd]

set_option maxHeartbeats 2000000 in
set_option maxRecDepth 4000 in
theorem specSchurPoly_ok (p : Int) (xs : List Int) (hl : xs.length ≤ 1048576) : CallOK Go.Proofs.Try.prog 51 [.one (i64 p), .one (vInts xs)] (schR p xs) := by
  have hF := fnOk 114 [.cell 4 57, .tmp 5]
  refine callOK hF 60 Go.Proofs.Try.func51 rfl rfl rfl (by decide) (by simp) rfl ?_
  intro w0 hw
  have S := @vc_sound w0 _ hF ⟨(schR p xs), []⟩ Go.Proofs.Try.f51 rfl (by simp)
  have c1 := l08Shape_ok p xs.length
  by_cases hp : Pr p ∧ 1 ≤ (xs.length : Int) ∧ (xs.length : Int) ≤ 3
  · rw [decide_eq_true hp] at c1
    have hd : 1 ≤ xs.length ∧ xs.length ≤ 3 := by omega
    have hpp := hp.1.pos
    have hno : ∀ i, ¬ okAt xs i → schR p xs = pres 0 0 [] 2 := fun i h => schR_no fun hh => h (hh.2.2 i)
    have hlim : (∀ i, okAt xs i) → ¬ (upE xs.length xs).sum ≤ 12 → schR p xs = pres 0 0 [] 3 := fun h => schR_lim hp.1 hd h
    have hyes : (∀ i, okAt xs i) → (upE xs.length xs).sum ≤ 12 → schR p xs = pres p xs.length (schQ p xs.length (exOf (upE xs.length xs))) 0 := fun h => schR_yes hp.1 hd h
    generalize schR p xs = R at S hno hlim hyes ⊢
    simp
    refine CallW.ok (by decide) (by simp) c1 (by simp) (S 60 _ _ ?_)
    simp
    refine J.loop hw (fun i : Nat => ⟨[(0, .c (.d (i64 p))), (1, .c (.d (vInts xs))), (4, .c (.ref 64004 0)), (5, .c (.d (i64 0))), (6, .c (.d (i64 xs.length))), (7, .c (.d (i64 (satE xs.length xs i)))), (8, .c (.d (i64 i)))],
        [(64004, .var [.d (i64 0), .d (i64 0), .ob 64014]), (64014, .arr 130 4 [])]⟩)
      (fun i => i ≤ xs.length ∧ ∀ j < i, okAt xs j) (fun i => xs.length - i) 0 (by simp) (by simp [satE]) ?_
    rintro i ⟨hi, hok⟩
    have hnn : ∀ x ∈ xs.take i, 0 ≤ x := fun x hx => by
      obtain ⟨j, hj, rfl⟩ := List.getElem_of_mem hx
      rw [List.length_take] at hj
      rw [List.getElem_take]
      exact (hok j (by omega) _ (List.getElem?_eq_getElem (by omega))).1
    obtain ⟨ht1, ht2⟩ := satE_eq (Nat.le_refl xs.length) hi hnn
    refine S 10 _ _ ?_
    simp
    refine ⟨fun hlt => ?_, fun hge => ?_⟩
    · obtain ⟨x, hx⟩ : ∃ x, xs[i]? = some x := ⟨xs[i], List.getElem?_eq_getElem hlt⟩
      refine S 3 _ _ ?_
      simp
      refine J.dr hF mixed 18 [[], [], [0, 1], [0, 1, 2], [0, 1, 2, 3], [0, 1, 2, 3, 4], [0, 1, 2, 3, 4, 5], [0, 1, 2, 3, 4, 5, 6], [0, 1, 2, 3, 4, 5, 6, 7], [0, 1, 2, 3, 4, 5, 6, 7, 8], [0, 1, 2, 3, 4, 5, 6, 7, 8], [0, 1, 2, 3, 4, 5, 6, 7, 8, 9, 10], [0, 1, 2, 3, 4, 5, 6, 7, 8, 9, 10, 11], [0, 1, 2, 3, 4, 5, 6, 7, 8], [0, 1, 2, 3, 4, 5, 6, 7, 8], [0, 1, 2, 3, 4, 5, 6, 7, 8, 14], [0, 1, 2, 3, 4, 5, 6, 7, 8, 13, 14, 15], [0, 1, 2, 3, 4, 5, 6, 7, 8, 13, 14, 15, 16], [0, 1, 2, 3, 4, 5, 6, 7, 8, 9, 10, 11, 12, 13, 14, 15, 16, 17], [0, 1, 2, 3, 4, 5, 6, 7, 8, 9, 10, 11, 12, 13, 14, 15, 16, 17, 18], [0, 1, 2, 3, 4, 5, 6, 7, 8, 9, 10, 11, 12, 13, 14, 15, 16, 17, 18, 19]] [[27, 28, 29, 30, 31, 32, 33, 34, 35, 36, 37, 38, 39, 40, 41, 42, 43, 44], [27, 28, 29, 30, 31, 32, 33, 34, 35, 36, 37, 38, 39, 40, 41, 42, 43, 44], [29, 30, 31, 32, 33, 34, 35, 36, 37, 38, 39, 40, 41, 42, 43, 44], [30, 31, 32, 33, 34, 35, 36, 37, 38, 39, 40, 41, 42, 43, 44], [31, 32, 33, 34, 35, 36, 37, 38, 39, 40, 41, 42, 43, 44], [32, 33, 34, 35, 36, 37, 38, 39, 40, 41, 42, 43, 44], [33, 34, 35, 36, 37, 38, 39, 40, 41, 42, 43, 44], [34, 35, 36, 37, 38, 39, 40, 41, 42, 43, 44], [35, 36, 37, 38, 39, 40, 41, 42, 43, 44], [36, 37, 38, 39, 40, 41, 42, 43, 44], [36, 37, 38, 39, 40, 41, 42, 43, 44], [38, 39, 40, 41, 42, 43, 44], [39, 40, 41, 42, 43, 44], [36, 37, 38, 39, 40, 41, 42, 43, 44], [36, 37, 38, 39, 40, 41, 42, 43, 44], [36, 37, 38, 39, 40, 42, 43, 44], [36, 37, 38, 39, 43, 44], [36, 37, 38, 39, 44]] (by decide) ?_
      simp
      refine ⟨hlt, fun a ha => ?_⟩
      obtain rfl : x = a := Option.some.inj (hx.symm.trans ha)
      by_cases hxn : x < 0
      · rw [hno i (fun h => by have := (h x hx).1; omega)] at S ⊢
        have hxn' : ¬ 0 ≤ x := by omega
        simp [hxn, hxn']
        refine S 60 _ _ ?_
        simp
      · have hxn' : 0 ≤ x := by omega
        have hst : satE xs.length xs (i + 1) = min (satE xs.length xs i + min x 100 + xs.length - 1 - i) 100 := by rw [satE, hx]; rfl
        have hsb : 0 ≤ satE xs.length xs i ∧ satE xs.length xs i ≤ 100 := by omega
        have hmb : 0 ≤ min x 100 ∧ min x 100 ≤ 100 := by omega
        generalize satE xs.length xs i = sa at *
        have hw4 : IntKind.i64.wrap (sa + min x 100) = sa + min x 100 := wrap64 (by omega) (by omega)
        have hw5 : IntKind.i64.wrap (sa + min x 100 + xs.length) = sa + min x 100 + xs.length := wrap64 (by omega) (by omega)
        have hw6 : IntKind.i64.wrap (sa + min x 100 + xs.length - 1) = sa + min x 100 + xs.length - 1 := wrap64 (by omega) (by omega)
        have hw7 : IntKind.i64.wrap (sa + min x 100 + xs.length - 1 - i) = sa + min x 100 + xs.length - 1 - i := wrap64 (by omega) (by omega)
        have hm : (if 100 < x then 100 else x) = min x 100 := by split <;> omega
        by_cases hi0 : i = 0
        · subst hi0
          simp [hxn, hxn']
          refine S 16 _ _ ?_
          simp
          refine ⟨hlt, fun b hb => ?_⟩
          obtain rfl : x = b := Option.some.inj (hx.symm.trans hb)
          rw [hm, hw4, hw5]
          simp at hw7
          refine S 60 _ _ ?_
          simp [hw6]
          refine Nxt.mk 1 ⟨by omega, fun j hj => ?_⟩ (by simp; rw [hst]; split <;> omega) (by omega)
          obtain rfl : j = 0 := by omega
          exact fun z hz => by
            obtain rfl : x = z := Option.some.inj (hx.symm.trans hz)
            exact ⟨by omega, fun h => by omega⟩
        · obtain ⟨j, rfl⟩ : ∃ j, i = j + 1 := ⟨i - 1, by omega⟩
          obtain ⟨y, hy⟩ : ∃ y, xs[j]? = some y := ⟨xs[j]'(by omega), List.getElem?_eq_getElem (by omega)⟩
          have hw1 : IntKind.i64.wrap (j : Int) = j := wrap64 (by omega) (by omega)
          have hw2 : IntKind.i64.wrap ((j : Int) + 1 + 1) = j + 1 + 1 := wrap64 (by omega) (by omega)
          simp [hxn, hxn', hw1]
          refine ⟨hlt, fun a ha2 => ?_⟩
          obtain rfl : x = a := Option.some.inj (hx.symm.trans ha2)
          refine ⟨by omega, fun a ha3 => ?_⟩
          obtain rfl : y = a := Option.some.inj (hy.symm.trans ha3)
          by_cases hyx : y < x
          · rw [hno (j + 1) (fun h => by have := (h x hx).2 (by omega) y hy; omega)] at S ⊢
            refine S 60 _ _ ?_
            simp [hyx]
          · refine S 16 _ _ ?_
            simp [hyx]
            refine ⟨by omega, fun b hb => ?_⟩
            obtain rfl : x = b := Option.some.inj (hx.symm.trans hb)
            rw [hm, hw4, hw5]
            rw [show ((j + 1 : Nat) : Int) = (j : Int) + 1 by omega] at hw7
            refine S 60 _ _ ?_
            simp [hw6, hw7, hw2]
            refine Nxt.mk (j + 1 + 1) ⟨by omega, fun k hk => ?_⟩ (by simp; rw [hst]; split <;> omega) (by omega)
            by_cases e : k = j + 1
            · subst e
              exact fun z hz => by
                obtain rfl : x = z := Option.some.inj (hx.symm.trans hz)
                refine ⟨by omega, fun _ w hw => ?_⟩
                obtain rfl : y = w := Option.some.inj (hy.symm.trans hw)
                omega
            · exact hok k (by omega)
    · have hall : ∀ j, okAt xs j := fun j => by
        by_cases hj : j < xs.length
        · exact hok j (by omega)
        · intro x hx
          have := (List.getElem?_eq_some_iff.1 hx).1
          omega
      have e1 : xs.take i = xs := List.take_of_length_le (by omega)
      have e2 : i = xs.length := by omega
      rw [e1] at ht1 ht2
      by_cases h12s : (upE xs.length xs).sum ≤ 12
      · have hns : ¬ 12 < satE xs.length xs i := by rw [ht2]; omega
        obtain ⟨ka, kb, kc, he, hdn, hsum⟩ := upE_down hd hall
        obtain ⟨s1, s2, _, s3⟩ := schQ_ok hp.1 hd hdn (by omega)
        rw [hyes hall h12s, he] at S ⊢
        have hex : ∀ j a, (upE xs.length xs)[j]? = some a → j ≤ 2 → getE (E ka kb kc) j = by8 a := fun j a h hj => by
          rw [← he]
          have : j = 0 ∨ j = 1 ∨ j = 2 := by omega
          rcases this with rfl | rfl | rfl <;> simp [getE, exOf, h]
        generalize E ka kb kc = e at *
        have c5 := l08Quotient_ok p xs.length (schQ p xs.length e) hp.1 hp.2 s1 s2
        have hal := altS_len (p := p) (e := e) hd
        have hget := fun i o s => altS_get (p := p) (e := e) (d := xs.length) (i := i) (o := o) (s := s)
        have c4 := l08Orders_ok xs.length hd.2
        have c6 := l01Empty_ok p xs.length
        obtain ⟨f1, f2⟩ := ordS_facts hd.2
        have hsl := sgS_len hd
        refine S 60 _ _ ?_
        simp [hns]
        refine CallW.ok (by decide) (by simp) c6 (by simp) (S 60 _ _ ?_)
        simp
        refine CallW.ok (by decide) (by simp) c4 (by simp) (S 60 _ _ ?_)
        simp
        have hx12 : ∀ x ∈ xs, 0 ≤ x ∧ x ≤ 12 := fun x hx => by
          obtain ⟨x0, hx0⟩ : ∃ x, xs[0]? = some x := ⟨xs[0], List.getElem?_eq_getElem (by omega)⟩
          have h1 := ok_head hall hx0 x hx
          have h2 : ¬ 12 < x0 := fun h => upE_first hall hx0 h h12s
          omega
        have hup : ∀ (j : Nat) (x : Int), xs[j]? = some x → (upE xs.length xs)[j]? = some (x + xs.length - 1 - j) := fun j x h => by simp [upE, h]
        have hone : ∀ s ∈ sgS xs.length, s = 1 ∨ s = -1 := fun s hs => by
          have : xs.length = 1 ∨ xs.length = 2 ∨ xs.length = 3 := by omega
          rcases this with h | h | h <;> rw [h] at hs <;> revert s <;> decide
        have hcan := fun i => putL_lin (p := p) (by omega) (fun _ => 0) ((altS p xs.length e).take i)
        generalize altS p xs.length e = al at *
        generalize sgS xs.length = sg at *
        generalize ordS xs.length = L at *
        clear hyes hlim hno hok hall ht1 ht2 hsum hdn he
        refine J.loop hw (fun i : Nat => ⟨[(0, .c (.d (i64 p))), (1, .c (.d (vInts xs))), (4, .c (.ref 64004 0)), (5, .c (.d (i64 0))), (6, .c (.d (i64 xs.length))), (9, .c (.ref 64009 0)), (10, .c (.ob 64010)), (11, .c (.ob 64011)), (12, .c (.d (i64 i)))],
            [(64004, .var [.d (i64 0), .d (i64 0), .ob 64014]), (64014, .arr 130 4 []), (64009, .var [.d (i64 p), .d (i64 xs.length), .ob 64019]), (64019, .arr 130 4 (terms (putL p (al.take i)))), (64010, .arr 25 1 (L.map fun x => [oInts x])), (64011, .arr 2 1 (ints sg))]⟩)
          (fun i => i ≤ L.length) (fun i => L.length - i) 0 (by simp) (by simp [putL]) ?_
        clear hge hi hnn e1 e2 hns
        intro i hi
        refine S 10 _ _ ?_
        simp
        refine ⟨fun hlt => ?_, fun hge => ?_⟩
        · obtain ⟨o, ho⟩ : ∃ o, L[i]? = some o := ⟨L[i], List.getElem?_eq_getElem hlt⟩
          obtain ⟨s, hs⟩ : ∃ s, sg[i]? = some s := ⟨sg[i]'(by omega), List.getElem?_eq_getElem (by omega)⟩
          obtain ⟨f3, f4⟩ := f2 o (List.mem_of_getElem? ho)
          have hal2 := hget i o s ho hs
          refine S 60 _ _ ?_
          simp
          refine J.loop hw (fun j : Nat => ⟨[(0, .c (.d (i64 p))), (1, .c (.d (vInts xs))), (4, .c (.ref 64004 0)), (5, .c (.d (i64 0))), (6, .c (.d (i64 xs.length))), (9, .c (.ref 64009 0)), (10, .c (.ob 64010)), (11, .c (.ob 64011)), (12, .c (.d (i64 i))), (13, .c (.ref 64013 0)), (14, .c (.d (i64 j)))],
              [(64004, .var [.d (i64 0), .d (i64 0), .ob 64014]), (64014, .arr 130 4 []), (64009, .var [.d (i64 p), .d (i64 xs.length), .ob 64019]), (64019, .arr 130 4 (terms (putL p (al.take i)))), (64010, .arr 25 1 (L.map fun x => [oInts x])), (64011, .arr 2 1 (ints sg)), (64013, .var [.d (u8 (partS o e j).a), .d (u8 (partS o e j).b), .d (u8 (partS o e j).c)])]⟩)
            (fun j => j ≤ xs.length) (fun j => xs.length - j) 0 (by simp) (by simp [partS]) ?_
          intro j hj
          refine S 12 _ _ ?_
          simp
          refine ⟨fun hlt2 => ?_, fun hge2 => ?_⟩
          · refine J.dr hF mixed 17 [[], [], [0, 1], [0, 1, 2], [], [0, 1, 2, 3, 4], [0, 1, 2, 3, 4, 5], [], [], [7, 8], [7, 8, 9], [], [7, 8, 9, 10, 11], [7, 8, 9, 10, 11, 12], [], [7, 8, 9, 10, 11, 12, 13, 14], [7, 8, 9, 10, 11, 12, 13, 14, 15], [0, 1, 2, 3, 4, 5, 6, 7, 8, 9, 10, 11, 12, 13, 14, 15, 16], [0, 1, 2, 3, 4, 5, 6, 7, 8, 9, 10, 11, 12, 13, 14, 15, 16, 17]] [[85, 86, 87, 88, 89, 90, 91, 92, 93, 94, 95, 96, 97, 98, 99, 100, 101], [85, 86, 87, 88, 89, 90, 91, 92, 93, 94, 95, 96, 97, 98, 99, 100, 101], [87, 88, 89, 90, 91, 92, 93, 94, 95, 96, 97, 98, 99, 100, 101], [88, 89, 90, 91, 92, 93, 94, 95, 96, 97, 98, 99, 100, 101], [85, 86, 87, 88, 89, 90, 91, 92, 93, 94, 95, 96, 97, 98, 99, 100, 101], [90, 91, 92, 93, 94, 95, 96, 97, 98, 99, 100, 101], [91, 92, 93, 94, 95, 96, 97, 98, 99, 100, 101], [85, 86, 87, 88, 89, 90, 91, 92, 93, 94, 95, 96, 97, 98, 99, 100, 101], [85, 86, 87, 88, 89, 90, 91, 92, 93, 94, 95, 96, 97, 98, 99, 100, 101], [85, 86, 87, 88, 89, 90, 91, 94, 95, 96, 97, 98, 99, 100, 101], [85, 86, 87, 88, 89, 90, 91, 95, 96, 97, 98, 99, 100, 101], [85, 86, 87, 88, 89, 90, 91, 92, 93, 94, 95, 96, 97, 98, 99, 100, 101], [85, 86, 87, 88, 89, 90, 91, 97, 98, 99, 100, 101], [85, 86, 87, 88, 89, 90, 91, 98, 99, 100, 101], [85, 86, 87, 88, 89, 90, 91, 92, 93, 94, 95, 96, 97, 98, 99, 100, 101], [85, 86, 87, 88, 89, 90, 91, 100, 101], [85, 86, 87, 88, 89, 90, 91, 101]] (by decide) ?_
            rw [← List.take_append_drop 4 (List.take 17 _)]
            generalize htl : List.drop 4 (List.take 17 _) = tl
            simp
            refine ⟨hlt, fun o' ho' => ?_⟩
            obtain rfl : o = o' := Option.some.inj (ho.symm.trans ho')
            subst htl
            rw [← List.take_append_drop 3 (List.drop 4 (List.take 17 _))]
            generalize htl : List.drop 3 (List.drop 4 (List.take 17 _)) = tl
            simp
            refine ⟨by omega, fun n hn => ?_⟩
            subst htl
            simp
            refine ⟨hlt2, fun v hv => ?_⟩
            have h2 := hex j _ (hup j v hv) (by omega)
            have hv12 := hx12 v (List.mem_of_getElem? hv)
            have hn0 : partS o e (j + 1) = setE (partS o e j) n.toNat (by8 (v + xs.length - 1 - j)) := by rw [partS, hn, ← h2]; rfl
            have w1 : IntKind.i64.wrap (v + xs.length) = v + xs.length := wrap64 (by omega) (by omega)
            have w2 : IntKind.i64.wrap (v + xs.length - 1) = v + xs.length - 1 := wrap64 (by omega) (by omega)
            have w3 : IntKind.i64.wrap (v + xs.length - 1 - j) = v + xs.length - 1 - j := wrap64 (by omega) (by omega)
            generalize partS o e j = x at hn0 ⊢
            rcases f4 n (List.mem_of_getElem? hn) with rfl | rfl | rfl
            all_goals
              simp only [setE, Int.toNat_zero, Int.toNat_one, Int.reduceToNat] at hn0
              refine S 60 _ _ ?_
              simp [w1, w2, w3]
              exact Nxt.mk (j + 1) (by omega) (by simp [hn0, wrapS (i := j) (n := xs.length) hlt2 (by omega)]) (by omega)
          · have : j = xs.length := by omega
            subst this
            have hnext := putL_take (p := p) hal2
            obtain ⟨q1, q2, _⟩ := hcan i
            rw [List.length_take] at q2
            have hs1 := hone s (List.mem_of_getElem? hs)
            simp only at hnext
            have hmb : 0 ≤ s % p ∧ s % p < p := ⟨Int.emod_nonneg _ (by omega), Int.emod_lt_of_pos _ (by omega)⟩
            generalize partS o e xs.length = x at hnext ⊢
            generalize putL p (al.take i) = ts at q1 q2 hnext ⊢
            have hcb := coef_bound (show 0 < p by omega) q1 x
            have c7 := l01Mod_ok p s (by omega) (by omega)
            have c8 := l01Put_ok p xs.length ts x (s % p) (by omega) (by omega) (by omega) (by omega) (by omega)
            refine S 1 _ _ ?_
            simp
            refine J.dr hF mixed 8 [[], [], [], [], [], [3, 4], [3, 4, 5], [2, 3, 4, 5, 6], [0, 1, 2, 3, 4, 5, 6, 7], [0, 1, 2, 3, 4, 5, 6, 7, 8]] [[103, 104, 105, 106, 107, 108, 109, 110], [103, 104, 105, 106, 107, 108, 109, 110], [103, 104, 105, 106, 107, 108, 109, 110], [103, 104, 105, 106, 107, 108, 109, 110], [103, 104, 105, 106, 107, 108, 109, 110], [103, 104, 105, 108, 109, 110], [103, 104, 105, 109, 110], [103, 104, 110]] (by decide) ?_
            simp
            refine ⟨by omega, fun b hb => ?_⟩
            obtain rfl : s = b := Option.some.inj (hs.symm.trans hb)
            refine DrC.ok hF (by rfl) (by simp) c7 (by simp) (by simp) ?_
            simp
            refine S 60 _ _ ?_
            simp
            refine CallW.ok (by decide) (by simp) c8 (by simp) (S 60 _ _ ?_)
            simp
            exact Nxt.mk (i + 1) (by omega) (by simp [hnext, wrapS (i := i) (n := L.length) hlt (by omega)]) (by omega)
        · have e3 : al.take i = al := List.take_of_length_le (by omega)
          rw [e3, s3]
          refine S 60 _ _ ?_
          simp
          refine CallW.ok (by decide) (by simp) c5 (by simp) (S 60 _ _ ?_)
          simp
      · have hns : 12 < satE xs.length xs i := by rw [ht2]; omega
        rw [hlim hall h12s] at S ⊢
        refine S 60 _ _ ?_
        simp [hns]
  · have e : schR p xs = pres 0 0 [] 2 := schR_no fun h => hp ⟨h.1, by omega⟩
    rw [e] at S ⊢
    rw [decide_eq_false hp] at c1
    simp
    refine CallW.ok (by decide) (by simp) c1 (by simp) (S 60 _ _ ?_)
    simp
theorem schR_small (p : Int) (xs : List Int) : PresS (schR p xs) := by
  by_cases h : Pr p ∧ (1 ≤ xs.length ∧ xs.length ≤ 3) ∧ ∀ i, okAt xs i
  · by_cases h12 : (upE xs.length xs).sum ≤ 12
    · rw [schR_yes h.1 h.2.1 h.2.2 h12]
      obtain ⟨a, b, c, he, hdn, hsum⟩ := upE_down h.2.1 h.2.2
      obtain ⟨s1, s2, _⟩ := schQ_ok h.1 h.2.1 hdn (by omega)
      rw [he]
      have := can_len s1 s2 (by omega)
      exact ⟨_, _, _, _, rfl, by omega⟩
    · rw [schR_lim h.1 h.2.1 h.2.2 h12]
      exact ⟨_, _, _, _, rfl, by simp⟩
  · rw [schR_no h]
    exact ⟨_, _, _, _, rfl, by simp⟩

end Go.Sm
