/- Monomial sums: the program's and the reference's. -/
import Derived.Test.YtihinogdolhjcaaQdA
namespace Go.Sm
open Go.RowKit

/-- The exponents that the orders of d letters make of e. -/
def permsE : Nat → Ex → List Ex
  | 2, e => [⟨e.a, e.b, 0⟩, ⟨e.b, e.a, 0⟩]
  | 3, e => [⟨e.a, e.b, e.c⟩, ⟨e.a, e.c, e.b⟩, ⟨e.b, e.a, e.c⟩, ⟨e.c, e.a, e.b⟩, ⟨e.b, e.c, e.a⟩, ⟨e.c, e.b, e.a⟩]
  | _, e => [⟨e.a, 0, 0⟩]
theorem permsE_len (d : Nat) (e : Ex) : (permsE d e).length ≤ 6 := by unfold permsE; split <;> simp

theorem permsE_ord {d : Nat} {e : Ex} (hd : 1 ≤ d ∧ d ≤ 3) : (permsE d e).length = (ordI d).length := by
  have : d = 1 ∨ d = 2 ∨ d = 3 := by omega
  rcases this with rfl | rfl | rfl <;> rfl

def getE (e : Ex) : Nat → UInt8
  | 0 => e.a
  | 1 => e.b
  | _ => e.c
def setE (x : Ex) (k : Nat) (v : UInt8) : Ex := match k with
  | 0 => ⟨v, x.b, x.c⟩
  | 1 => ⟨x.a, v, x.c⟩
  | _ => ⟨x.a, x.b, v⟩
/-- The exponents e laid by the order o: the first j. -/
def partE (o : List Nat) (e : Ex) : Nat → Ex
  | 0 => ⟨0, 0, 0⟩
  | j + 1 => setE (partE o e j) (o[j]?.getD 0) (getE e j)
theorem permsE_map {d : Nat} {e : Ex} (hd : 1 ≤ d ∧ d ≤ 3) : permsE d e = (ordI d).map fun o => partE o e o.length := by
  have : d = 1 ∨ d = 2 ∨ d = 3 := by omega
  rcases this with rfl | rfl | rfl <;> rfl

set_option maxHeartbeats 1000000 in
set_option maxRecDepth 4000 in
theorem monomialSum_ok (p : Int) (d : Nat) (e : Ex) (hp : 0 < p) (hp2 : p ≤ 13) (hd : 1 ≤ d ∧ d ≤ 3) : CallOK Go.Proofs.Try.prog 87 [.one (i64 p), .one (i64 d), .agg e.ds] (po p d (ofSum p (sumOf (permsE d e)))) := by
  have hF := fnOk 48 [.cell 6 39]
  refine callOK hF 60 Go.Proofs.Try.func87 rfl rfl rfl (by decide) (by simp) rfl ?_
  intro w0 hw
  have S := @vc_sound w0 _ hF ⟨(po p d (ofSum p (sumOf (permsE d e)))), []⟩ Go.Proofs.Try.f87 rfl (by simp)
  have c1 := orders_ok d hd
  simp
  refine CallW.ok (by decide) (by simp) c1 (by simp) (S 60 _ _ ?_)
  simp
  refine J.loop hw (fun i : Nat => ⟨[(0, .c (.d (i64 p))), (1, .c (.d (i64 d))), (5, .c (.ref 64005 0)), (6, .c (.ref 64006 0)), (9, .c (.ob 64009)), (21, .c (.ob 64021)), (22, .c (.d (i64 (ordI d).length))), (23, .c (.d (i64 i)))],
      [(64005, .var [.d (u8 e.a), .d (u8 e.b), .d (u8 e.c)]), (64006, .var [.d (i64 0), .d (i64 0), .ob 64007]), (64007, .arr 108 4 []), (64009, .mp (sumM (sumOf ((permsE d e).take i)))), (64021, .arr 122 1 ((ordI d).map fun x => [oNats x]))]⟩)
    (fun i => i ≤ (ordI d).length) (fun i => (ordI d).length - i) 0 (by simp) (by simp [sumOf]) ?_
  intro i hi
  refine S 60 _ _ ?_
  simp
  refine ⟨fun hlt => ⟨hlt, fun o ho => ?_⟩, fun hge => ?_⟩
  · obtain ⟨f1, f2⟩ := ordI_facts d
    obtain ⟨f3, f4⟩ := f2 o (List.mem_of_getElem? ho)
    have hpm : (permsE d e)[i]? = some (partE o e o.length) := by rw [permsE_map hd, List.getElem?_map, ho]; rfl
    refine J.loop hw (fun j : Nat => ⟨[(0, .c (.d (i64 p))), (1, .c (.d (i64 d))), (5, .c (.ref 64005 0)), (6, .c (.ref 64006 0)), (9, .c (.ob 64009)), (21, .c (.ob 64021)), (22, .c (.d (i64 (ordI d).length))), (23, .c (.d (i64 i))), (12, .c (.ref 64012 0)), (28, .c (.d (vNats o))), (29, .c (.d (i64 o.length))), (30, .c (.d (i64 j)))],
        [(64005, .var [.d (u8 e.a), .d (u8 e.b), .d (u8 e.c)]), (64006, .var [.d (i64 0), .d (i64 0), .ob 64007]), (64007, .arr 108 4 []), (64009, .mp (sumM (sumOf ((permsE d e).take i)))), (64021, .arr 122 1 ((ordI d).map fun x => [oNats x])),
          (64012, .var [.d (u8 (partE o e j).a), .d (u8 (partE o e j).b), .d (u8 (partE o e j).c)])]⟩)
      (fun j => j ≤ o.length) (fun j => o.length - j) 0 (by simp) (by simp [partE]) ?_
    intro j hj
    refine S 8 _ _ ?_
    simp
    refine ⟨fun hlt2 => ?_, fun hge2 => ?_⟩
    · refine S 6 _ _ ?_
      simp
      refine ⟨hlt2, fun a ha => ?_⟩
      have ha3 := f4 a (List.mem_of_getElem? ha)
      have hn : partE o e (j + 1) = setE (partE o e j) a (getE e j) := by rw [partE, ha]; rfl
      generalize partE o e j = x at hn ⊢
      have hj3 : j = 0 ∨ j = 1 ∨ j = 2 := by omega
      have ha4 : a = 0 ∨ a = 1 ∨ a = 2 := by omega
      rcases hj3 with rfl | rfl | rfl
      · rcases ha4 with rfl | rfl | rfl
        all_goals
          simp only [getE, setE] at hn
          refine S 60 _ _ ?_
          simp
          exact Nxt.mk 1 (by omega) (by simp [hn]) (by omega)
      · rcases ha4 with rfl | rfl | rfl
        all_goals
          simp only [getE, setE] at hn
          refine S 60 _ _ ?_
          simp
          exact Nxt.mk 2 (by omega) (by simp [hn]) (by omega)
      · rcases ha4 with rfl | rfl | rfl
        all_goals
          simp only [getE, setE] at hn
          refine S 60 _ _ ?_
          simp
          exact Nxt.mk 3 (by omega) (by simp [hn]) (by omega)
    · have : j = o.length := by omega
      subst this
      generalize partE o e o.length = x at hpm ⊢
      have htk : sumOf ((permsE d e).take (i + 1)) = sput (sumOf ((permsE d e).take i)) x 1 := by rw [List.take_add_one, hpm]; exact sumOf_snoc _ _
      refine S 60 _ _ ?_
      simp
      exact Nxt.mk (i + 1) (by omega) (by simp [mpPut_sum, htk, wrapS (i := i) (n := (ordI d).length) hlt (by omega)]) (by omega)
  · obtain ⟨g1, g2, _⟩ := sumOf_ok (permsE d e)
    have hl := permsE_len d e
    have e1 : (permsE d e).take i = permsE d e := List.take_of_length_le (by rw [permsE_ord hd]; exact hge)
    rw [e1]
    refine CallW.ok (by decide) (by simp) (poly_ok p d (sumOf (permsE d e)) (by omega) g1 hp (by omega)) (by simp) (S 60 _ _ ?_)
    simp

/-! ### the reference's -/
def partS (o : List Int) (e : Ex) : Nat → Ex
  | 0 => ⟨0, 0, 0⟩
  | j + 1 => setE (partS o e j) (o[j]?.getD 0).toNat (getE e j)
def exOf (xs : List Int) : Ex := ⟨by8 (xs[0]?.getD 0), by8 (xs[1]?.getD 0), by8 (xs[2]?.getD 0)⟩
def permsS (d : Nat) (e : Ex) : List Ex := (ordS d).map fun o => partS o e d
theorem ordS_facts {d : Nat} (hd : d ≤ 3) : (ordS d).length ≤ 6 ∧ ∀ o ∈ ordS d, o.length = d ∧ ∀ x ∈ o, x = 0 ∨ x = 1 ∨ x = 2 := by
  have : d = 0 ∨ d = 1 ∨ d = 2 ∨ d = 3 := by omega
  rcases this with rfl | rfl | rfl | rfl <;> decide
theorem permsS_mem {d : Nat} (hd : 1 ≤ d ∧ d ≤ 3) (e x : Ex) : x ∈ permsS d e ↔ x ∈ permsE d e := by
  have : d = 1 ∨ d = 2 ∨ d = 3 := by omega
  rcases this with rfl | rfl | rfl
  · exact Iff.rfl
  · exact Iff.rfl
  · have h : permsS 3 e = [⟨e.a, e.b, e.c⟩, ⟨e.a, e.c, e.b⟩, ⟨e.b, e.c, e.a⟩, ⟨e.b, e.a, e.c⟩, ⟨e.c, e.a, e.b⟩, ⟨e.c, e.b, e.a⟩] := rfl
    rw [h]
    simp only [permsE, List.mem_cons, List.not_mem_nil, or_false]
    constructor <;> (rintro (h | h | h | h | h | h) <;> simp [h])
/-- A monomial put where there is none yet. -/
def putN (p : Int) (ts : List Tm) (e : Ex) : List Tm := if coef ts e = 0 then putT p ts e 1 else ts
def putNs (p : Int) (es : List Ex) : List Tm := es.foldl (putN p) []
theorem putNs_snoc (p : Int) (es : List Ex) (e : Ex) : putNs p (es ++ [e]) = putN p (putNs p es) e := by simp [putNs]
theorem putNs_ok {p : Int} (hp : 2 ≤ p) (es : List Ex) : Can p (putNs p es) ∧ (putNs p es).length ≤ es.length ∧ ∀ e, coef (putNs p es) e = if e ∈ es then 1 else 0 := by
  refine snoc_ind (P := fun es => Can p (putNs p es) ∧ (putNs p es).length ≤ es.length ∧ ∀ e, coef (putNs p es) e = if e ∈ es then 1 else 0) ?_ ?_ es
  · exact ⟨can_nil p, by simp [putNs], fun e => by simp [putNs, coef]⟩
  · rintro es a ⟨h1, h2, h3⟩
    rw [putNs_snoc]
    unfold putN
    by_cases ha : a ∈ es
    · have hc : ¬ coef (putNs p es) a = 0 := by rw [h3, if_pos ha]; omega
      rw [if_neg hc]
      refine ⟨h1, by simp; omega, fun e => ?_⟩
      rw [h3]
      by_cases he : e ∈ es
      · simp [he]
      · have : e ≠ a := fun h => he (h ▸ ha)
        simp [he, this]
    · have hc : coef (putNs p es) a = 0 := by rw [h3, if_neg ha]
      rw [if_pos hc]
      obtain ⟨k1, k2⟩ := putT_can (p := p) (by omega) h1 a 1
      have := putT_length p (putNs p es) a 1
      refine ⟨k1, by simp; omega, fun e => ?_⟩
      rw [k2]
      by_cases he : e = a
      · subst he; rw [if_pos rfl, hc]; simp; exact Int.emod_eq_of_lt (by omega) (by omega)
      · rw [if_neg he, h3]; simp [he]
theorem putNs_eq {p : Int} (hp : 2 ≤ p) {es fs : List Ex} (h : ∀ x, x ∈ es ↔ x ∈ fs) : ofSum p (sumOf fs) = putNs p es := by
  obtain ⟨h1, h2, h3⟩ := putNs_ok hp es
  obtain ⟨g1, g2, g3⟩ := sumOf_ok fs
  obtain ⟨k1, k2⟩ := ofSum_can (p := p) (by omega) g1
  refine can_ext k1 h1 fun e => ?_
  rw [k2, h3, g3]
  simp only [h]
  split
  · exact Int.emod_eq_of_lt (by omega) (by omega)
  · simp

set_option maxHeartbeats 1000000 in
set_option maxRecDepth 4000 in
theorem l08Sum_ok (p : Int) (xs : List Int) (hp : 2 ≤ p) (hp2 : p ≤ 13) (hd : 1 ≤ xs.length ∧ xs.length ≤ 3) : CallOK Go.Proofs.Try.prog 86 [.one (i64 p), .one (vInts xs)] (po p xs.length (ofSum p (sumOf (permsE xs.length (exOf xs))))) := by
  have hF := fnOk 55 [.cell 4 39]
  refine callOK hF 60 Go.Proofs.Try.func86 rfl rfl rfl (by decide) (by simp) rfl ?_
  intro w0 hw
  have S := @vc_sound w0 _ hF ⟨(po p xs.length (ofSum p (sumOf (permsE xs.length (exOf xs))))), []⟩ Go.Proofs.Try.f86 rfl (by simp)
  rw [putNs_eq hp (permsS_mem hd (exOf xs))] at S ⊢
  have c1 := l01Empty_ok p xs.length
  have c2 := l08Orders_ok xs.length hd.2
  obtain ⟨f1, f2⟩ := ordS_facts hd.2
  have hps : ∀ i o, (ordS xs.length)[i]? = some o → (permsS xs.length (exOf xs))[i]? = some (partS o (exOf xs) xs.length) := fun i o h => by unfold permsS; rw [List.getElem?_map, h]; rfl
  have hpl : (permsS xs.length (exOf xs)).length = (ordS xs.length).length := by simp [permsS]
  have hex : ∀ j a, xs[j]? = some a → j ≤ 2 → getE (exOf xs) j = by8 a := fun j a h hj => by
    have : j = 0 ∨ j = 1 ∨ j = 2 := by omega
    rcases this with rfl | rfl | rfl <;> simp [getE, exOf, h]
  generalize exOf xs = e at *
  generalize permsS xs.length e = es at *
  generalize ordS xs.length = L at *
  simp
  refine CallW.ok (by decide) (by simp) c1 (by simp) (S 60 _ _ ?_)
  simp
  refine CallW.ok (by decide) (by simp) c2 (by simp) (S 60 _ _ ?_)
  simp
  refine J.loop hw (fun i : Nat => ⟨[(0, .c (.d (i64 p))), (1, .c (.d (vInts xs))), (4, .c (.ref 64004 0)), (5, .c (.d (i64 xs.length))), (6, .c (.ref 64006 0)), (7, .c (.ob 64007)), (9, .c (.d (i64 i)))],
      [(64004, .var [.d (i64 0), .d (i64 0), .ob 64005]), (64005, .arr 108 4 []), (64006, .var [.d (i64 p), .d (i64 xs.length), .ob 64008]), (64008, .arr 108 4 (terms (putNs p (es.take i)))), (64007, .arr 22 1 (L.map fun x => [oInts x]))]⟩)
    (fun i => i ≤ L.length) (fun i => L.length - i) 0 (by simp) (by simp [putNs]) ?_
  intro i hi
  refine S 60 _ _ ?_
  simp
  refine ⟨fun hlt => ?_, fun hge => ?_⟩
  · obtain ⟨o, ho⟩ : ∃ o, L[i]? = some o := ⟨L[i], List.getElem?_eq_getElem hlt⟩
    obtain ⟨f3, f4⟩ := f2 o (List.mem_of_getElem? ho)
    have hpm := hps i o ho
    refine J.loop hw (fun j : Nat => ⟨[(0, .c (.d (i64 p))), (1, .c (.d (vInts xs))), (4, .c (.ref 64004 0)), (5, .c (.d (i64 xs.length))), (6, .c (.ref 64006 0)), (7, .c (.ob 64007)), (9, .c (.d (i64 i))), (10, .c (.ref 64010 0)), (11, .c (.d (i64 j)))],
        [(64004, .var [.d (i64 0), .d (i64 0), .ob 64005]), (64005, .arr 108 4 []), (64006, .var [.d (i64 p), .d (i64 xs.length), .ob 64008]), (64008, .arr 108 4 (terms (putNs p (es.take i)))), (64007, .arr 22 1 (L.map fun x => [oInts x])),
          (64010, .var [.d (u8 (partS o e j).a), .d (u8 (partS o e j).b), .d (u8 (partS o e j).c)])]⟩)
      (fun j => j ≤ xs.length) (fun j => xs.length - j) 0 (by simp) (by simp [partS]) ?_
    intro j hj
    refine S 12 _ _ ?_
    simp
    refine ⟨fun hlt2 => ?_, fun hge2 => ?_⟩
    · refine J.dr hF mixed 12 [[], [], [0, 1], [0, 1, 2], [], [0, 1, 2, 3, 4], [0, 1, 2, 3, 4, 5], [], [], [7, 8], [7, 8, 9], [7, 8, 9, 10], [0, 1, 2, 3, 4, 5, 6, 7, 8, 9, 10, 11], [0, 1, 2, 3, 4, 5, 6, 7, 8, 9, 10, 11, 12]] [[34, 35, 36, 37, 38, 39, 40, 41, 42, 43, 44, 45], [34, 35, 36, 37, 38, 39, 40, 41, 42, 43, 44, 45], [36, 37, 38, 39, 40, 41, 42, 43, 44, 45], [37, 38, 39, 40, 41, 42, 43, 44, 45], [34, 35, 36, 37, 38, 39, 40, 41, 42, 43, 44, 45], [39, 40, 41, 42, 43, 44, 45], [40, 41, 42, 43, 44, 45], [34, 35, 36, 37, 38, 39, 40, 41, 42, 43, 44, 45], [34, 35, 36, 37, 38, 39, 40, 41, 42, 43, 44, 45], [34, 35, 36, 37, 38, 39, 40, 43, 44, 45], [34, 35, 36, 37, 38, 39, 40, 44, 45], [34, 35, 36, 37, 38, 39, 40, 45]] (by decide) ?_
      simp
      refine ⟨hlt, fun o' ho' => ?_⟩
      obtain rfl : o = o' := Option.some.inj (ho.symm.trans ho')
      refine ⟨by omega, fun n hn => ⟨hlt2, fun v hv => ?_⟩⟩
      have h2 := hex j v hv (by omega)
      have hn0 : partS o e (j + 1) = setE (partS o e j) n.toNat (by8 v) := by rw [partS, hn, ← h2]; rfl
      generalize partS o e j = x at hn0 ⊢
      rcases f4 n (List.mem_of_getElem? hn) with rfl | rfl | rfl
      all_goals
        simp only [setE, Int.toNat_zero, Int.toNat_one, Int.reduceToNat] at hn0
        refine S 60 _ _ ?_
        simp
        exact Nxt.mk (j + 1) (by omega) (by simp [hn0, wrapS (i := j) (n := xs.length) hlt2 (by omega)]) (by omega)
    · have : j = xs.length := by omega
      subst this
      generalize partS o e xs.length = x at hpm ⊢
      have htk : putNs p (es.take (i + 1)) = putN p (putNs p (es.take i)) x := by rw [List.take_add_one, hpm]; exact putNs_snoc _ _ _
      obtain ⟨q1, q2, _⟩ := putNs_ok hp (es.take i)
      have hlen : (putNs p (es.take i)).length ≤ 6 := by rw [List.length_take] at q2; omega
      have c3 := l01At_ok p xs.length (putNs p (es.take i)) x (by omega)
      have hb := coef_bound (show 0 < p by omega) q1 x
      have c4 := l01Put_ok p xs.length (putNs p (es.take i)) x 1 (by omega) (by omega) (by omega) (by omega) (by omega)
      refine S 60 _ _ ?_
      simp
      refine CallW.ok (by decide) (by simp) c3 (by simp) (S 60 _ _ ?_)
      simp
      refine ⟨fun hc => ?_, fun hc => ?_⟩
      · refine CallW.ok (by decide) (by simp) c4 (by simp) (S 60 _ _ ?_)
        simp
        exact Nxt.mk (i + 1) (by omega) (by simp [htk, putN, hc, wrapS (i := i) (n := L.length) hlt (by omega)]) (by omega)
      · exact Nxt.mk (i + 1) (by omega) (by simp [htk, putN, hc, wrapS (i := i) (n := L.length) hlt (by omega)]) (by omega)
  · have e1 : es.take i = es := List.take_of_length_le (by omega)
    rw [e1]

end Go.Sm
