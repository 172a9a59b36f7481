/- All monomials of a degree. -/
import Derived.Test.YtihinogdolhjcaaQbA
import Derived.Test.YtihinogdolhjcaaSo0
namespace Go.Sm
open Go.RowKit

abbrev exs (es : List Ex) : List (List D) := es.map fun e => [u8 e.a, u8 e.b, u8 e.c]
abbrev oExs (es : List Ex) : D := .own 88 3 (exs es)
abbrev vExs (es : List Ex) : D := .vw true 3 (exs es)

/-- f (k - 1), f (k - 2), .. -/
def downTo (f : Nat → List Ex) : Nat → List Ex
  | 0 => []
  | k + 1 => f k ++ downTo f k
theorem downTo_len {f : Nat → List Ex} {m : Nat} (h : ∀ k, (f k).length ≤ m) : ∀ k, (downTo f k).length ≤ k * m
  | 0 => by simp [downTo]
  | k + 1 => by
    have := downTo_len h k
    have := h k
    rw [downTo, List.length_append, Nat.add_mul]; omega
def mkE (a b c : Nat) : Ex := ⟨by8 a, by8 b, by8 c⟩
/-- Is it a monomial in d letters. -/
def inD (d : Int) (b c : Nat) : Prop := ¬ (d < 2 ∧ 0 < b) ∧ ¬ (d < 3 ∧ 0 < c)
instance (d : Int) (b c : Nat) : Decidable (inD d b c) := by unfold inD; infer_instance
def monRow (d : Int) (n a : Nat) (b : Nat) : List Ex := if inD d b (n - a - b) then [mkE a b (n - a - b)] else []
def mons (d : Int) (n : Nat) : List Ex := downTo (fun a => downTo (monRow d n a) (n - a + 1)) (n + 1)
theorem monRow_len (d : Int) (n a b : Nat) : (monRow d n a b).length ≤ 1 := by unfold monRow; split <;> simp
theorem mons_len (d : Int) (n : Nat) (hn : n ≤ 12) : (mons d n).length ≤ 169 := by
  have h : ∀ a, (downTo (monRow d n a) (n - a + 1)).length ≤ 13 := by
    intro a
    have := downTo_len (monRow_len d n a) (n - a + 1)
    omega
  have := downTo_len h (n + 1)
  unfold mons
  omega

set_option maxRecDepth 4000 in
set_option maxHeartbeats 1000000 in
theorem monomials_ok (d : Int) (n : Nat) (hd : 1 ≤ d ∧ d ≤ 3) (hn : n ≤ 12) : CallOK Go.Proofs.Try.prog 82 [.one (i64 d), .one (i64 n)] (.one (oExs (mons d n))) := by
  have hF := fnOk 52 [.tmp 4]
  refine callOK hF 60 Go.Proofs.Try.func82 rfl rfl rfl (by decide) (by simp) rfl ?_
  intro w0 hw
  have S := @vc_sound w0 _ hF ⟨(.one (oExs (mons d n))), []⟩ Go.Proofs.Try.f82 rfl (by simp)
  have hml := mons_len d n hn
  simp
  refine J.loop hw (fun q : Nat × List Ex => ⟨[(0, .c (.d (i64 d))), (1, .c (.d (i64 n))), (5, .c (.ob 64005)), (6, .c (.d (i64 ((q.1 : Int) - 1))))], [(64005, .arr 88 3 (exs q.2))]⟩)
    (fun q => q.1 ≤ n + 1 ∧ q.2 ++ downTo (fun a => downTo (monRow d n a) (n - a + 1)) q.1 = mons d n) (fun q => q.1) (n + 1, []) (by simp [mons]) (by simp) ?_
  rintro ⟨A, acc⟩ ⟨hA, hacc⟩
  simp only at hA hacc
  cases A with
  | zero =>
    have : acc = mons d n := by simpa [downTo] using hacc
    refine S 60 _ _ ?_
    simp [this]
  | succ a =>
    have w1 : IntKind.i64.wrap ((n : Int) - a) = ((n - a : Nat) : Int) := by rw [wrap64 (by omega) (by omega)]; omega
    have hge : (0 : Int) ≤ a := by omega
    refine S 60 _ _ ?_
    simp [w1]
    refine J.loop hw (fun q : Nat × List Ex => ⟨[(0, .c (.d (i64 d))), (1, .c (.d (i64 n))), (5, .c (.ob 64005)), (6, .c (.d (i64 (a : Int)))), (7, .c (.d (i64 ((q.1 : Int) - 1))))], [(64005, .arr 88 3 (exs q.2))]⟩)
      (fun q => q.1 ≤ n - a + 1 ∧ q.2 ++ (downTo (monRow d n a) q.1 ++ downTo (fun a => downTo (monRow d n a) (n - a + 1)) a) = mons d n) (fun q => q.1) (n - a + 1, acc) (by simpa [downTo] using hacc) (by simp) ?_
    rintro ⟨B, acc⟩ ⟨hB, hacc⟩
    simp only at hB hacc
    have hal : acc.length ≤ 169 := by
      have := congrArg List.length hacc
      simp only [List.length_append] at this
      omega
    cases B with
    | zero =>
      refine S 60 _ _ ?_
      simp
      refine Nxt.mk (a, acc) ⟨by show a ≤ n + 1; omega, by simpa [downTo] using hacc⟩ ?_ (by show a < a + 1; omega)
      have w2 : IntKind.i64.wrap ((a : Int) - 1) = (a : Int) - 1 := wrap64 (by omega) (by omega)
      simp [w2]
    | succ b =>
      have w3 : IntKind.i64.wrap ((n : Int) - a - b) = ((n - a - b : Nat) : Int) := by rw [wrap64 (by omega) (by omega)]; omega
      have w3' : IntKind.i64.wrap (((n - a : Nat) : Int) - b) = ((n - a - b : Nat) : Int) := by rw [wrap64 (by omega) (by omega)]; omega
      have w4 : IntKind.i64.wrap ((b : Int) - 1) = (b : Int) - 1 := wrap64 (by omega) (by omega)
      have hskip : ¬ inD d b (n - a - b) → b ≤ n - a + 1 ∧ acc ++ (downTo (monRow d n a) b ++ downTo (fun a => downTo (monRow d n a) (n - a + 1)) a) = mons d n := by
        intro h
        have hm : monRow d n a b = [] := by unfold monRow; rw [if_neg h]
        refine ⟨by omega, ?_⟩
        rw [← hacc]; simp [downTo, hm]
      have hput : inD d b (n - a - b) → b ≤ n - a + 1 ∧ (acc ++ [mkE a b (n - a - b)]) ++ (downTo (monRow d n a) b ++ downTo (fun a => downTo (monRow d n a) (n - a + 1)) a) = mons d n := by
        intro h
        have hm : monRow d n a b = [mkE a b (n - a - b)] := by unfold monRow; rw [if_pos h]
        refine ⟨by omega, ?_⟩
        rw [← hacc]; simp [downTo, hm]
      have hb2 : (acc.length + 1) * 3 ≤ 140737488355328 := by omega
      by_cases h2 : d < 2
      · by_cases hb : 0 < b
        · have hbn : ¬ b = 0 := by omega
          refine S 90 _ _ ?_
          simp [w1, w3', h2, hb]
          refine Nxt.mk (b, acc) (hskip (by unfold inD; omega)) (by simp [w4]) (by show b < b + 1; omega)
        · have hb0 : b = 0 := by omega
          have h3 : d < 3 := by omega
          by_cases hc : 0 < n - a - b
          · have hcn : ¬ n - a - b = 0 := by omega
            refine S 90 _ _ ?_
            simp [w1, w3', h2, h3, hb, hc]
            refine Nxt.mk (b, acc) (hskip (by unfold inD; omega)) (by simp [w4]) (by show b < b + 1; omega)
          · refine S 90 _ _ ?_
            simp [w1, w3', h2, h3, hb, hc]
            refine ⟨⟨by omega, by omega⟩, ?_⟩
            refine Nxt.mk (b, acc ++ [mkE a b (n - a - b)]) (hput (by unfold inD; omega)) (by simp [w4, mkE]) (by show b < b + 1; omega)
      · by_cases h3 : d < 3
        · by_cases hc : 0 < n - a - b
          · have hcn : ¬ n - a - b = 0 := by omega
            refine S 90 _ _ ?_
            simp [w1, w3', h2, h3, hc]
            refine Nxt.mk (b, acc) (hskip (by unfold inD; omega)) (by simp [w4]) (by show b < b + 1; omega)
          · refine S 90 _ _ ?_
            simp [w1, w3', h2, h3, hc]
            refine ⟨⟨by omega, by omega⟩, ?_⟩
            refine Nxt.mk (b, acc ++ [mkE a b (n - a - b)]) (hput (by unfold inD; omega)) (by simp [w4, mkE]) (by show b < b + 1; omega)
        · refine S 90 _ _ ?_
          simp [w1, w3', h2, h3]
          refine ⟨⟨by omega, by omega⟩, ?_⟩
          refine Nxt.mk (b, acc ++ [mkE a b (n - a - b)]) (hput (by unfold inD; omega)) (by simp [w4, mkE]) (by show b < b + 1; omega)

theorem by8_nat {n : Nat} (h : n < 256) : (by8 (n : Int)).toNat = n := by
  unfold by8
  rw [UInt8.toNat_ofNat']
  omega
theorem by8_zero {n : Nat} (h : n < 256) : by8 (n : Int) = 0 ↔ n = 0 := by
  refine ⟨fun e => ?_, fun e => by subst e; rfl⟩
  have := by8_nat h
  rw [e] at this
  exact this.symm
theorem inV_mkE {d : Int} {a b c : Nat} (hd : 1 ≤ d) (h : a + b + c ≤ 12) : InV d (mkE a b c) ↔ inD d b c := by
  unfold InV inD mkE Ex.deg
  simp only [by8_zero (show b < 256 by omega), by8_zero (show c < 256 by omega), by8_nat (show a < 256 by omega), by8_nat (show b < 256 by omega), by8_nat (show c < 256 by omega)]
  omega

set_option maxRecDepth 4000 in
set_option maxHeartbeats 1000000 in
theorem l01Monomials_ok (d : Int) (n : Nat) (hd : 1 ≤ d ∧ d ≤ 3) (hn : n ≤ 12) : CallOK Go.Proofs.Try.prog 77 [.one (i64 d), .one (i64 n)] (.one (oExs (mons d n))) := by
  have hF := fnOk 41 [.tmp 4]
  refine callOK hF 60 Go.Proofs.Try.func77 rfl rfl rfl (by decide) (by simp) rfl ?_
  intro w0 hw
  have S := @vc_sound w0 _ hF ⟨(.one (oExs (mons d n))), []⟩ Go.Proofs.Try.f77 rfl (by simp)
  have hml := mons_len d n hn
  simp
  refine J.loop hw (fun q : Nat × List Ex => ⟨[(0, .c (.d (i64 d))), (1, .c (.d (i64 n))), (5, .c (.ob 64005)), (6, .c (.d (i64 ((q.1 : Int) - 1))))], [(64005, .arr 88 3 (exs q.2))]⟩)
    (fun q => q.1 ≤ n + 1 ∧ q.2 ++ downTo (fun a => downTo (monRow d n a) (n - a + 1)) q.1 = mons d n) (fun q => q.1) (n + 1, []) (by simp [mons]) (by simp) ?_
  rintro ⟨A, acc⟩ ⟨hA, hacc⟩
  simp only at hA hacc
  cases A with
  | zero =>
    have : acc = mons d n := by simpa [downTo] using hacc
    refine S 60 _ _ ?_
    simp [this]
  | succ a =>
    have w1 : IntKind.i64.wrap ((n : Int) - a) = ((n - a : Nat) : Int) := by rw [wrap64 (by omega) (by omega)]; omega
    have hge : (0 : Int) ≤ a := by omega
    refine S 60 _ _ ?_
    simp [w1]
    refine J.loop hw (fun q : Nat × List Ex => ⟨[(0, .c (.d (i64 d))), (1, .c (.d (i64 n))), (5, .c (.ob 64005)), (6, .c (.d (i64 (a : Int)))), (7, .c (.d (i64 ((q.1 : Int) - 1))))], [(64005, .arr 88 3 (exs q.2))]⟩)
      (fun q => q.1 ≤ n - a + 1 ∧ q.2 ++ (downTo (monRow d n a) q.1 ++ downTo (fun a => downTo (monRow d n a) (n - a + 1)) a) = mons d n) (fun q => q.1) (n - a + 1, acc) (by simpa [downTo] using hacc) (by simp) ?_
    rintro ⟨B, acc⟩ ⟨hB, hacc⟩
    simp only at hB hacc
    have hal : acc.length ≤ 169 := by
      have := congrArg List.length hacc
      simp only [List.length_append] at this
      omega
    cases B with
    | zero =>
      refine S 60 _ _ ?_
      simp
      refine Nxt.mk (a, acc) ⟨by show a ≤ n + 1; omega, by simpa [downTo] using hacc⟩ ?_ (by show a < a + 1; omega)
      have w2 : IntKind.i64.wrap ((a : Int) - 1) = (a : Int) - 1 := wrap64 (by omega) (by omega)
      simp [w2]
    | succ b =>
      have w3 : IntKind.i64.wrap ((n : Int) - a - b) = ((n - a - b : Nat) : Int) := by rw [wrap64 (by omega) (by omega)]; omega
      have w3' : IntKind.i64.wrap (((n - a : Nat) : Int) - b) = ((n - a - b : Nat) : Int) := by rw [wrap64 (by omega) (by omega)]; omega
      have w4 : IntKind.i64.wrap ((b : Int) - 1) = (b : Int) - 1 := wrap64 (by omega) (by omega)
      have hskip : ¬ inD d b (n - a - b) → b ≤ n - a + 1 ∧ acc ++ (downTo (monRow d n a) b ++ downTo (fun a => downTo (monRow d n a) (n - a + 1)) a) = mons d n := by
        intro h
        have hm : monRow d n a b = [] := by unfold monRow; rw [if_neg h]
        refine ⟨by omega, ?_⟩
        rw [← hacc]; simp [downTo, hm]
      have hput : inD d b (n - a - b) → b ≤ n - a + 1 ∧ (acc ++ [mkE a b (n - a - b)]) ++ (downTo (monRow d n a) b ++ downTo (fun a => downTo (monRow d n a) (n - a + 1)) a) = mons d n := by
        intro h
        have hm : monRow d n a b = [mkE a b (n - a - b)] := by unfold monRow; rw [if_pos h]
        refine ⟨by omega, ?_⟩
        rw [← hacc]; simp [downTo, hm]
      have c1 := l01Exps_ok d (mkE a b (n - a - b)) hd.1 hd.2
      have hiff : InV d (mkE a b (n - a - b)) ↔ inD d b (n - a - b) := inV_mkE hd.1 (by omega)
      by_cases h : inD d b (n - a - b)
      · rw [decide_eq_true (hiff.2 h)] at c1
        refine S 90 _ _ ?_
        simp [w1, w3']
        refine CallW.ok (by decide) (by simp [mkE]) c1 (by simp) (S 60 _ _ ?_)
        simp
        refine ⟨⟨by omega, by omega⟩, ?_⟩
        refine Nxt.mk (b, acc ++ [mkE a b (n - a - b)]) (hput h) (by simp [w4, mkE]) (by show b < b + 1; omega)
      · rw [decide_eq_false (fun q => h (hiff.1 q))] at c1
        refine S 90 _ _ ?_
        simp [w1, w3']
        refine CallW.ok (by decide) (by simp [mkE]) c1 (by simp) (S 60 _ _ ?_)
        simp
        refine Nxt.mk (b, acc) (hskip h) (by simp [w4]) (by show b < b + 1; omega)

end Go.Sm
