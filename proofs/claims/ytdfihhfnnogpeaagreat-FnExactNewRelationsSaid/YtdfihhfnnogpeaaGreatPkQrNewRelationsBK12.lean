/- Towards the rows of this seat: what the functions do, as contracts over plain data. -/
import Derived.Test.YtdfihhfnnogpeaaGreatPkQrNewRelationsBK11
import Derived.Test.YtdfihhfnnogpeaaGreatPkQrNewRelationsBK10
namespace Go.Sm
open Go.RowKit

abbrev dgP (y : Pl) : Nat := dg y.ts
theorem degT_dg {ts : List Tm} (h : 1 ≤ dg ts) : degT ts = dg ts := by unfold dg at h ⊢; omega

theorem exponents_nil (n : Nat) (hn : n ≤ 12) : CallOK Go.Proofs.Tryz.prog 34 [.one (vPolys []), .one (i64 n)] (.one (oIntss (expsL [] n))) := by
  have hF := fnOk 51 [.tmp 4]
  refine callOK hF 60 Go.Proofs.Tryz.func34 rfl rfl rfl (by decide) (by simp) rfl ?_
  intro w0 hw
  have S := @vc_sound w0 _ hF ⟨(.one (oIntss (expsL [] n))), []⟩ Go.Proofs.Tryz.f34 rfl (by simp)
  by_cases h : n = 0
  · subst h
    simp [expsL] at S ⊢
    refine BsW.move hF (e := 48) (es := [[oInts []]]) (ks := [15 * 64]) (by decide) rfl rfl rfl (by simp) (by simp) rfl (by decide) (by decide) (by simp) ?_
    refine S 60 _ _ ?_
    simp
  · have e : expsL [] n = [] := by unfold expsL; rw [if_neg h]
    rw [e] at S ⊢
    simp [h]

set_option maxHeartbeats 1000000 in
set_option maxRecDepth 4000 in
theorem exponents_cons (y : Pl) (ys : List Pl) (n : Nat) (hn : n ≤ 12) (hl : ys.length ≤ 7) (hy : y.ts.length ≤ 1000) (hd : 1 ≤ dgP y) (ih : ∀ m : Nat, m ≤ n → CallOK Go.Proofs.Tryz.prog 34 [.one (vPolys ys), .one (i64 m)] (.one (oIntss (expsL (ys.map dgP) m)))) : CallOK Go.Proofs.Tryz.prog 34 [.one (vPolys (y :: ys)), .one (i64 n)] (.one (oIntss (expsL ((y :: ys).map dgP) n))) := by
  have hF := fnOk 51 [.tmp 4]
  refine callOK hF 60 Go.Proofs.Tryz.func34 rfl rfl rfl (by decide) (by simp) rfl ?_
  intro w0 hw
  have S := @vc_sound w0 _ hF ⟨(.one (oIntss (expsL ((y :: ys).map dgP) n))), []⟩ Go.Proofs.Tryz.f34 rfl (by simp)
  have c1 := polyDegree_ok y.p y.d y.ts (by omega)
  rw [degT_dg hd, show dg y.ts = dgP y from rfl] at c1
  have hlen := expsL_len (ys.map dgP)
  rw [List.length_map] at hlen
  have hp := pow13 (show ys.length ≤ 8 by omega)
  have hE : expsL ((y :: ys).map dgP) n = expsG (expsL (ys.map dgP)) (dgP y) n (n / dgP y + 1) := rfl
  rw [hE] at S ⊢
  have hgl := expsG_len (F := expsL (ys.map dgP)) (d := dgP y) (n := n) (B := 13 ^ ys.length) (fun k hk => hlen k (by omega))
  have hwd := fun k r => @expsL_width (ys.map dgP) k r
  rw [List.length_map] at hwd
  have hdiv : n / dgP y ≤ n := Nat.div_le_self _ _
  have hdm := Nat.div_mul_le_self n (dgP y)
  have hgt := hgl (n / dgP y + 1)
  have hb : (n / dgP y + 1) * 13 ^ ys.length ≤ 13 * 815730721 := Nat.mul_le_mul (by omega) hp
  have hq : (n : Int).tdiv (dgP y) = ((n / dgP y : Nat) : Int) := by rw [Int.tdiv_eq_ediv_of_nonneg (by omega)]; rfl
  generalize dgP y = d at *
  generalize hK : n / d = K at *
  generalize hF2 : expsL (ys.map dgP) = F at *
  have hd0 : d ≠ 0 := by omega
  have hne : ¬ ((ys.length : Int) + 1 = 0) := by omega
  simp [hne]
  refine CallW.ok (by decide) (by simp) c1 (by simp) (S 60 _ _ ?_)
  have hKw : IntKind.i64.wrap (K : Int) = K := wrap64 (by omega) (by omega)
  simp [hq, hd0, hKw]
  refine J.loop hw (fun q : Nat × List (List Int) => ⟨[(0, .c (.d (vPolys (y :: ys)))), (1, .c (.d (i64 n))), (5, .c (.d (i64 d))), (6, .c (.ob 64006)), (7, .c (.d (i64 ((q.1 : Int) - 1))))],
      [(64006, .arr 48 1 (q.2.map fun x => [oInts x]))]⟩)
    (fun q => q.1 ≤ K + 1 ∧ q.2 ++ expsG F d n q.1 = expsG F d n (K + 1)) (fun q => q.1) (K + 1, []) (by simp) (by simp) ?_
  rintro ⟨m, acc⟩ ⟨hm, hacc⟩
  simp only at hm hacc
  have hal : acc.length ≤ 13 * 815730721 := by
    have := congrArg List.length hacc
    rw [List.length_append] at this
    omega
  cases m with
  | zero =>
    have hacc : acc = expsG F d n (K + 1) := (List.append_nil _).symm.trans hacc
    rw [hacc]
    refine S 60 _ _ ?_
    simp
  | succ m =>
    have hmK : m * d ≤ n := Nat.le_trans (Nat.mul_le_mul_right d (by omega : m ≤ K)) hdm
    have c2 := ih (n - m * d) (by omega)
    have hw1 : IntKind.i64.wrap ((m : Int) * d) = ((m * d : Nat) : Int) := by rw [← Int.natCast_mul]; exact wrap64 (by omega) (by omega)
    have hw2 : IntKind.i64.wrap ((n : Int) - ((m * d : Nat) : Int)) = ((n - m * d : Nat) : Int) := by rw [show (n : Int) - ((m * d : Nat) : Int) = ((n - m * d : Nat) : Int) by omega]; exact wrap64 (by omega) (by omega)
    have hR := hlen (n - m * d) (by omega)
    have hstp : expsG F d n (m + 1) = (F (n - m * d)).map (fun r => (m : Int) :: r) ++ expsG F d n m := rfl
    generalize hRR : F (n - m * d) = R at c2 hR hstp
    generalize hNN : n - m * d = N2 at c2 hw2
    generalize m * d = md at hw1 hw2
    have htk : List.take ys.length (List.map (fun x : Pl => [i64 x.p, i64 x.d, vTerms x.ts]) ys) = List.map (fun x : Pl => [i64 x.p, i64 x.d, vTerms x.ts]) ys := List.take_of_length_le (by simp)
    have hm1 : IntKind.i64.wrap ((m : Int) - 1) = (m : Int) - 1 := wrap64 (by omega) (by omega)
    refine S 60 _ _ ?_
    simp [hw1, hw2, htk]
    refine ⟨by omega, ?_⟩
    refine CallW.ok (by decide) (by simp) c2 (by simp) (S 60 _ _ ?_)
    simp
    have hrl : ∀ r ∈ R, r.length = ys.length := fun r hr => hwd (n - m * d) r (by rw [hRR]; exact hr)
    refine J.loop hw (fun u : Nat × List (List Int) => ⟨[(0, .c (.d (vPolys (y :: ys)))), (1, .c (.d (i64 n))), (5, .c (.d (i64 d))), (6, .c (.ob 64006)), (7, .c (.d (i64 m))), (36, .c (.ob 64036)), (37, .c (.d (i64 R.length))), (38, .c (.d (i64 u.1)))],
        [(64006, .arr 48 1 (u.2.map fun x => [oInts x])), (64036, .arr 48 1 (R.map fun x => [oInts x]))]⟩)
      (fun u => u.1 ≤ R.length ∧ u.2 = acc ++ (R.take u.1).map fun r => (m : Int) :: r) (fun u => R.length - u.1) (0, acc) (by simp) (by simp) ?_
    rintro ⟨i, cur⟩ ⟨hi, hcur⟩
    simp only at hi hcur
    have hcl : cur.length ≤ 14 * 815730721 := by
      rw [hcur, List.length_append, List.length_map, List.length_take]; omega
    refine S 8 _ _ ?_
    simp
    refine ⟨fun hlt => ?_, fun hge => ?_⟩
    · refine S 6 _ _ ?_
      simp
      refine ⟨hlt, fun r hr => ?_⟩
      have hrl2 := hrl r (List.mem_of_getElem? hr)
      refine S 60 _ _ ?_
      simp
      refine ⟨⟨by omega, by omega⟩, ?_⟩
      refine BsW.move hF (e := 48) (es := [[oInts ((m : Int) :: r)]]) (ks := [46 * 64]) (by decide) rfl rfl rfl (by simp) (by simp) rfl (by decide) (by decide) (by simp) ?_
      refine S 60 _ _ ?_
      simp
      refine ⟨⟨by omega, by omega⟩, ?_⟩
      refine Nxt.mk (i + 1, cur ++ [(m : Int) :: r]) ⟨hlt, ?_⟩ (by simp [wrapS (i := i) (n := R.length) hlt (by omega)]) (by show R.length - (i + 1) < R.length - i; omega)
      show cur ++ [(m : Int) :: r] = _
      rw [hcur]
      simp [List.take_add_one, hr]
    · have e : R.take i = R := List.take_of_length_le hge
      rw [e] at hcur
      refine S 60 _ _ ?_
      simp [hm1]
      refine Nxt.mk (m, cur) ⟨by omega, ?_⟩ (by simp) (by show m < m + 1; omega)
      show cur ++ expsG F d n m = _
      rw [hcur, ← hacc, hstp, List.append_assoc]
/-- The program's list. -/
theorem exponents_ok : ∀ (ys : List Pl) (n : Nat), n ≤ 12 → ys.length ≤ 8 → (∀ y ∈ ys, y.ts.length ≤ 1000 ∧ 1 ≤ dgP y) → CallOK Go.Proofs.Tryz.prog 34 [.one (vPolys ys), .one (i64 n)] (.one (oIntss (expsL (ys.map dgP) n)))
  | [], n, hn, _, _ => exponents_nil n hn
  | y :: ys, n, hn, hl, hy => exponents_cons y ys n hn (by simp at hl; omega) (hy y (by simp)).1 (hy y (by simp)).2 fun m hm => exponents_ok ys m (by omega) (by simp at hl; omega) fun z hz => hy z (by simp [hz])

theorem l05Exponents_nil (n : Nat) (hn : n ≤ 12) : CallOK Go.Proofs.Tryz.prog 40 [.one (vPolys []), .one (i64 n)] (.one (oIntss (expsL [] n))) := by
  have hF := fnOk 55 [.tmp 4]
  refine callOK hF 60 Go.Proofs.Tryz.func40 rfl rfl rfl (by decide) (by simp) rfl ?_
  intro w0 hw
  have S := @vc_sound w0 _ hF ⟨(.one (oIntss (expsL [] n))), []⟩ Go.Proofs.Tryz.f40 rfl (by simp)
  by_cases h : n = 0
  · subst h
    simp [expsL] at S ⊢
    refine BsW.move hF (e := 48) (es := [[oInts []]]) (ks := [15 * 64]) (by decide) rfl rfl rfl (by simp) (by simp) rfl (by decide) (by decide) (by simp) ?_
    refine S 60 _ _ ?_
    simp
  · have e : expsL [] n = [] := by unfold expsL; rw [if_neg h]
    rw [e] at S ⊢
    simp [h]
set_option maxHeartbeats 1000000 in
set_option maxRecDepth 4000 in
theorem l05Exponents_cons (y : Pl) (ys : List Pl) (n : Nat) (hn : n ≤ 12) (hl : ys.length ≤ 7) (hy : y.ts.length ≤ 1000) (hd : 1 ≤ dgP y) (ih : ∀ m : Nat, m ≤ n → CallOK Go.Proofs.Tryz.prog 40 [.one (vPolys ys), .one (i64 m)] (.one (oIntss (expsL (ys.map dgP) m)))) : CallOK Go.Proofs.Tryz.prog 40 [.one (vPolys (y :: ys)), .one (i64 n)] (.one (oIntss (expsL ((y :: ys).map dgP) n))) := by
  have hF := fnOk 55 [.tmp 4]
  refine callOK hF 60 Go.Proofs.Tryz.func40 rfl rfl rfl (by decide) (by simp) rfl ?_
  intro w0 hw
  have S := @vc_sound w0 _ hF ⟨(.one (oIntss (expsL ((y :: ys).map dgP) n))), []⟩ Go.Proofs.Tryz.f40 rfl (by simp)
  have c1 := l01Degree_ok y.p y.d y.ts (by omega)
  rw [degT_dg hd, show dg y.ts = dgP y from rfl] at c1
  have hlen := expsL_len (ys.map dgP)
  rw [List.length_map] at hlen
  have hp := pow13 (show ys.length ≤ 8 by omega)
  have hE : expsL ((y :: ys).map dgP) n = expsG (expsL (ys.map dgP)) (dgP y) n (n / dgP y + 1) := rfl
  rw [hE] at S ⊢
  have hgl := expsG_len (F := expsL (ys.map dgP)) (d := dgP y) (n := n) (B := 13 ^ ys.length) (fun k hk => hlen k (by omega))
  have hwd := fun k r => @expsL_width (ys.map dgP) k r
  rw [List.length_map] at hwd
  have hdiv : n / dgP y ≤ n := Nat.div_le_self _ _
  have hdm := Nat.div_mul_le_self n (dgP y)
  have hgt := hgl (n / dgP y + 1)
  have hb : (n / dgP y + 1) * 13 ^ ys.length ≤ 13 * 815730721 := Nat.mul_le_mul (by omega) hp
  have hq : (n : Int).tdiv (dgP y) = ((n / dgP y : Nat) : Int) := by rw [Int.tdiv_eq_ediv_of_nonneg (by omega)]; rfl
  generalize dgP y = d at *
  generalize hK : n / d = K at *
  generalize hF2 : expsL (ys.map dgP) = F at *
  have hd0 : d ≠ 0 := by omega
  have hne : ¬ ((ys.length : Int) + 1 = 0) := by omega
  simp [hne]
  refine CallW.ok (by decide) (by simp) c1 (by simp) (S 60 _ _ ?_)
  have hKw : IntKind.i64.wrap (K : Int) = K := wrap64 (by omega) (by omega)
  simp [hq, hd0, hKw]
  refine J.loop hw (fun q : Nat × List (List Int) => ⟨[(0, .c (.d (vPolys (y :: ys)))), (1, .c (.d (i64 n))), (5, .c (.ob 64006)), (6, .c (.d (i64 d))), (7, .c (.d (i64 ((q.1 : Int) - 1))))],
      [(64006, .arr 48 1 (q.2.map fun x => [oInts x]))]⟩)
    (fun q => q.1 ≤ K + 1 ∧ q.2 ++ expsG F d n q.1 = expsG F d n (K + 1)) (fun q => q.1) (K + 1, []) (by simp) (by simp) ?_
  rintro ⟨m, acc⟩ ⟨hm, hacc⟩
  simp only at hm hacc
  have hal : acc.length ≤ 13 * 815730721 := by
    have := congrArg List.length hacc
    rw [List.length_append] at this
    omega
  cases m with
  | zero =>
    have hacc : acc = expsG F d n (K + 1) := (List.append_nil _).symm.trans hacc
    rw [hacc]
    refine S 60 _ _ ?_
    simp
  | succ m =>
    have hmK : m * d ≤ n := Nat.le_trans (Nat.mul_le_mul_right d (by omega : m ≤ K)) hdm
    have c2 := ih (n - m * d) (by omega)
    have hw1 : IntKind.i64.wrap ((m : Int) * d) = ((m * d : Nat) : Int) := by rw [← Int.natCast_mul]; exact wrap64 (by omega) (by omega)
    have hw2 : IntKind.i64.wrap ((n : Int) - ((m * d : Nat) : Int)) = ((n - m * d : Nat) : Int) := by rw [show (n : Int) - ((m * d : Nat) : Int) = ((n - m * d : Nat) : Int) by omega]; exact wrap64 (by omega) (by omega)
    have hR := hlen (n - m * d) (by omega)
    have hstp : expsG F d n (m + 1) = (F (n - m * d)).map (fun r => (m : Int) :: r) ++ expsG F d n m := rfl
    generalize hRR : F (n - m * d) = R at c2 hR hstp
    generalize hNN : n - m * d = N2 at c2 hw2
    generalize m * d = md at hw1 hw2
    have htk : List.take ys.length (List.map (fun x : Pl => [i64 x.p, i64 x.d, vTerms x.ts]) ys) = List.map (fun x : Pl => [i64 x.p, i64 x.d, vTerms x.ts]) ys := List.take_of_length_le (by simp)
    have hm1 : IntKind.i64.wrap ((m : Int) - 1) = (m : Int) - 1 := wrap64 (by omega) (by omega)
    refine S 60 _ _ ?_
    simp [hw1, hw2, htk]
    refine ⟨by omega, ?_⟩
    refine CallW.ok (by decide) (by simp) c2 (by simp) (S 60 _ _ ?_)
    simp
    have hrl : ∀ r ∈ R, r.length = ys.length := fun r hr => hwd (n - m * d) r (by rw [hRR]; exact hr)
    refine J.loop hw (fun u : Nat × List (List Int) => ⟨[(0, .c (.d (vPolys (y :: ys)))), (1, .c (.d (i64 n))), (5, .c (.ob 64006)), (6, .c (.d (i64 d))), (7, .c (.d (i64 m))), (8, .c (.ob 64036)), (9, .c (.d (i64 u.1)))],
        [(64006, .arr 48 1 (u.2.map fun x => [oInts x])), (64036, .arr 48 1 (R.map fun x => [oInts x]))]⟩)
      (fun u => u.1 ≤ R.length ∧ u.2 = acc ++ (R.take u.1).map fun r => (m : Int) :: r) (fun u => R.length - u.1) (0, acc) (by simp) (by simp) ?_
    rintro ⟨i, cur⟩ ⟨hi, hcur⟩
    simp only at hi hcur
    have hcl : cur.length ≤ 14 * 815730721 := by
      rw [hcur, List.length_append, List.length_map, List.length_take]; omega
    refine S 12 _ _ ?_
    simp
    refine ⟨fun hlt => ?_, fun hge => ?_⟩
    · refine S 60 _ _ ?_
      simp
      refine ⟨hlt, fun r hr => ?_⟩
      have hrl2 := hrl r (List.mem_of_getElem? hr)
      refine ⟨⟨by omega, by omega⟩, ?_⟩
      refine BsW.move hF (e := 48) (es := [[oInts ((m : Int) :: r)]]) (ks := [51 * 64]) (by decide) rfl rfl rfl (by simp) (by simp) rfl (by decide) (by decide) (by simp) ?_
      refine S 60 _ _ ?_
      simp
      refine ⟨⟨by omega, by omega⟩, ?_⟩
      refine Nxt.mk (i + 1, cur ++ [(m : Int) :: r]) ⟨hlt, ?_⟩ (by simp [wrapS (i := i) (n := R.length) hlt (by omega)]) (by show R.length - (i + 1) < R.length - i; omega)
      show cur ++ [(m : Int) :: r] = _
      rw [hcur]
      simp [List.take_add_one, hr]
    · have e : R.take i = R := List.take_of_length_le hge
      rw [e] at hcur
      refine S 60 _ _ ?_
      simp [hm1]
      refine Nxt.mk (m, cur) ⟨by omega, ?_⟩ (by simp) (by show m < m + 1; omega)
      show cur ++ expsG F d n m = _
      rw [hcur, ← hacc, hstp, List.append_assoc]

/-- The reference's list. -/
theorem l05Exponents_ok : ∀ (ys : List Pl) (n : Nat), n ≤ 12 → ys.length ≤ 8 → (∀ y ∈ ys, y.ts.length ≤ 1000 ∧ 1 ≤ dgP y) → CallOK Go.Proofs.Tryz.prog 40 [.one (vPolys ys), .one (i64 n)] (.one (oIntss (expsL (ys.map dgP) n)))
  | [], n, hn, _, _ => l05Exponents_nil n hn
  | y :: ys, n, hn, hl, hy => l05Exponents_cons y ys n hn (by simp at hl; omega) (hy y (by simp)).1 (hy y (by simp)).2 fun m hm => l05Exponents_ok ys m (by omega) (by simp at hl; omega) fun z hz => hy z (by simp [hz])
end Go.Sm
