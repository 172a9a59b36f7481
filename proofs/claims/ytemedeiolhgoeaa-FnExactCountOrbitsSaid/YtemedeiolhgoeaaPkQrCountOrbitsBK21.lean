/- Towards the rows of this seat: what the functions do, as contracts over plain data. -/
import Derived.Test.YtemedeiolhgoeaaPkQrCountOrbitsBK19
import Derived.Test.YtemedeiolhgoeaaPkQrCountOrbitsBK20
namespace Go.Sm
open Go.RowKit

theorem ptI_get {p : Int} (hp : 0 < p) : ∀ (n : Nat) {i : Nat} (v : Int), i < n → (ptI p n v)[i]? = some (v / p ^ i % p)
  | 0, _, _, h => by omega
  | n + 1, 0, v, _ => by simp [ptI]
  | n + 1, i + 1, v, h => by
    have := ptI_get hp n (i := i) (v / p) (by omega)
    rw [ptI, List.getElem?_cons_succ, this, Int.pow_succ, Int.mul_comm, Int.ediv_ediv_of_nonneg (by omega)]
theorem pow_le3 {p : Int} (hp : 2 ≤ p ∧ p ≤ 13) {n : Nat} (hn : n ≤ 3) : 1 ≤ p ^ n ∧ p ^ n ≤ 2197 := by
  obtain rfl | rfl | rfl | rfl | rfl | rfl | rfl | rfl | rfl | rfl | rfl | rfl : p = 2 ∨ p = 3 ∨ p = 4 ∨ p = 5 ∨ p = 6 ∨ p = 7 ∨ p = 8 ∨ p = 9 ∨ p = 10 ∨ p = 11 ∨ p = 12 ∨ p = 13 := by omega
  all_goals
    obtain rfl | rfl | rfl | rfl : n = 0 ∨ n = 1 ∨ n = 2 ∨ n = 3 := by omega
    all_goals decide

theorem raised_ok (p : Int) (n : Nat) (hp : 2 ≤ p ∧ p ≤ 13) (hn : n ≤ 3) : CallOK Go.Proofs.Try.prog 49 [.one (i64 p), .one (i64 n)] (.one (i64 (p ^ n))) := by
  have hF := fnOk 15 [.tmp 4]
  refine callOK hF 60 Go.Proofs.Try.func49 rfl rfl rfl (by decide) (by simp) rfl ?_
  intro w0 hw
  have S := @vc_sound w0 _ hF ⟨(.one (i64 (p ^ n))), []⟩ Go.Proofs.Try.f49 rfl (by simp)
  simp
  refine J.loop hw (fun i : Nat => ⟨[(0, .c (.d (i64 p))), (5, .c (.d (i64 (p ^ i)))), (6, .c (.d (i64 n))), (7, .c (.d (i64 i)))], []⟩)
    (fun i => i ≤ n) (fun i => n - i) 0 (by simp) (by simp) ?_
  intro i hi
  refine S 12 _ _ ?_
  simp
  refine ⟨fun hlt => ?_, fun hge => ?_⟩
  · have h1 := pow_le3 hp (n := i + 1) (by omega)
    have hq := Int.pow_succ p i
    generalize hqq : p ^ (i + 1) = q at h1 hq
    have hm : IntKind.i64.wrap (p ^ i * p) = q := by rw [← hq]; exact wrap64 (by omega) (by omega)
    have hmin : ¬ 1000000 < q := by omega
    refine S 60 _ _ ?_
    simp [hm, hmin]
    exact Nxt.mk (i + 1) hlt (by simp [wrapS (i := i) (n := n) hlt (by omega), hqq]) (by omega)
  · obtain rfl : i = n := by omega
    refine S 60 _ _ ?_
    simp

theorem points_ok (p : Int) (n : Nat) (G : List Mx) (hp : 2 ≤ p ∧ p ≤ 13) (hn : n ≤ 3) : CallOK Go.Proofs.Try.prog 26 [vGroup p n G] (.tup [(false, [oIntss (if p ^ n ≤ 400 then ptsI p n else [])]), (false, [bo (decide (p ^ n ≤ 400))])]) := by
  have hF := fnOk 47 [.tmp 2, .tmp 3]
  refine callOK hF 60 Go.Proofs.Try.func26 rfl rfl rfl (by decide) (by simp) rfl ?_
  intro w0 hw
  have S := @vc_sound w0 _ hF ⟨(.tup [(false, [oIntss (if p ^ n ≤ 400 then ptsI p n else [])]), (false, [bo (decide (p ^ n ≤ 400))])]), []⟩ Go.Proofs.Try.f26 rfl (by simp)
  have c1 := raised_ok p n hp hn
  by_cases h : p ^ n ≤ 400
  case neg =>
    rw [if_neg h, decide_eq_false h] at S ⊢
    have hgt : 400 < p ^ n := by omega
    simp
    refine CallW.ok (by decide) (by simp) c1 (by simp) (S 60 _ _ ?_)
    simp [hgt]
  rw [if_pos h, decide_eq_true h] at S ⊢
  have hgt : ¬ 400 < p ^ n := by omega
  have h1 := pow_le3 hp hn
  have hN : ((p.toNat ^ n : Nat) : Int) = p ^ n := toNat_pow (by omega) n
  generalize hq : p ^ n = q at h1 hN c1 h hgt
  obtain ⟨m, rfl⟩ : ∃ m : Nat, q = m := ⟨q.toNat, by omega⟩
  have hps : ptsI p n = (List.range m).map fun v : Nat => ptI p n v := by unfold ptsI; rw [show p.toNat ^ n = m by omega]
  rw [hps] at S ⊢
  simp
  refine CallW.ok (by decide) (by simp) c1 (by simp) (S 60 _ _ ?_)
  simp [hgt]
  refine J.loop hw (fun v : Nat => ⟨[(1, .c (.ref 64001 0)), (5, .c (.ob 64005)), (18, .c (.d (i64 m))), (19, .c (.d (i64 v)))], [(64001, .var [.d (i64 p), .d (i64 n), .d (vMats G)]), (64005, .arr 25 1 (((List.range v).map fun v : Nat => ptI p n v).map fun r => [oInts r]))]⟩)
    (fun v => v ≤ m) (fun v => m - v) 0 (by simp) (by simp) ?_
  intro v hv
  refine S 8 _ _ ?_
  simp
  refine ⟨fun hlt => ?_, fun hge => ?_⟩
  · refine S 60 _ _ ?_
    simp
    refine J.loop hw (fun i : Nat => ⟨[(1, .c (.ref 64001 0)), (5, .c (.ob 64005)), (7, .c (.ob 64007)), (8, .c (.d (i64 i))), (9, .c (.d (i64 (v / p ^ i)))), (18, .c (.d (i64 m))), (19, .c (.d (i64 v)))], [(64001, .var [.d (i64 p), .d (i64 n), .d (vMats G)]), (64005, .arr 25 1 (((List.range v).map fun v : Nat => ptI p n v).map fun r => [oInts r])), (64007, .arr 2 1 (ints ((ptI p n v).take i)))]⟩)
      (fun i => i ≤ n) (fun i => n - i) 0 (by simp) (by simp) ?_
    intro i hi
    refine S 12 _ _ ?_
    simp
    refine ⟨fun hi2 => ?_, fun hge => ?_⟩
    · have hp0 : p ≠ 0 := by omega
      have hpi := pow_le3 hp (n := i) (by omega)
      have hr0 : 0 ≤ (v : Int) / p ^ i := Int.ediv_nonneg (by omega) (by omega)
      have hr1 : (v : Int) / p ^ i ≤ v := Int.ediv_le_self _ (by omega)
      have hnx : (v : Int) / p ^ i / p = v / p ^ (i + 1) := by rw [Int.pow_succ, Int.ediv_ediv_of_nonneg (by omega)]
      have hget := ptI_get (by omega : 0 < p) n (i := i) v hi2
      have htk : (ptI p n v).take (i + 1) = (ptI p n v).take i ++ [(v : Int) / p ^ i % p] := by rw [List.take_add_one, hget]; rfl
      generalize (v : Int) / p ^ i = rest at hr0 hr1 hnx htk
      have hm1 : rest.tmod p = rest % p := Int.tmod_eq_emod_of_nonneg hr0
      have hm2 : rest.tdiv p = rest / p := Int.tdiv_eq_ediv_of_nonneg hr0
      have hm3 : rest / p ≤ rest := Int.ediv_le_self _ hr0
      have hm4 : 0 ≤ rest / p := Int.ediv_nonneg hr0 (by omega)
      have hm5 := Int.emod_nonneg rest hp0
      have hm6 := Int.emod_lt_of_pos rest (by omega : 0 < p)
      have hw1 : IntKind.i64.wrap (rest % p) = rest % p := wrap64 (by omega) (by omega)
      have hw2 : IntKind.i64.wrap (rest / p) = rest / p := wrap64 (by omega) (by omega)
      refine S 60 _ _ ?_
      simp [hp0, hm1]
      refine ⟨by omega, ?_⟩
      refine J.drB hF mixed 7 [[], [0], [], [], [3], [2, 3, 4], [0, 1], [0, 1, 2, 3, 4, 5, 6]] [[28, 30, 31, 32, 33], [29, 30, 31, 32, 33], [28, 29, 30, 31, 32, 8], [28, 29, 30, 31, 8], [28, 29, 30, 32, 8], [28, 29, 33, 8], [30, 31, 32, 33, 8]] (by decide) ?_
      simp [hp0, hm2, hw2]
      refine S 60 _ _ ?_
      simp
      have htk2 : List.take (i + 1) (ints (ptI p n v)) = List.take i (ints (ptI p n v)) ++ [[i64 (rest % p)]] := by
        unfold ints
        rw [← List.map_take, htk, List.map_append, List.map_take]; rfl
      unfold ints at htk2
      exact Nxt.mk (i + 1) hi2 (by simp [wrapS (i := i) (n := n) hi2 (by omega), htk2, hnx]) (by omega)
    · obtain rfl : i = n := by omega
      rw [List.take_of_length_le (by simp [ptI_len])]
      refine S 60 _ _ ?_
      simp
      refine BsW.move hF (e := 25) (es := [[oInts (ptI p i v)]]) (ks := [64007]) (by decide) rfl rfl rfl (by simp) (by simp) rfl (by decide) (by decide) (by simp) ?_
      refine S 60 _ _ ?_
      simp
      refine ⟨⟨by omega, by omega⟩, ?_⟩
      exact Nxt.mk (v + 1) hlt (by simp [wrapS (i := v) (n := m) hlt (by omega), List.range_succ]) (by omega)
  · obtain rfl : v = m := by omega
    refine S 60 _ _ ?_
    simp

theorem pow_up {p : Int} (hp : 2 ≤ p) : ∀ {i n : Nat}, i ≤ n → p ^ i ≤ p ^ n
  | i, 0, h => by obtain rfl : i = 0 := by omega
                  exact Int.le_refl _
  | i, n + 1, h => by
    rcases Nat.lt_or_ge i (n + 1) with hl | hg
    · have := pow_up hp (i := i) (n := n) (by omega)
      have h2 := Int.pow_succ p n
      have h3 : 0 ≤ p ^ n := Int.pow_nonneg (by omega)
      have h4 : p ^ n * 1 ≤ p ^ n * p := Int.mul_le_mul_of_nonneg_left (by omega) h3
      rw [h2]
      omega
    · obtain rfl : i = n + 1 := by omega
      exact Int.le_refl _
theorem ptsS_rows {p : Int} (hp : 0 < p) {n : Nat} {x : List Int} (h : x ∈ ptsS p n) : x.length = n := (ptsS_mem hp).1 h |>.1

set_option maxRecDepth 20000 in
set_option maxHeartbeats 2000000 in
theorem l09Points_ok (p : Int) (n : Nat) (G : List Mx) (hp : 2 ≤ p ∧ p ≤ 13) (hn : n ≤ 3) : CallOK Go.Proofs.Try.prog 24 [vGroup p n G] (.tup [(false, [oIntss (if p ^ n ≤ 400 then ptsS p n else [])]), (false, [bo (decide (p ^ n ≤ 400))])]) := by
  have hF := fnOk 46 [.tmp 2, .tmp 3]
  refine callOK hF 60 Go.Proofs.Try.func24 rfl rfl rfl (by decide) (by simp) rfl ?_
  intro w0 hw
  have S := @vc_sound w0 _ hF ⟨(.tup [(false, [oIntss (if p ^ n ≤ 400 then ptsS p n else [])]), (false, [bo (decide (p ^ n ≤ 400))])]), []⟩ Go.Proofs.Try.f24 rfl (by simp)
  have hp0 : 0 < p := by omega
  obtain ⟨q, hq⟩ : ∃ q : Nat, p = q := ⟨p.toNat, by omega⟩
  have hqt : p.toNat = q := by omega
  subst hq
  have hq13 : 2 ≤ q ∧ q ≤ 13 := by omega
  simp
  refine BsW.move hF (e := 25) (es := [[oInts []]]) (ks := [9 * 64]) (by decide) rfl rfl rfl (by simp) (by simp) rfl (by decide) (by decide) (by simp) ?_
  refine S 60 _ _ ?_
  simp
  refine J.loop hw (fun i : Nat => ⟨[(1, .c (.ref 64001 0)), (4, .c (.ob 64004)), (5, .c (.d (i64 i)))], [(64001, .var [.d (i64 q), .d (i64 n), .d (vMats G)]), (64004, .arr 25 1 ((ptsS q i).map fun r => [oInts r]))]⟩)
    (fun i => i ≤ n ∧ (q : Int) ^ i ≤ 400) (fun i => n - i) 0 (by simp) (by simp [ptsS]) ?_
  rintro i ⟨hi, hpi⟩
  refine S 12 _ _ ?_
  simp
  refine ⟨fun hlt => ?_, fun hge => ?_⟩
  · have hL : (ptsS q i).length ≤ 2197 := by
      have h1 := ptsS_len (p := q) i
      have h2 := toNat_pow hp0 i
      have h3 := pow_le3 hp (n := i) (by omega)
      omega
    have hN : ((ptsS q (i + 1)).length : Int) = (q : Int) ^ (i + 1) := by rw [ptsS_len, toNat_pow hp0]
    have hr : ∀ x ∈ ptsS q i, x.length ≤ 3 := fun x hx => by have := ptsS_rows hp0 hx; omega
    have hS : ptsS q (i + 1) = (ptsS q i).flatMap fun x => (List.range q).map fun v : Nat => x ++ [(v : Int)] := by rw [ptsS, hqt]
    generalize ptsS q i = E at hL hr hS ⊢
    generalize hE2 : ptsS q (i + 1) = E2 at hS hN
    refine S 60 _ _ ?_
    simp
    refine J.loop hw (fun k : Nat => ⟨[(1, .c (.ref 64001 0)), (4, .c (.ob 64004)), (5, .c (.d (i64 i))), (6, .c (.ob 64006)), (7, .c (.d (i64 k)))], [(64001, .var [.d (i64 q), .d (i64 n), .d (vMats G)]), (64004, .arr 25 1 (E.map fun r => [oInts r])), (64006, .arr 25 1 (((E.take k).flatMap fun x => (List.range q).map fun v : Nat => x ++ [(v : Int)]).map fun r => [oInts r]))]⟩)
      (fun k => k ≤ E.length) (fun k => E.length - k) 0 (by simp) (by simp) ?_
    intro k hk
    refine S 12 _ _ ?_
    simp
    refine ⟨fun hkl => ?_, fun hge => ?_⟩
    · obtain ⟨x, hx⟩ : ∃ x, E[k]? = some x := ⟨E[k], List.getElem?_eq_getElem hkl⟩
      have hxl := hr x (List.mem_of_getElem? hx)
      refine S 60 _ _ ?_
      simp
      generalize hA : ((E.take k).flatMap fun x => (List.range q).map fun v : Nat => x ++ [(v : Int)]) = A
      have hAl : A.length ≤ 13 * 2197 := by
        rw [← hA, List.length_flatMap]
        simp only [List.length_map, List.length_range, List.map_const', List.sum_replicate_nat, List.length_take]
        have : min k E.length * q ≤ 2197 * 13 := Nat.mul_le_mul (by omega) (by omega)
        omega
      have c1 := l01Own_ok x (by omega)
      refine J.loop hw (fun v : Nat => ⟨[(1, .c (.ref 64001 0)), (4, .c (.ob 64004)), (5, .c (.d (i64 i))), (6, .c (.ob 64006)), (7, .c (.d (i64 k))), (8, .c (.d (i64 v)))], [(64001, .var [.d (i64 q), .d (i64 n), .d (vMats G)]), (64004, .arr 25 1 (E.map fun r => [oInts r])), (64006, .arr 25 1 ((A ++ (List.range v).map fun v : Nat => x ++ [(v : Int)]).map fun r => [oInts r]))]⟩)
        (fun v => v ≤ q) (fun v => q - v) 0 (by simp) (by simp) ?_
      intro v hv
      refine S 12 _ _ ?_
      simp
      refine ⟨fun hvl => ?_, fun hge => ?_⟩
      · refine S 60 _ _ ?_
        simp
        refine ⟨hkl, fun x' hx' => ?_⟩
        obtain rfl : x = x' := Option.some.inj (hx.symm.trans hx')
        clear hx'
        refine CallW.ok (by decide) (by simp) c1 (by simp) (S 60 _ _ ?_)
        simp
        refine ⟨by omega, ?_⟩
        refine BsW.move hF (e := 25) (es := [[oInts (x ++ [(v : Int)])]]) (ks := [38 * 64]) (by decide) rfl rfl rfl (by simp) (by simp) rfl (by decide) (by decide) (by simp) ?_
        refine S 60 _ _ ?_
        simp
        refine ⟨by omega, ?_⟩
        exact Nxt.mk (v + 1) hvl (by simp [wrapS (i := v) (n := q) hvl (by omega), List.range_succ]) (by omega)
      · obtain rfl : v = q := by omega
        refine S 60 _ _ ?_
        simp
        exact Nxt.mk (k + 1) hkl (by simp [wrapS (i := k) (n := E.length) hkl (by omega), ← hA, List.take_add_one, hx]) (by omega)
    · rw [List.take_of_length_le (by omega), ← hS]
      have hup := pow_up hp.1 (i := i + 1) (n := n) (by omega)
      by_cases hb : (q : Int) ^ (i + 1) ≤ 400
      · have hnb : ¬ (400 : Int) < E2.length := by omega
        have hnb2 : (E2.length : Int) ≤ 400 := by omega
        refine S 60 _ _ ?_
        simp [hnb]
        refine Nxt.mk (i + 1) ⟨hlt, hb⟩ (by simp [wrapS (i := i) (n := n) hlt (by omega), hE2]) (by omega)
      · have hnb : (400 : Int) < E2.length := by omega
        have hnb2 : ¬ (E2.length : Int) ≤ 400 := by omega
        have e : ¬ (q : Int) ^ n ≤ 400 := by omega
        rw [if_neg e, decide_eq_false e] at S ⊢
        refine S 60 _ _ ?_
        simp [hnb]
  · obtain rfl : i = n := by omega
    rw [if_pos hpi, decide_eq_true hpi] at S ⊢
    refine S 60 _ _ ?_
    simp

end Go.Sm

namespace Go.Sm
open Go.RowKit

def isLeast (p d : Int) (G : List Mx) (x : List Int) : Bool := decide (leastP p d G x = x)
def cntO (p d : Int) (G : List Mx) (L : List (List Int)) : Int := (L.countP (isLeast p d G) : Nat)
theorem cntO_take {p d : Int} {G : List Mx} {L : List (List Int)} {i : Nat} {x : List Int} (hx : L[i]? = some x) :
    cntO p d G (L.take (i + 1)) = cntO p d G (L.take i) + if leastP p d G x = x then 1 else 0 := by
  unfold cntO
  rw [List.take_add_one, hx, List.countP_append]
  by_cases h : leastP p d G x = x <;> simp [isLeast, h]
theorem cntO_le {p d : Int} {G : List Mx} (L : List (List Int)) : 0 ≤ cntO p d G L ∧ cntO p d G L ≤ L.length := by
  unfold cntO
  have := List.countP_le_length (p := isLeast p d G) (l := L)
  omega

set_option maxHeartbeats 1000000 in
theorem countOrbits_ok (p d : Int) (G : List Mx) (L : List (List Int)) (h : IsG p d G) (hl : L.length ≤ 1000) (hr : ∀ x ∈ L, RowOk p d.toNat x) : CallOK Go.Proofs.Try.prog 27 [vGroup p d G, .one (vIntss L)] (.one (i64 (cntO p d G L))) := by
  have hF := fnOk 25 [.tmp 4]
  refine callOK hF 60 Go.Proofs.Try.func27 rfl rfl rfl (by decide) (by simp) rfl ?_
  intro w0 hw
  have S := @vc_sound w0 _ hF ⟨(.one (i64 (cntO p d G L))), []⟩ Go.Proofs.Try.f27 rfl (by simp)
  simp
  refine J.loop hw (fun i : Nat => ⟨[(2, .c (.ref 64002 0)), (5, .c (.d (i64 (cntO p d G (L.take i))))), (8, .c (.d (vIntss L))), (9, .c (.d (i64 L.length))), (10, .c (.d (i64 i)))], [(64002, .var [.d (i64 p), .d (i64 d), .d (vMats G)])]⟩)
    (fun i => i ≤ L.length) (fun i => L.length - i) 0 (by simp) (by simp [cntO]) ?_
  intro i hi
  refine S 12 _ _ ?_
  simp
  refine ⟨fun hlt => ?_, fun hge => ?_⟩
  · obtain ⟨x, hx⟩ : ∃ x, L[i]? = some x := ⟨L[i], List.getElem?_eq_getElem hlt⟩
    have hxr := hr x (List.mem_of_getElem? hx)
    have c1 := orbitOfPoint_ok p d G x h.1.1 h.1.2 (by have := h.2.1; omega) hxr
    have h0 := orb_head h x
    have hz := (least_row h x).1
    have hct := cntO_take (p := p) (d := d) (G := G) hx
    have hc0 := cntO_le (p := p) (d := d) (G := G) (L.take i)
    have htl : (L.take i).length ≤ 1000 := by rw [List.length_take]; omega
    generalize cntO p d G (L.take i) = c at hct hc0 ⊢
    generalize leastP p d G x = z at h0 hz hct
    generalize orbL p d G x = E at c1 h0
    obtain ⟨M, rfl⟩ : ∃ M, E = z :: M := by
      cases E with
      | nil => simp at h0
      | cons a M => simp at h0; exact ⟨M, by rw [h0]⟩
    have c2 := sameInts_ok z x (by have := h.1.2; omega)
    refine ⟨hlt, fun x' hx' => ?_⟩
    obtain rfl : x = x' := Option.some.inj (hx.symm.trans hx')
    clear hx'
    refine S 60 _ _ ?_
    simp
    refine CallW.ok (by decide) (by simp) c1 (by simp) (S 60 _ _ ?_)
    simp
    by_cases hzx : z = x
    · rw [decide_eq_true hzx] at c2
      rw [if_pos hzx] at hct
      have hw1 : IntKind.i64.wrap (c + 1) = c + 1 := wrap64 (by omega) (by omega)
      refine CallW.ok (by decide) (by simp) c2 (by simp) (S 60 _ _ ?_)
      simp
      exact Nxt.mk (i + 1) hlt (by simp [wrapS (i := i) (n := L.length) hlt (by omega), hct, hw1]) (by omega)
    · rw [decide_eq_false hzx] at c2
      rw [if_neg hzx] at hct
      refine CallW.ok (by decide) (by simp) c2 (by simp) (S 60 _ _ ?_)
      simp
      exact Nxt.mk (i + 1) hlt (by simp [wrapS (i := i) (n := L.length) hlt (by omega), hct]) (by omega)
  · rw [List.take_of_length_le (by omega)]
    refine S 60 _ _ ?_
    simp

/-- The number of orbits, and the error. -/
noncomputable def orbsR (p d : Int) (G : List Mx) : Int × Int :=
  if IsG p d G then (if p ^ d.toNat ≤ 400 then (cntO p d G (ptsI p d.toNat), 0) else (0, 3)) else (0, 1)
theorem cnt_perm {p d : Int} {G : List Mx} (hp : 0 < p) (n : Nat) : cntO p d G (ptsS p n) = cntO p d G (ptsI p n) := by
  unfold cntO
  rw [(pts_perm hp n).countP_eq]

set_option maxHeartbeats 1000000 in
theorem CountOrbits_ok (p d : Int) (G : List Mx) (hG : G.length ≤ 1048576) : CallOK Go.Proofs.Try.prog 13 [vGroup p d G] (.tup [(false, [i64 (orbsR p d G).1]), (false, [i64 (orbsR p d G).2])]) := by
  have hF := fnOk 19 [.tmp 2, .tmp 3]
  refine callOK hF 60 Go.Proofs.Try.func13 rfl rfl rfl (by decide) (by simp) rfl ?_
  intro w0 hw
  have S := @vc_sound w0 _ hF ⟨(.tup [(false, [i64 (orbsR p d G).1]), (false, [i64 (orbsR p d G).2])]), []⟩ Go.Proofs.Try.f13 rfl (by simp)
  have c1 := IsGroup_ok p d G hG
  by_cases h1 : IsG p d G
  case neg =>
    have e2 : orbsR p d G = (0, 1) := if_neg h1
    rw [e2] at S ⊢
    rw [decide_eq_false h1] at c1
    simp
    refine CallW.ok (by decide) (by simp) c1 (by simp) (S 60 _ _ ?_)
    simp
  rw [decide_eq_true h1] at c1
  have hpp := prPos h1.1.1
  have hp13 : 2 ≤ p ∧ p ≤ 13 := by have := h1.1.1; unfold Pr at this; omega
  obtain ⟨n, rfl⟩ : ∃ n : Nat, d = n := ⟨d.toNat, by have := h1.1.2; omega⟩
  have hn : n ≤ 3 := by have := h1.1.2; omega
  have c2 := points_ok p n G hp13 hn
  have hnn : (n : Int).toNat = n := rfl
  by_cases h2 : p ^ n ≤ 400
  case neg =>
    have e2 : orbsR p n G = (0, 3) := by unfold orbsR; rw [if_pos h1, hnn, if_neg h2]
    rw [e2] at S ⊢
    rw [if_neg h2, decide_eq_false h2] at c2
    simp
    refine CallW.ok (by decide) (by simp) c1 (by simp) (S 60 _ _ ?_)
    simp
    refine CallW.ok (by decide) (by simp) c2 (by simp) (S 60 _ _ ?_)
    simp
  have e2 : orbsR p n G = (cntO p n G (ptsI p n), 0) := by unfold orbsR; rw [if_pos h1, hnn, if_pos h2]
  rw [e2] at S ⊢
  rw [if_pos h2, decide_eq_true h2] at c2
  have hl : (ptsI p n).length ≤ 1000 := by
    have := toNat_pow (by omega : 0 < p) n
    simp only [ptsI, List.length_map, List.length_range]
    omega
  have c3 := countOrbits_ok p n G (ptsI p n) h1 hl fun x hx => (ptsI_mem (by omega)).1 hx
  generalize cntO p n G (ptsI p n) = c at c3 S ⊢
  generalize ptsI p n = L at c2 c3
  simp
  refine CallW.ok (by decide) (by simp) c1 (by simp) (S 60 _ _ ?_)
  simp
  refine CallW.ok (by decide) (by simp) c2 (by simp) (S 60 _ _ ?_)
  simp
  refine CallW.ok (by decide) (by simp) c3 (by simp) (S 60 _ _ ?_)
  simp

set_option maxHeartbeats 1000000 in
theorem specCountOrbits_ok (p d : Int) (G : List Mx) (hG : G.length ≤ 1048576) : CallOK Go.Proofs.Try.prog 12 [vGroup p d G] (.tup [(false, [i64 (orbsR p d G).1]), (false, [i64 (orbsR p d G).2])]) := by
  have hF := fnOk 38 [.tmp 2, .tmp 3]
  refine callOK hF 60 Go.Proofs.Try.func12 rfl rfl rfl (by decide) (by simp) rfl ?_
  intro w0 hw
  have S := @vc_sound w0 _ hF ⟨(.tup [(false, [i64 (orbsR p d G).1]), (false, [i64 (orbsR p d G).2])]), []⟩ Go.Proofs.Try.f12 rfl (by simp)
  have c1 := l02Is_ok p d G hG
  by_cases h1 : IsG p d G
  case neg =>
    have e2 : orbsR p d G = (0, 1) := if_neg h1
    rw [e2] at S ⊢
    rw [decide_eq_false h1] at c1
    simp
    refine CallW.ok (by decide) (by simp) c1 (by simp) (S 60 _ _ ?_)
    simp
  rw [decide_eq_true h1] at c1
  have hpp := prPos h1.1.1
  have hp13 : 2 ≤ p ∧ p ≤ 13 := by have := h1.1.1; unfold Pr at this; omega
  obtain ⟨n, rfl⟩ : ∃ n : Nat, d = n := ⟨d.toNat, by have := h1.1.2; omega⟩
  have hn : n ≤ 3 := by have := h1.1.2; omega
  have c2 := l09Points_ok p n G hp13 hn
  have hnn : (n : Int).toNat = n := rfl
  by_cases h2 : p ^ n ≤ 400
  case neg =>
    have e2 : orbsR p n G = (0, 3) := by unfold orbsR; rw [if_pos h1, hnn, if_neg h2]
    rw [e2] at S ⊢
    rw [if_neg h2, decide_eq_false h2] at c2
    simp
    refine CallW.ok (by decide) (by simp) c1 (by simp) (S 60 _ _ ?_)
    simp
    refine CallW.ok (by decide) (by simp) c2 (by simp) (S 60 _ _ ?_)
    simp
  have e2 : orbsR p n G = (cntO p n G (ptsS p n), 0) := by unfold orbsR; rw [if_pos h1, hnn, if_pos h2, cnt_perm (by omega)]
  rw [e2] at S ⊢
  rw [if_pos h2, decide_eq_true h2] at c2
  have hl : (ptsS p n).length ≤ 1000 := by
    have := toNat_pow (by omega : 0 < p) n
    rw [ptsS_len]
    omega
  have hr : ∀ x ∈ ptsS p n, RowOk p (n : Int).toNat x := fun x hx => (ptsS_mem (by omega)).1 hx
  generalize ptsS p n = L at c2 hl hr S ⊢
  simp
  refine CallW.ok (by decide) (by simp) c1 (by simp) (S 60 _ _ ?_)
  simp
  refine CallW.ok (by decide) (by simp) c2 (by simp) (S 60 _ _ ?_)
  simp
  refine J.loop hw (fun i : Nat => ⟨[(1, .c (.ref 64001 0)), (4, .c (.ob 64004)), (6, .c (.d (i64 (cntO p n G (L.take i))))), (7, .c (.d (i64 i)))], [(64001, .var [.d (i64 p), .d (i64 n), .d (vMats G)]), (64004, .arr 25 1 (L.map fun r => [oInts r]))]⟩)
    (fun i => i ≤ L.length) (fun i => L.length - i) 0 (by simp) (by simp [cntO]) ?_
  intro i hi
  refine S 12 _ _ ?_
  simp
  refine ⟨fun hlt => ?_, fun hge => ?_⟩
  · obtain ⟨x, hx⟩ : ∃ x, L[i]? = some x := ⟨L[i], List.getElem?_eq_getElem hlt⟩
    have hxr := hr x (List.mem_of_getElem? hx)
    have c3 := l09Least_ok p n G x h1 hxr
    have hz := (least_row h1 x).1
    have hct := cntO_take (p := p) (d := n) (G := G) hx
    have hc0 := cntO_le (p := p) (d := n) (G := G) (L.take i)
    have htl : (L.take i).length ≤ 1000 := by rw [List.length_take]; omega
    generalize cntO p n G (L.take i) = c at hct hc0 ⊢
    generalize leastP p n G x = z at c3 hz hct
    have c4 := l09Same_ok z x (by omega) (by rw [hz, hxr.1])
    refine S 60 _ _ ?_
    simp
    refine J.dr hF mixed 10 [[], [], [], [1, 2], [1, 2, 3], [0, 1, 2, 3, 4], [], [], [6, 7], [6, 7, 8], [0, 1, 2, 3, 4, 5, 6, 7, 8, 9]] [[24, 25, 26, 27, 28, 29, 30, 31, 32, 33], [24, 25, 26, 27, 28, 29, 30, 31, 32, 33], [24, 25, 26, 27, 28, 29, 30, 31, 32, 33], [24, 27, 28, 29, 30, 31, 32, 33], [24, 28, 29, 30, 31, 32, 33], [29, 30, 31, 32, 33], [24, 25, 26, 27, 28, 29, 30, 31, 32, 33], [24, 25, 26, 27, 28, 29, 30, 31, 32, 33], [24, 25, 26, 27, 28, 29, 32, 33], [24, 25, 26, 27, 28, 29, 33]] (by decide) ?_
    simp
    refine ⟨hlt, fun x' hx' => ?_⟩
    obtain rfl : x = x' := Option.some.inj (hx.symm.trans hx')
    clear hx'
    refine DrC.ok hF (by rfl) (by simp) c3 (by simp) (by simp) ?_
    simp
    refine ⟨hlt, fun x' hx' => ?_⟩
    obtain rfl : x = x' := Option.some.inj (hx.symm.trans hx')
    clear hx'
    refine S 60 _ _ ?_
    simp
    by_cases hzx : z = x
    · rw [decide_eq_true hzx] at c4
      rw [if_pos hzx] at hct
      have hw1 : IntKind.i64.wrap (c + 1) = c + 1 := wrap64 (by omega) (by omega)
      refine CallW.ok (by decide) (by simp) c4 (by simp) (S 60 _ _ ?_)
      simp
      exact Nxt.mk (i + 1) hlt (by simp [wrapS (i := i) (n := L.length) hlt (by omega), hct, hw1]) (by omega)
    · rw [decide_eq_false hzx] at c4
      rw [if_neg hzx] at hct
      refine CallW.ok (by decide) (by simp) c4 (by simp) (S 60 _ _ ?_)
      simp
      exact Nxt.mk (i + 1) hlt (by simp [wrapS (i := i) (n := L.length) hlt (by omega), hct]) (by omega)
  · rw [List.take_of_length_le (by omega)]
    refine S 60 _ _ ?_
    simp

end Go.Sm
