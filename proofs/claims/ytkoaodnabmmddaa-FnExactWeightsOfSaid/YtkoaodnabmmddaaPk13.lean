/- Towards the rows of this seat: what the functions do, as contracts over plain data. -/
import Derived.Test.YtkoaodnabmmddaaPk4
import Derived.Test.YtkoaodnabmmddaaPk5
import Derived.Test.YtkoaodnabmmddaaPk12
import Derived.Test.YtkoaodnabmmddaaPk11
namespace Go.Sm
open Go.RowKit

def capN (p : Int) : Nat → Int
  | 0 => 1
  | k + 1 => if 20001 < capN p k * p then 20001 else capN p k * p
theorem capN_eq {p : Int} (hp : 2 ≤ p) : ∀ k, capN p k = if 20001 < p ^ k then 20001 else p ^ k
  | 0 => by simp [capN]
  | k + 1 => by
    have hpos : 0 < p ^ k := Int.pow_pos (by omega)
    have h2 : p ^ k * 2 ≤ p ^ k * p := Int.mul_le_mul_of_nonneg_left hp (by omega)
    simp only [capN]
    rw [capN_eq hp k, Int.pow_succ]
    by_cases h : 20001 < p ^ k
    · rw [if_pos h, if_pos (by omega), if_pos (by omega)]
    · rw [if_neg h]
theorem capN_range {p : Int} (hp : 2 ≤ p) (k : Nat) : 1 ≤ capN p k ∧ capN p k ≤ 20001 := by
  have hpos : 0 < p ^ k := Int.pow_pos (by omega)
  rw [capN_eq hp]; split <;> omega
theorem capN_pow {p : Int} (hp : 2 ≤ p) {k : Nat} (h : capN p k ≤ 20000) : capN p k = (p.toNat ^ k : Nat) := by
  rw [capN_eq hp] at h ⊢
  have e : ((p.toNat ^ k : Nat) : Int) = p ^ k := by rw [Int.natCast_pow, Int.toNat_of_nonneg (by omega)]
  rw [e]
  split <;> omega

theorem l10Count_ok (p l : Int) (rows : List (List Int)) (hp : Pr p) (hl : rows.length ≤ 1048576) : CallOK Go.Proofs.Try.prog 79 [vCode p l rows] (.one (i64 (capN p rows.length))) := by
  have hF := fnOk 18 [.tmp 2]
  refine callOK hF 60 Go.Proofs.Try.func79 rfl rfl rfl (by decide) (by simp) rfl ?_
  intro w0 hw
  have S := @vc_sound w0 _ hF ⟨(.one (i64 (capN p rows.length))), []⟩ Go.Proofs.Try.f79 rfl (by simp)
  have hpp := prPos hp
  simp
  refine J.loop hw (fun k : Nat => ⟨[(1, .c (.ref 64001 0)), (3, .c (.d (i64 (capN p k)))), (4, .c (.d (i64 k)))], [(64001, .var [.d (i64 p), .d (i64 l), .d (vIntss rows)])]⟩)
    (fun k => k ≤ rows.length) (fun k => rows.length - k) 0 (by simp) (by simp [capN]) ?_
  intro k hk
  have hb := capN_range (p := p) hpp.1 k
  have hs : capN p (k + 1) = if 20001 < capN p k * p then 20001 else capN p k * p := rfl
  have m1 : 0 ≤ capN p k * p := Int.mul_nonneg (by omega) (by omega)
  have m2 : capN p k * p ≤ 20001 * 13 := Int.mul_le_mul (by omega) (by omega) (by omega) (by omega)
  have w1 : IntKind.i64.wrap (capN p k * p) = capN p k * p := wrap64 (by omega) (by omega)
  generalize hc : capN p k = c at hs w1
  refine S 12 _ _ ?_
  simp
  refine ⟨fun hlt => ?_, fun hge => ?_⟩
  · refine S 60 _ _ ?_
    simp [w1]
    exact Nxt.mk (k + 1) hlt (by simp [wrapS (i := k) (n := rows.length) hlt (by omega), hs]) (by omega)
  · obtain rfl : k = rows.length := by omega
    refine S 60 _ _ ?_
    simp [hc]

/-- One more round of the reference's count. -/
def cntS (p : Int) (n : Nat) (rows : List (List Int)) (k t : Nat) : Nat := sumR k fun k => isW t (wtN n (wS p rows zeroF k))
theorem cntS_succ (p : Int) (n : Nat) (rows : List (List Int)) (k t : Nat) : cntS p n rows (k + 1) t = cntS p n rows k t + isW t (wtN n (wS p rows zeroF k)) := rfl
theorem cntS_le (p : Int) (n : Nat) (rows : List (List Int)) (k t : Nat) : cntS p n rows k t ≤ k := by
  have := sumR_le (f := fun k => isW t (wtN n (wS p rows zeroF k))) (c := 1) (n := k) fun i _ => by simp only [isW]; split <;> omega
  unfold cntS; omega
/-- The number without its first i digits. -/
def qN (p : Int) (k i : Nat) : Nat := k / p.toNat ^ i
theorem qN_zero (p : Int) (k : Nat) : qN p k 0 = k := by simp [qN]
theorem qN_succ (p : Int) (k i : Nat) : qN p k (i + 1) = qN p k i / p.toNat := by unfold qN; rw [Nat.div_div_eq_div_mul, Nat.pow_succ]
theorem qN_le (p : Int) (k i : Nat) : qN p k i ≤ k := Nat.div_le_self _ _
theorem ints_zero (n : Nat) : ints (tabL n zeroF) = List.replicate n [i64 0] := by
  unfold zeroF; rw [tabL_zero]; simp

set_option maxHeartbeats 1600000 in
theorem l10Weights_ok (p : Int) (n : Nat) (rows : List (List Int)) (hp : Pr p) (h1 : 1 ≤ n) (h2 : n ≤ 10) (hl : rows.length ≤ 10) (hr : ∀ r ∈ rows, RowOk p n r) (hc : capN p rows.length ≤ 20000) : CallOK Go.Proofs.Try.prog 80 [vCode p n rows] (.one (oInts (wtsL p n rows))) := by
  have hF := fnOk 88 [.tmp 2]
  refine callOK hF 60 Go.Proofs.Try.func80 rfl rfl rfl (by decide) (by simp) rfl ?_
  intro w0 hw
  have S := @vc_sound w0 _ hF ⟨(.one (oInts (wtsL p n rows))), []⟩ Go.Proofs.Try.f80 rfl (by simp)
  have hpp := prPos hp
  have hp0 : 0 < p := by omega
  have c1 := l10Count_ok p n rows hp (by omega)
  have hM := capN_pow hpp.1 hc
  have hfin : ∀ t, cntS p n rows (p.toNat ^ rows.length) t = cI p n rows zeroF t := fun t => wS_count hp0 n t rows zeroF
  have hz0 : Red0 p zeroF := fun j => ⟨Int.le_refl _, hp0⟩
  rw [hM] at c1 hc
  generalize hMd : p.toNat ^ rows.length = M at c1 hc hfin
  have hwn : IntKind.i64.wrap ((n : Int) + 1) = ((n + 1 : Nat) : Int) := by rw [wrap64] <;> omega
  have hi0 : ints (tabL (n + 1) fun t => ((cntS p n rows 0 t : Nat) : Int)) = List.replicate (n + 1) [i64 0] := ints_zero (n + 1)
  simp
  refine J.dr hF mixed 6 [[], [0], [0, 1], [0, 1, 2], [], [4], [0, 1, 2, 3, 4, 5], [0, 1, 2, 3, 4, 5, 6]] [[12, 13, 14, 15, 16, 17], [13, 14, 15, 16, 17], [14, 15, 16, 17], [15, 16, 17], [12, 13, 14, 15, 16, 17], [12, 13, 14, 15, 17]] (by decide) ?_
  simp [hwn]
  refine ⟨by omega, DrC.ok hF (by rfl) (by simp) c1 (by simp) (by simp) ?_⟩
  simp
  refine S 60 _ _ ?_
  simp
  refine J.loop hw (fun k : Nat => ⟨[(1, .c (.ref 64001 0)), (3, .c (.ob 64003)), (4, .c (.d (i64 M))), (5, .c (.d (i64 k)))],
      [(64001, .var [.d (i64 p), .d (i64 n), .d (vIntss rows)]), (64003, .arr 2 1 (ints (tabL (n + 1) fun t => (cntS p n rows k t : Nat))))]⟩)
    (fun k => k ≤ M) (fun k => M - k) 0 (by simp) (by simp [hi0]) ?_
  intro k hk
  refine S 12 _ _ ?_
  simp
  refine ⟨fun hlt => ?_, fun hge => ?_⟩
  · have hx := wtN_le (wS p rows zeroF k) n
    have hCl : (tabL (n + 1) fun t => ((cntS p n rows k t : Nat) : Int)).length = n + 1 := tabL_length _ _
    have hCg : (tabL (n + 1) fun t => ((cntS p n rows k t : Nat) : Int))[wtN n (wS p rows zeroF k)]? = some ((cntS p n rows k (wtN n (wS p rows zeroF k)) : Nat) : Int) := tabL_get (by omega)
    have hCs : (tabL (n + 1) fun t => ((cntS p n rows k t : Nat) : Int)).set (wtN n (wS p rows zeroF k)) ((cntS p n rows k (wtN n (wS p rows zeroF k)) : Nat) + 1) = tabL (n + 1) fun t => ((cntS p n rows (k + 1) t : Nat) : Int) := by
      have := bump_set (n := n) (x := wtN n (wS p rows zeroF k)) (by omega) (fun _ => 0) (cntS p n rows k)
      simpa [cntS_succ] using this
    have hCb := cntS_le p n rows k (wtN n (wS p rows zeroF k))
    generalize (tabL (n + 1) fun t => ((cntS p n rows k t : Nat) : Int)) = C at hCl hCg hCs
    generalize hB : (tabL (n + 1) fun t => ((cntS p n rows (k + 1) t : Nat) : Int)) = C' at hCs
    generalize cntS p n rows k (wtN n (wS p rows zeroF k)) = cx at hCg hCs hCb
    refine S 60 _ _ ?_
    simp
    refine ⟨by omega, S 60 _ _ ?_⟩
    simp
    refine J.loop hw (fun i : Nat => ⟨[(1, .c (.ref 64001 0)), (3, .c (.ob 64003)), (4, .c (.d (i64 M))), (5, .c (.d (i64 k))), (6, .c (.ob 64006)), (7, .c (.d (i64 (qN p k i : Nat)))), (8, .c (.d (i64 i)))],
        [(64001, .var [.d (i64 p), .d (i64 n), .d (vIntss rows)]), (64003, .arr 2 1 (ints C)), (64006, .arr 2 1 (ints (tabL n (wS p (rows.take i) zeroF k))))]⟩)
      (fun i => i ≤ rows.length) (fun i => rows.length - i) 0 (by simp) (by simp [wS, ints_zero, qN_zero]) ?_
    intro i hi
    have hwr := wS_red hp0 (rows.take i) zeroF k hz0
    have hws : ∀ r, rows[i]? = some r → wS p (rows.take (i + 1)) zeroF k = addF p (qN p k i % p.toNat) r (wS p (rows.take i) zeroF k) := fun r h => wS_take (p := p) rows zeroF k i r h
    have hdv := qN_succ p k i
    have hxl := qN_le p k i
    generalize qN p k i = x at hws hdv hxl
    have hxm : ((x : Nat) : Int).tmod p = ((x % p.toNat : Nat) : Int) := by
      rw [Int.tmod_eq_emod_of_nonneg (by omega), Int.natCast_emod, Int.toNat_of_nonneg (by omega)]
    have hxd : ((x : Nat) : Int).tdiv p = ((x / p.toNat : Nat) : Int) := by
      rw [Int.tdiv_eq_ediv_of_nonneg (by omega), Int.natCast_ediv, Int.toNat_of_nonneg (by omega)]
    have ham : x % p.toNat < p.toNat := Nat.mod_lt _ (by omega)
    refine S 12 _ _ ?_
    simp
    refine ⟨fun hlt1 => ?_, fun hge1 => ?_⟩
    · obtain ⟨r, hr'⟩ : ∃ r, rows[i]? = some r := ⟨rows[i], List.getElem?_eq_getElem hlt1⟩
      have hrr := hr r (List.mem_of_getElem? hr')
      have hrl := hrr.1
      have hws := hws r hr'
      generalize wS p (rows.take i) zeroF k = v at hws hwr
      generalize x % p.toNat = a at hws hxm ham
      refine S 60 _ _ ?_
      simp
      refine J.loop hw (fun j : Nat => ⟨[(1, .c (.ref 64001 0)), (3, .c (.ob 64003)), (4, .c (.d (i64 M))), (5, .c (.d (i64 k))), (6, .c (.ob 64006)), (7, .c (.d (i64 (x : Int)))), (8, .c (.d (i64 i))), (9, .c (.d (i64 j)))],
          [(64001, .var [.d (i64 p), .d (i64 n), .d (vIntss rows)]), (64003, .arr 2 1 (ints C)), (64006, .arr 2 1 (ints (tabL n (mix j (addF p a r v) v))))]⟩)
        (fun j => j ≤ n) (fun j => n - j) 0 (by simp) (by simp [mix_zero]) ?_
      intro j hj
      refine S 12 _ _ ?_
      simp
      refine ⟨fun hlt2 => ?_, fun hge2 => ?_⟩
      · have gw : (tabL n (mix j (addF p a r v) v))[j]? = some (v j) := by rw [tabL_get hlt2, mix_at]
        have gs := mix_set hlt2 (addF p a r v) v
        have gl : (tabL n (mix j (addF p a r v) v)).length = n := tabL_length _ _
        have g2 := gt_get (r := r) (i := j) (by omega)
        have q1 := hwr j
        have q2 := gt_range (by omega) hrr j
        have hA : addF p a r v j = (v j + a * gt r j) % p := rfl
        rw [hA] at gs
        generalize v j = y at gw gs q1
        generalize gt r j = z at g2 gs q2
        generalize tabL n (mix j (addF p a r v) v) = cur at gw gs gl
        generalize hnx : tabL n (mix (j + 1) (addF p a r v) v) = nxt at gs
        have m1 : 0 ≤ (a : Int) * z := Int.mul_nonneg (by omega) q2.1
        have m2 : (a : Int) * z ≤ 13 * 13 := Int.mul_le_mul (by omega) (by omega) (by omega) (by omega)
        have w1 : IntKind.i64.wrap ((a : Int) * z) = a * z := wrap64 (by omega) (by omega)
        have w2 : IntKind.i64.wrap (y + a * z) = y + a * z := wrap64 (by omega) (by omega)
        have hmod : (y + (a : Int) * z).tmod p = (y + a * z) % p := Int.tmod_eq_emod_of_nonneg (by omega)
        have hpn : p ≠ 0 := by omega
        refine S 60 _ _ ?_
        simp
        refine J.dr3 hF mixed 23 [[], [], [], [], [2, 3], [2, 3, 4], [], [], [7], [6, 7, 8], [], [10], [], [10, 11, 12], [10, 11, 12, 13], [], [10, 11, 12, 13, 14, 15], [10, 11, 12, 13, 14, 15, 16], [6, 7, 8, 9, 10, 11, 12, 13, 14, 15, 16, 17], [2, 3, 4, 5, 6, 7, 8, 9, 10, 11, 12, 13, 14, 15, 16, 17, 18], [], [20], [2, 3, 4, 5, 6, 7, 8, 9, 10, 11, 12, 13, 14, 15, 16, 17, 18, 19, 20, 21], [0, 1, 2, 3, 4, 5, 6, 7, 8, 9, 10, 11, 12, 13, 14, 15, 16, 17, 18, 19, 20, 21, 22], [0, 1, 2, 3, 4, 5, 6, 7, 8, 9, 10, 11, 12, 13, 14, 15, 16, 17, 18, 19, 20, 21, 22, 23]] [[40, 41, 42, 43, 44, 45, 46, 47, 48, 49, 50, 51, 52, 53, 54, 55, 56, 57, 58, 59, 60, 61, 62], [40, 41, 42, 43, 44, 45, 46, 47, 48, 49, 50, 51, 52, 53, 54, 55, 56, 57, 58, 59, 60, 61, 62], [40, 41, 42, 43, 44, 45, 46, 47, 48, 49, 50, 51, 52, 53, 54, 55, 56, 57, 58, 59, 60, 61, 62], [40, 41, 42, 43, 44, 45, 46, 47, 48, 49, 50, 51, 52, 53, 54, 55, 56, 57, 58, 59, 60, 61, 62], [40, 41, 44, 45, 46, 47, 48, 49, 50, 51, 52, 53, 54, 55, 56, 57, 58, 59, 60, 61, 62], [40, 41, 45, 46, 47, 48, 49, 50, 51, 52, 53, 54, 55, 56, 57, 58, 59, 60, 61, 62], [40, 41, 42, 43, 44, 45, 46, 47, 48, 49, 50, 51, 52, 53, 54, 55, 56, 57, 58, 59, 60, 61, 62], [40, 41, 42, 43, 44, 45, 46, 47, 48, 49, 50, 51, 52, 53, 54, 55, 56, 57, 58, 59, 60, 61, 62], [40, 41, 42, 43, 44, 45, 46, 48, 49, 50, 51, 52, 53, 54, 55, 56, 57, 58, 59, 60, 61, 62], [40, 41, 42, 43, 44, 45, 49, 50, 51, 52, 53, 54, 55, 56, 57, 58, 59, 60, 61, 62], [40, 41, 42, 43, 44, 45, 46, 47, 48, 49, 50, 51, 52, 53, 54, 55, 56, 57, 58, 59, 60, 61, 62], [40, 41, 42, 43, 44, 45, 46, 47, 48, 49, 51, 52, 53, 54, 55, 56, 57, 58, 59, 60, 61, 62], [40, 41, 42, 43, 44, 45, 46, 47, 48, 49, 50, 51, 52, 53, 54, 55, 56, 57, 58, 59, 60, 61, 62], [40, 41, 42, 43, 44, 45, 46, 47, 48, 49, 53, 54, 55, 56, 57, 58, 59, 60, 61, 62], [40, 41, 42, 43, 44, 45, 46, 47, 48, 49, 54, 55, 56, 57, 58, 59, 60, 61, 62], [40, 41, 42, 43, 44, 45, 46, 47, 48, 49, 50, 51, 52, 53, 54, 55, 56, 57, 58, 59, 60, 61, 62], [40, 41, 42, 43, 44, 45, 46, 47, 48, 49, 56, 57, 58, 59, 60, 61, 62], [40, 41, 42, 43, 44, 45, 46, 47, 48, 49, 57, 58, 59, 60, 61, 62], [40, 41, 42, 43, 44, 45, 58, 59, 60, 61, 62], [40, 41, 59, 60, 61, 62], [40, 41, 42, 43, 44, 45, 46, 47, 48, 49, 50, 51, 52, 53, 54, 55, 56, 57, 58, 59, 60, 61, 62], [40, 41, 42, 43, 44, 45, 46, 47, 48, 49, 50, 51, 52, 53, 54, 55, 56, 57, 58, 59, 61, 62], [40, 41, 62]] [[], [], [], [], [], [], [], [], [], [], [], [], [], [], [], [], [], [], [], [], [], [], []] [[], [], [], [], [], [], [], [], [], [], [], [], [], [], [], [], [], [], [], [], [], [], []] [] [] (by decide) ?_
        rw [← List.take_append_drop 6 (List.take _ _)]
        generalize htl : List.drop 6 (List.take _ _) = tl
        simp
        refine ⟨by omega, fun y' hy => ?_⟩
        obtain rfl : y = y' := Option.some.inj (gw.symm.trans hy)
        subst htl
        rw [← List.take_append_drop 9 (List.drop 6 _)]
        generalize htl : List.drop 9 (List.drop 6 _) = tl
        simp [hpn]
        refine ⟨hlt1, fun r' hr'' => ?_⟩
        obtain rfl : r = r' := Option.some.inj (hr'.symm.trans hr'')
        subst htl
        rw [← List.take_append_drop 3 (List.drop 9 (List.drop 6 _))]
        generalize htl : List.drop 3 (List.drop 9 (List.drop 6 _)) = tl
        simp
        refine ⟨by omega, fun z' hz' => ?_⟩
        obtain rfl : z = z' := Option.some.inj (g2.symm.trans hz')
        subst htl
        simp [hxm, hpn, hmod, w1, w2]
        have gs2 : (ints cur).set j [i64 ((y + a * z) % p)] = ints nxt := by rw [← gs]; simp
        refine S 60 _ _ ?_
        simp
        refine ⟨by omega, ?_⟩
        subst hnx
        exact Nxt.mk (j + 1) hlt2 (by simp [wrapS (i := j) (n := n) hlt2 (by omega), gs2]) (by omega)
      · obtain rfl : j = n := by omega
        have hpn : p ≠ 0 := by omega
        have hws2 : tabL j (mix j (addF p a r v) v) = tabL j (wS p (rows.take (i + 1)) zeroF k) := by rw [mix_end (Nat.le_refl _), hws]
        have hxl2 : x / p.toNat ≤ x := Nat.div_le_self _ _
        generalize x / p.toNat = x' at hdv hxd hxl2
        have wx : IntKind.i64.wrap (x' : Int) = x' := wrap64 (by omega) (by omega)
        refine S 60 _ _ ?_
        simp [hpn, hxd]
        exact Nxt.mk (i + 1) hlt1 (by simp [wrapS (i := i) (n := rows.length) hlt1 (by omega), hws2, hdv, wx]) (by omega)
    · have e : rows.take i = rows := List.take_of_length_le hge1
      rw [e] at hwr ⊢
      generalize wS p rows zeroF k = V at hwr hx hCg hCs ⊢
      refine S 60 _ _ ?_
      simp
      refine J.loop hw (fun j : Nat => ⟨[(1, .c (.ref 64001 0)), (3, .c (.ob 64003)), (4, .c (.d (i64 M))), (5, .c (.d (i64 k))), (6, .c (.ob 64006)), (10, .c (.d (i64 (wtN j V : Nat)))), (11, .c (.d (i64 j)))],
          [(64001, .var [.d (i64 p), .d (i64 n), .d (vIntss rows)]), (64003, .arr 2 1 (ints C)), (64006, .arr 2 1 (ints (tabL n V)))]⟩)
        (fun j => j ≤ n) (fun j => n - j) 0 (by simp) (by simp [wtN]) ?_
      intro j hj
      have hjl := wtN_le V j
      have hwt : wtN (j + 1) V = wtN j V + if V j = 0 then 0 else 1 := rfl
      refine S 12 _ _ ?_
      simp
      refine ⟨fun hlt2 => ?_, fun hge2 => ?_⟩
      · have gw := tabL_get (f := V) hlt2
        have gl := tabL_length n V
        generalize V j = y at gw hwt
        generalize wtN j V = m at hwt hjl
        have wm : IntKind.i64.wrap ((m : Int) + 1) = ((m + 1 : Nat) : Int) := by rw [wrap64] <;> omega
        refine S 60 _ _ ?_
        simp
        refine ⟨by omega, fun y' hy => ?_⟩
        obtain rfl : y = y' := Option.some.inj (gw.symm.trans hy)
        refine ⟨fun h0 => ?_, fun h0 => ?_⟩
        · rw [if_neg h0] at hwt
          simp [wm]
          exact Nxt.mk (j + 1) hlt2 (by simp [wrapS (i := j) (n := n) hlt2 (by omega), hwt]) (by omega)
        · rw [if_pos h0] at hwt
          exact Nxt.mk (j + 1) hlt2 (by simp [wrapS (i := j) (n := n) hlt2 (by omega), hwt]) (by omega)
      · obtain rfl : j = n := by omega
        generalize wtN j V = m at hx hCg hCs
        have wc : IntKind.i64.wrap ((cx : Int) + 1) = cx + 1 := wrap64 (by omega) (by omega)
        have hCs2 : (ints C).set m [i64 (cx + 1)] = ints C' := by rw [← hCs]; simp
        refine S 60 _ _ ?_
        simp
        refine ⟨by omega, fun c' hc' => ?_⟩
        obtain rfl : (cx : Int) = c' := Option.some.inj (hCg.symm.trans hc')
        simp [wc]
        refine ⟨by omega, ?_⟩
        subst hB
        exact Nxt.mk (k + 1) hlt (by simp [wrapS (i := k) (n := M) hlt (by omega), hCs2]) (by omega)
  · obtain rfl : k = M := by omega
    have e : (tabL (n + 1) fun t => ((cntS p n rows k t : Nat) : Int)) = wtsL p n rows := tabL_ext fun t _ => by rw [hfin]
    rw [e]
    refine S 60 _ _ ?_
    simp

end Go.Sm

namespace Go.Sm
open Go.RowKit

/-- The objects of the walk. -/
def walkO (p : Int) (n : Nat) (rows : List (List Int)) (fv : Value) (w : Nat → Int) (g : Nat → Nat) : List (Nat × Ob) :=
  [(1, .var [.d (i64 p), .d (i64 n), .d (vIntss rows)]), (2, .var [.ob 64006]), (3, .var [.ob 64005]), (4, .var [.d (.v fv)]),
   (64006, .arr 2 1 (ints (tabL n w))), (64005, .arr 2 1 (ints (tabL (n + 1) fun t => (g t : Int))))]
def walkV (c1 c2 c3 c4 : Value) : Value := .func (.func 125) #[] #[c1, c2, c3, c4]

theorem g_bump {n x : Nat} (h : x < n + 1) (g : Nat → Nat) : (tabL (n + 1) fun t => (g t : Int)).set x ((g x : Int) + 1) = tabL (n + 1) fun t => ((g t + isW t x : Nat) : Int) := by
  have := bump_set h (fun _ => 0) g
  simpa using this

set_option maxHeartbeats 1600000 in
theorem walk_ok (p : Int) (n : Nat) (rows : List (List Int)) (hp : Pr p) (h1 : 1 ≤ n) (h2 : n ≤ 10) (hl : rows.length ≤ 10) (hr : ∀ r ∈ rows, RowOk p n r) {w0 : Base} (hw : w0.ok64) (c1 c2 c3 c4 : Value)
    (f1 : w0.fix 1 = some c1) (f2 : w0.fix 2 = some c2) (f3 : w0.fix 3 = some c3) (f4 : w0.fix 4 = some c4) :
    ∀ (m i : Nat) (w : Nat → Int) (g : Nat → Nat), rows.length = i + m → Red0 p w → (∀ t, g t + p.toNat ^ m ≤ 20000) →
      ClosOK Go.Proofs.Try.prog w0 125 [.c (.d (i64 i)), .c (.ref 1 0), .c (.ref 2 0), .c (.ref 3 0), .c (.ref 4 0)]
        (walkO p n rows (walkV c1 c2 c3 c4) w g) (walkO p n rows (walkV c1 c2 c3 c4) w fun t => g t + cI p n (rows.drop i) w t) := by
  have hF := fnOk 66 []
  have hpp := prPos hp
  have hp0 : 0 < p := by omega
  intro m
  induction m with
  | zero =>
    intro i w g him hw0 hg
    obtain rfl : i = rows.length := by omega
    have hx := wtN_le w n
    have hbs := g_bump (n := n) (x := wtN n w) (by omega) g
    have hbg := tabL_get (n := n + 1) (f := fun t => (g t : Int)) (k := wtN n w) (by omega)
    have hcl : (tabL (n + 1) fun t => (g t : Int)).length = n + 1 := tabL_length _ _
    have hgx := hg (wtN n w)
    have e : (fun t => g t + cI p n (rows.drop rows.length) w t) = fun t => g t + isW t (wtN n w) := funext fun t => by rw [List.drop_length]; rfl
    rw [e]
    unfold walkO
    generalize (tabL (n + 1) fun t => (g t : Int)) = C at hbs hbg hcl
    generalize (tabL (n + 1) fun t => ((g t + isW t (wtN n w) : Nat) : Int)) = C' at hbs
    generalize g (wtN n w) = gx at hbs hbg hgx
    refine ClosOK.of (F := ⟨Go.Proofs.Try.prog, tab, etab, 66, []⟩) (fn := Go.Proofs.Try.f125) Go.Proofs.Try.func125 rfl rfl (by decide) (by simp) ?_
    generalize hob : [_, _, _, _, _, (64005, Ob.arr 2 1 (ints C'))] = ob'
    have S := @vc_soundQ w0 _ hF (CQ Go.Proofs.Try.prog w0 Go.Proofs.Try.f125 ob') (EndsAt ob') (clos_ret hw rfl)
    refine S 12 _ _ ?_
    simp [fsTm]
    refine S 60 _ _ ?_
    simp [tabL_length]
    refine J.loop hw (fun j : Nat => ⟨[(1, .c (.ref 1 0)), (2, .c (.ref 2 0)), (3, .c (.ref 3 0)), (4, .c (.ref 4 0)), (6, .c (.d (i64 (wtN j w : Nat)))), (16, .c (.ob 64006)), (17, .c (.d (i64 n))), (18, .c (.d (i64 j)))],
        [(1, .var [.d (i64 p), .d (i64 n), .d (vIntss rows)]), (2, .var [.ob 64006]), (3, .var [.ob 64005]), (4, .var [.d (.v (walkV c1 c2 c3 c4))]),
         (64006, .arr 2 1 (ints (tabL n w))), (64005, .arr 2 1 (ints C))]⟩)
      (fun j => j ≤ n) (fun j => n - j) 0 (by simp) (by simp [wtN]) ?_
    intro j hj
    have hjl := wtN_le w j
    have hwt : wtN (j + 1) w = wtN j w + if w j = 0 then 0 else 1 := rfl
    refine S 8 _ _ ?_
    simp
    refine ⟨fun hlt => ?_, fun hge => ?_⟩
    · have gw := tabL_get (f := w) hlt
      have gl := tabL_length n w
      generalize w j = y at gw hwt
      generalize wtN j w = m at hwt hjl
      have wm : IntKind.i64.wrap ((m : Int) + 1) = ((m + 1 : Nat) : Int) := by rw [wrap64] <;> omega
      refine S 60 _ _ ?_
      simp
      refine ⟨by omega, fun y' hy => ?_⟩
      obtain rfl : y = y' := Option.some.inj (gw.symm.trans hy)
      refine ⟨fun h0 => ?_, fun h0 => ?_⟩
      · rw [if_neg h0] at hwt
        simp [wm]
        exact Nxt.mk (j + 1) hlt (by simp [wrapS (i := j) (n := n) hlt (by omega), hwt]) (by omega)
      · rw [if_pos h0] at hwt
        exact Nxt.mk (j + 1) hlt (by simp [wrapS (i := j) (n := n) hlt (by omega), hwt]) (by omega)
    · obtain rfl : j = n := by omega
      generalize wtN j w = m at hx hbs hbg
      have hgx : gx ≤ 20000 := by omega
      have wc : IntKind.i64.wrap ((gx : Int) + 1) = gx + 1 := wrap64 (by omega) (by omega)
      have hbs2 : (ints C).set m [i64 (gx + 1)] = ints C' := by rw [← hbs]; simp
      refine S 60 _ _ ?_
      simp
      refine ⟨by omega, fun c' hc' => ?_⟩
      obtain rfl : (gx : Int) = c' := Option.some.inj (hbg.symm.trans hc')
      simp [wc]
      refine ⟨by omega, ?_⟩
      subst hob
      simp [EndsAt, hbs2]
  | succ m ih =>
    intro i w g him hw0 hg
    have hlt : i < rows.length := by omega
    obtain ⟨r, hr'⟩ : ∃ r, rows[i]? = some r := ⟨rows[i], List.getElem?_eq_getElem hlt⟩
    have hrr := hr r (List.mem_of_getElem? hr')
    have hrl := hrr.1
    have hcI : ∀ t, cI p n (rows.drop i) w t = sumR p.toNat fun a => cI p n (rows.drop (i + 1)) (addF p a r w) t := fun t => by rw [drop_cons hr']; rfl
    let G : Nat → Nat → Nat := fun a t => g t + sumR a fun b => cI p n (rows.drop (i + 1)) (addF p b r w) t
    have hG0 : G 0 = g := rfl
    have hGs : ∀ a, (fun t => G a t + cI p n (rows.drop (i + 1)) (addF p a r w) t) = G (a + 1) := fun a => funext fun t => Nat.add_assoc _ _ _
    have hGe : (fun t => g t + cI p n (rows.drop i) w t) = G p.toNat := funext fun t => by rw [hcI]
    have hGb : ∀ a, a < p.toNat → ∀ t, G a t + p.toNat ^ m ≤ 20000 := fun a ha t => by
      have h3 := hg t
      have h4 : sumR a (fun b => cI p n (rows.drop (i + 1)) (addF p b r w) t) ≤ a * p.toNat ^ m := sumR_le fun b _ => by
        have := cI_le p n t (rows.drop (i + 1)) (addF p b r w)
        rwa [List.length_drop, show rows.length - (i + 1) = m by omega] at this
      have h5 : (a + 1) * p.toNat ^ m ≤ p.toNat * p.toNat ^ m := Nat.mul_le_mul_right _ ha
      rw [Nat.succ_mul] at h5
      rw [Nat.pow_succ, Nat.mul_comm] at h3
      show g t + _ + _ ≤ _
      omega
    have hfull := addF_full hp0 hw0 r
    have hIH := fun a ha => ih (i + 1) (addF p a r w) (G a) (by omega) (addF_red hp0 _ _ _) (hGb a ha)
    simp only [hGs] at hIH
    rw [hGe]
    clear_value G
    have hst := fun a => addF_step p a r w
    have hzz := addF_zero hw0 r
    have hred := fun a => addF_red hp0 a r w
    generalize hA : (fun a => addF p a r w) = A
    have hA' : ∀ a, addF p a r w = A a := fun a => congrFun hA a
    simp only [hA'] at hIH hst hzz hfull hred
    refine ClosOK.of (F := ⟨Go.Proofs.Try.prog, tab, etab, 66, []⟩) (fn := Go.Proofs.Try.f125) Go.Proofs.Try.func125 rfl rfl (by decide) (by simp) ?_
    generalize hob : walkO p n rows (walkV c1 c2 c3 c4) w (G p.toNat) = ob'
    have S := @vc_soundQ w0 _ hF (CQ Go.Proofs.Try.prog w0 Go.Proofs.Try.f125 ob') (EndsAt ob') (clos_ret hw rfl)
    have hwi : IntKind.i64.wrap ((i : Int) + 1) = ((i + 1 : Nat) : Int) := by rw [wrap64] <;> omega
    have hne : ¬ ((i : Int) = rows.length) := by omega
    refine S 60 _ _ ?_
    simp [fsTm, walkO]
    refine ⟨fun h => absurd h (by omega), fun _ => ?_⟩
    refine J.loop hw (fun a : Nat => ⟨[(0, .c (.d (i64 i))), (1, .c (.ref 1 0)), (2, .c (.ref 2 0)), (3, .c (.ref 3 0)), (4, .c (.ref 4 0)), (34, .c (.d (i64 p))), (35, .c (.d (i64 a)))], walkO p n rows (walkV c1 c2 c3 c4) (A a) (G a)⟩)
      (fun a => (a : Int) ≤ p) (fun a => p.toNat - a) 0 (by simp; omega) (by simp [walkO, hzz, hG0]) ?_
    intro a ha
    refine S 8 _ _ ?_
    simp [walkO]
    refine ⟨fun hap => ?_, fun hap => ?_⟩
    · have hIH := hIH a (by omega)
      have hst := hst a
      have hreda := hred a
      have ha16 : IntKind.i64.wrap ((a : Int) + 1) = ((a + 1 : Nat) : Int) := by rw [wrap64] <;> omega
      generalize hv' : A (a + 1) = v' at hst
      generalize A a = v at hst hIH hreda
      generalize hg' : G (a + 1) = g' at hIH
      generalize G a = g0 at hIH
      refine S 60 _ _ ?_
      simp [walkV, hwi]
      refine OpW.clos hw (g := 125) (vs := [c1, c2, c3, c4]) (rs := [.c (.d (i64 (i + 1 : Nat)))]) [1, 2, 3, 4] [0, 1, 2, 3, 4, 34, 35] rfl rfl rfl (by decide) (by simp) (by simp [argsV]) (by simp [FV.stable]) (by simp [f1, f2, f3, f4]) (by simp [walkO, isVar]) hIH (by simp [walkO, walkV]) (by simp [FV.stable]) ?_
      simp [walkO]
      refine S 60 _ _ ?_
      simp
      refine ⟨hlt, fun r' hr'' => ?_⟩
      obtain rfl : r = r' := Option.some.inj (hr'.symm.trans hr'')
      refine S 60 _ _ ?_
      simp [hrl]
      refine J.loop hw (fun j : Nat => ⟨[(0, .c (.d (i64 i))), (1, .c (.ref 1 0)), (2, .c (.ref 2 0)), (3, .c (.ref 3 0)), (4, .c (.ref 4 0)), (34, .c (.d (i64 p))), (35, .c (.d (i64 a))), (45, .c (.d (vInts r))), (46, .c (.d (i64 n))), (47, .c (.d (i64 j)))],
          [(1, .var [.d (i64 p), .d (i64 n), .d (vIntss rows)]), (2, .var [.ob 64006]), (3, .var [.ob 64005]), (4, .var [.d (.v (walkV c1 c2 c3 c4))]),
           (64006, .arr 2 1 (ints (tabL n (mix j v' v)))), (64005, .arr 2 1 (ints (tabL (n + 1) fun t => (g' t : Int))))]⟩)
        (fun j => j ≤ n) (fun j => n - j) 0 (by simp) (by simp [mix_zero]) ?_
      intro j hj
      refine S 8 _ _ ?_
      simp
      refine ⟨fun hltj => ?_, fun hgej => ?_⟩
      · have gw : (tabL n (mix j v' v))[j]? = some (v j) := by rw [tabL_get hltj, mix_at]
        have gs := mix_set hltj v' v
        have gl : (tabL n (mix j v' v)).length = n := tabL_length _ _
        have g2 := gt_get (r := r) (i := j) (by omega)
        have q1 := hreda j
        have q2 := gt_range (by omega) hrr j
        rw [← hst j] at gs
        generalize v j = y at gw gs q1
        generalize gt r j = z at g2 gs q2
        generalize tabL n (mix j v' v) = cur at gw gs gl
        generalize hnx : tabL n (mix (j + 1) v' v) = nxt at gs
        have w2 : IntKind.i64.wrap (y + z) = y + z := wrap64 (by omega) (by omega)
        have hmod : (y + z).tmod p = (y + z) % p := Int.tmod_eq_emod_of_nonneg (by omega)
        have hpn : p ≠ 0 := by omega
        have gs2 : (ints cur).set j [i64 ((y + z) % p)] = ints nxt := by rw [← gs]; simp
        refine S 9 _ _ ?_
        simp
        refine ⟨by omega, fun z' hz' => ?_⟩
        obtain rfl : z = z' := Option.some.inj (g2.symm.trans hz')
        refine S 60 _ _ ?_
        simp
        refine J.dr3 hF mixed 11 [[], [], [], [], [2, 3], [2, 3, 4], [], [2, 3, 4, 5, 6], [], [8], [2, 3, 4, 5, 6, 7, 8, 9], [0, 1, 2, 3, 4, 5, 6, 7, 8, 9, 10], [0, 1, 2, 3, 4, 5, 6, 7, 8, 9, 10, 11]] [[52, 53, 54, 55, 56, 57, 58, 59, 60, 61, 62], [52, 53, 54, 55, 56, 57, 58, 59, 60, 61, 62], [52, 53, 54, 55, 56, 57, 58, 59, 60, 61, 62], [52, 53, 54, 55, 56, 57, 58, 59, 60, 61, 62], [52, 53, 56, 57, 58, 59, 60, 61, 62], [52, 53, 57, 58, 59, 60, 61, 62], [52, 53, 54, 55, 56, 57, 58, 59, 60, 61, 62], [52, 53, 59, 60, 61, 62], [52, 53, 54, 55, 56, 57, 58, 59, 60, 61, 62], [52, 53, 54, 55, 56, 57, 58, 59, 61, 62], [52, 53, 62]] [[], [], [], [], [], [], [], [], [], [], []] [[], [], [], [], [], [], [], [], [], [], []] [] [] (by decide) ?_
        rw [← List.take_append_drop 6 (List.take _ _)]
        generalize htl : List.drop 6 (List.take _ _) = tl
        simp
        refine ⟨by omega, fun y' hy => ?_⟩
        obtain rfl : y = y' := Option.some.inj (gw.symm.trans hy)
        subst htl
        simp [hpn, hmod, w2]
        refine S 60 _ _ ?_
        simp
        refine ⟨by omega, ?_⟩
        subst hnx
        exact Nxt.mk (j + 1) hltj (by simp [wrapS (i := j) (n := n) hltj (by omega), gs2]) (by omega)
      · obtain rfl : j = n := by omega
        have hme : tabL j (mix j v' v) = tabL j v' := mix_end (Nat.le_refl _) _ _
        refine S 60 _ _ ?_
        simp [ha16]
        exact Nxt.mk (a + 1) (by omega) (by simp [walkV, hme, hv', hg']) (by omega)
    · obtain rfl : a = p.toNat := by omega
      subst hob
      simp [EndsAt, walkO, walkV, hfull]

theorem capN_mono {p : Int} (hp : 2 ≤ p) {k m : Nat} (h : k ≤ m) : capN p k ≤ capN p m := by
  induction m with
  | zero => have : k = 0 := by omega
            rw [this]; exact Int.le_refl _
  | succ m ih =>
    by_cases e : k = m + 1
    · rw [e]; exact Int.le_refl _
    · have h1 := ih (by omega)
      have h2 := capN_range hp m
      have h3 : capN p m * 2 ≤ capN p m * p := Int.mul_le_mul_of_nonneg_left hp (by omega)
      have h4 : capN p (m + 1) = if 20001 < capN p m * p then 20001 else capN p m * p := rfl
      rw [h4]; split <;> omega

/-- The weights, if the code is small enough. -/
def wtsR (p : Int) (n : Nat) (rows : List (List Int)) : List Int × Bool := if capN p rows.length ≤ 20000 then (wtsL p n rows, true) else ([], false)

set_option maxHeartbeats 1600000 in
theorem weights_ok (p : Int) (n : Nat) (rows : List (List Int)) (hp : Pr p) (h1 : 1 ≤ n) (h2 : n ≤ 10) (hl : rows.length ≤ 10) (hr : ∀ r ∈ rows, RowOk p n r) :
    CallOK Go.Proofs.Try.prog 81 [vCode p n rows] (.tup [(false, [oInts (wtsR p n rows).1]), (false, [bo (wtsR p n rows).2])]) := by
  have hF := fnOk 31 [.tmp 2, .tmp 3]
  refine callOKn hF 60 Go.Proofs.Try.func81 rfl rfl rfl (by decide) (by simp) rfl ?_
  intro w0 hw hnone
  have S := @vc_sound w0 _ hF ⟨(.tup [(false, [oInts (wtsR p n rows).1]), (false, [bo (wtsR p n rows).2])]), []⟩ Go.Proofs.Try.f81 rfl (by simp)
  have hpp := prPos hp
  simp
  refine J.loop hw (fun k : Nat => ⟨[(1, .c (.ref 64001 0)), (4, .c (.d (i64 (capN p k)))), (9, .c (.d (vIntss rows))), (10, .c (.d (i64 rows.length))), (11, .c (.d (i64 k)))], [(64001, .var [.d (i64 p), .d (i64 n), .d (vIntss rows)])]⟩)
    (fun k => k ≤ rows.length ∧ capN p k ≤ 20000) (fun k => rows.length - k) 0 (by simp [capN]) (by simp [capN]) ?_
  rintro k ⟨hk, hk2⟩
  have hb := capN_range (p := p) hpp.1 k
  have hs : capN p (k + 1) = if 20001 < capN p k * p then 20001 else capN p k * p := rfl
  have m1 : 0 ≤ capN p k * p := Int.mul_nonneg (by omega) (by omega)
  have m2 : capN p k * p ≤ 20001 * 13 := Int.mul_le_mul (by omega) (by omega) (by omega) (by omega)
  have w1 : IntKind.i64.wrap (capN p k * p) = capN p k * p := wrap64 (by omega) (by omega)
  refine S 8 _ _ ?_
  simp
  refine ⟨fun hlt => ?_, fun hge => ?_⟩
  · have hmo := capN_mono hpp.1 (show k + 1 ≤ rows.length from hlt)
    generalize capN p k = c at hs w1 hk2 hb m1 m2
    refine S 60 _ _ ?_
    simp [w1]
    refine ⟨fun hbig => ?_, fun hsm => ?_⟩
    · have e : wtsR p n rows = ([], false) := by unfold wtsR; rw [if_neg (by split at hs <;> omega)]
      simp [e]
    · exact Nxt.mk (k + 1) ⟨hlt, by split at hs <;> omega⟩ (by simp [wrapS (i := k) (n := rows.length) hlt (by omega), hs, show ¬ 20001 < c * p by omega]) (by omega)
  · obtain rfl : k = rows.length := by omega
    have hM := capN_pow hpp.1 hk2
    have e : wtsR p n rows = (wtsL p n rows, true) := by unfold wtsR; rw [if_pos hk2]
    rw [e] at S ⊢
    dsimp only at S ⊢
    have hwn : IntKind.i64.wrap ((n : Int) + 1) = ((n + 1 : Nat) : Int) := by rw [wrap64] <;> omega
    refine S 20 _ _ ?_
    simp [hwn]
    refine ⟨⟨by omega, by omega, by omega⟩, ⟨by omega, by omega⟩, ?_⟩
    refine J.cut hw (t := ⟨[(1, .c (.ref 1 0)), (5, .c (.ref 3 0)), (6, .c (.ref 2 0)), (7, .c (.ref 4 0))],
      [(1, .var [.d (i64 p), .d (i64 n), .d (vIntss rows)]), (2, .var [.ob 64006]), (3, .var [.ob 64005]), (4, .var [.d (.v .nilFunc)]), (64006, .arr 2 1 (List.replicate n [i64 0])), (64005, .arr 2 1 (List.replicate (n + 1) [i64 0]))]⟩) (by simp) ?_
    refine J.name (F := ⟨Go.Proofs.Try.prog, tab, etab, 31, [.tmp 2, .tmp 3]⟩) (r := ⟨(.tup [(false, [oInts (wtsL p n rows)]), (false, [bo true])]), []⟩) (fn := Go.Proofs.Try.f81) (K := 1) (hnone 1) (by simp) (by simp) ?_
    intro c1
    refine J.name (F := ⟨Go.Proofs.Try.prog, tab, etab, 31, [.tmp 2, .tmp 3]⟩) (r := ⟨(.tup [(false, [oInts (wtsL p n rows)]), (false, [bo true])]), []⟩) (fn := Go.Proofs.Try.f81) (K := 2) (by simp [Base.named, hnone]) (by simp) (by simp) ?_
    intro c2
    refine J.name (F := ⟨Go.Proofs.Try.prog, tab, etab, 31, [.tmp 2, .tmp 3]⟩) (r := ⟨(.tup [(false, [oInts (wtsL p n rows)]), (false, [bo true])]), []⟩) (fn := Go.Proofs.Try.f81) (K := 3) (by simp [Base.named, hnone]) (by simp) (by simp) ?_
    intro c3
    refine J.name (F := ⟨Go.Proofs.Try.prog, tab, etab, 31, [.tmp 2, .tmp 3]⟩) (r := ⟨(.tup [(false, [oInts (wtsL p n rows)]), (false, [bo true])]), []⟩) (fn := Go.Proofs.Try.f81) (K := 4) (by simp [Base.named, hnone]) (by simp) (by simp) ?_
    intro c4
    have hw4 := ok64_named (ok64_named (ok64_named (ok64_named hw (K := 1) (by decide) c1) (K := 2) (by decide) c2) (K := 3) (by decide) c3) (K := 4) (by decide) c4
    have S4 := @vc_sound ((((w0.named 1 c1).named 2 c2).named 3 c3).named 4 c4) _ hF ⟨(.tup [(false, [oInts (wtsL p n rows)]), (false, [bo true])]), []⟩ Go.Proofs.Try.f81 rfl (by simp)
    have f1 : ((((w0.named 1 c1).named 2 c2).named 3 c3).named 4 c4).fix 1 = some c1 := by simp [Base.named]
    have f2 : ((((w0.named 1 c1).named 2 c2).named 3 c3).named 4 c4).fix 2 = some c2 := by simp [Base.named]
    have f3 : ((((w0.named 1 c1).named 2 c2).named 3 c3).named 4 c4).fix 3 = some c3 := by simp [Base.named]
    have f4 : ((((w0.named 1 c1).named 2 c2).named 3 c3).named 4 c4).fix 4 = some c4 := by simp [Base.named]
    generalize (((w0.named 1 c1).named 2 c2).named 3 c3).named 4 c4 = w4 at hw4 S4 f1 f2 f3 f4 ⊢
    have hwalk : ClosOK Go.Proofs.Try.prog w4 125 [.c (.d (i64 0)), .c (.ref 1 0), .c (.ref 2 0), .c (.ref 3 0), .c (.ref 4 0)] (walkO p n rows (walkV c1 c2 c3 c4) zeroF fun _ => 0) (walkO p n rows (walkV c1 c2 c3 c4) zeroF fun t => 0 + cI p n (rows.drop 0) zeroF t) :=
      walk_ok p n rows hp h1 h2 hl hr hw4 c1 c2 c3 c4 f1 f2 f3 f4 rows.length 0 zeroF (fun _ => 0) (by omega) (fun j => ⟨Int.le_refl _, show (0 : Int) < p by omega⟩) (fun t => by omega)
    have e1 : (tabL (n + 1) fun t => ((0 + cI p n (rows.drop 0) zeroF t : Nat) : Int)) = wtsL p n rows := tabL_ext fun t _ => by rw [Nat.zero_add, List.drop_zero]
    have e2 : ints (tabL n zeroF) = List.replicate n [i64 0] := ints_zero n
    have e3 : ints (tabL (n + 1) fun _ => ((0 : Nat) : Int)) = List.replicate (n + 1) [i64 0] := ints_zero (n + 1)
    unfold walkO at hwalk
    rw [e1, e2, e3] at hwalk
    refine S4 60 _ _ ?_
    simp
    refine OpW.mkFunc [1, 2, 3, 4] [c1, c2, c3, c4] rfl rfl (by decide) ⟨1, _, c1, _, rfl, rfl, by simp, f1, 2, _, c2, _, rfl, rfl, by simp, f2, 3, _, c3, _, rfl, rfl, by simp, f3, 4, _, c4, _, rfl, rfl, by simp, f4, rfl, rfl⟩ ?_
    refine S4 60 _ _ ?_
    simp
    refine OpW.clos hw4 (g := 125) (vs := [c1, c2, c3, c4]) (rs := [.c (.d (i64 0))]) [1, 2, 3, 4] [5] rfl rfl rfl (by decide) (by simp) (by simp [argsV]) (by simp [FV.stable]) (by simp [f1, f2, f3, f4]) (by simp [isVar]) hwalk (by simp [walkV]) (by simp [FV.stable]) ?_
    refine S4 60 _ _ ?_
    simp

end Go.Sm

namespace Go.Sm
open Go.RowKit

def wtsOf (p l : Int) (rows : List (List Int)) : List Int × Int := if GoodC p l rows then (if capN p rows.length ≤ 20000 then (wtsL p l.toNat rows, 0) else ([], 3)) else ([], 1)
abbrev wtsRes (r : List Int × Int) : RV := .tup [(false, [oInts r.1]), (false, [i64 r.2])]

theorem WeightsOf_ok (p l : Int) (rows : List (List Int)) (hl : rows.length ≤ 1048576) (hr : ∀ r ∈ rows, r.length ≤ 1048576) : CallOK Go.Proofs.Try.prog 35 [vCode p l rows] (wtsRes (wtsOf p l rows)) := by
  have hF := fnOk 17 [.tmp 2, .tmp 3]
  refine callOK hF 60 Go.Proofs.Try.func35 rfl rfl rfl (by decide) (by simp) rfl ?_
  intro w0 hw
  have S := @vc_sound w0 _ hF ⟨(wtsRes (wtsOf p l rows)), []⟩ Go.Proofs.Try.f35 rfl (by simp)
  have c1 := IsCode_ok p l rows hl hr
  by_cases hg : GoodC p l rows
  · rw [decide_eq_true hg] at c1
    have h10 := hg.1.1.2
    have hlen := hg.2.1
    have hrr := hg.1.rows
    obtain ⟨n, rfl⟩ : ∃ n : Nat, l = n := ⟨l.toNat, by omega⟩
    have c2 := weights_ok p n rows hg.1.1.1 (by omega) (by omega) (by omega) hrr
    by_cases hs : capN p rows.length ≤ 20000
    · have e : wtsOf p n rows = (wtsL p n rows, 0) := by unfold wtsOf; rw [if_pos hg, if_pos hs]; rfl
      rw [show wtsR p n rows = (wtsL p n rows, true) by unfold wtsR; rw [if_pos hs]] at c2
      rw [e] at S ⊢
      dsimp only at c2
      simp
      refine CallW.ok (by decide) (by simp) c1 (by simp) (S 60 _ _ ?_)
      simp
      refine CallW.ok (by decide) (by simp) c2 (by simp) (S 60 _ _ ?_)
      simp
    · have e : wtsOf p n rows = ([], 3) := by unfold wtsOf; rw [if_pos hg, if_neg hs]
      rw [show wtsR p n rows = ([], false) by unfold wtsR; rw [if_neg hs]] at c2
      rw [e] at S ⊢
      dsimp only at c2
      simp
      refine CallW.ok (by decide) (by simp) c1 (by simp) (S 60 _ _ ?_)
      simp
      refine CallW.ok (by decide) (by simp) c2 (by simp) (S 60 _ _ ?_)
      simp
  · rw [decide_eq_false hg] at c1
    have e : wtsOf p l rows = ([], 1) := by unfold wtsOf; rw [if_neg hg]
    rw [e] at S ⊢
    simp
    refine CallW.ok (by decide) (by simp) c1 (by simp) (S 60 _ _ ?_)
    simp

theorem specWeightsOf_ok (p l : Int) (rows : List (List Int)) (hl : rows.length ≤ 1048576) (hr : ∀ r ∈ rows, r.length ≤ 1048576) : CallOK Go.Proofs.Try.prog 34 [vCode p l rows] (wtsRes (wtsOf p l rows)) := by
  have hF := fnOk 14 [.tmp 2, .tmp 3]
  refine callOK hF 60 Go.Proofs.Try.func34 rfl rfl rfl (by decide) (by simp) rfl ?_
  intro w0 hw
  have S := @vc_sound w0 _ hF ⟨(wtsRes (wtsOf p l rows)), []⟩ Go.Proofs.Try.f34 rfl (by simp)
  have c1 := l10Is_ok p l rows hl hr
  by_cases hg : GoodC p l rows
  · rw [decide_eq_true hg] at c1
    have h10 := hg.1.1.2
    have hlen := hg.2.1
    have hrr := hg.1.rows
    have c2 := l10Count_ok p l rows hg.1.1.1 (by omega)
    obtain ⟨n, rfl⟩ : ∃ n : Nat, l = n := ⟨l.toNat, by omega⟩
    by_cases hs : capN p rows.length ≤ 20000
    · have c3 := l10Weights_ok p n rows hg.1.1.1 (by omega) (by omega) (by omega) hrr hs
      have e : wtsOf p n rows = (wtsL p n rows, 0) := by unfold wtsOf; rw [if_pos hg, if_pos hs]; rfl
      rw [e] at S ⊢
      have hs2 : ¬ 20000 < capN p rows.length := by omega
      simp
      refine CallW.ok (by decide) (by simp) c1 (by simp) (S 60 _ _ ?_)
      simp
      refine CallW.ok (by decide) (by simp) c2 (by simp) (S 60 _ _ ?_)
      simp [hs2]
      refine CallW.ok (by decide) (by simp) c3 (by simp) (S 60 _ _ ?_)
      simp
    · have e : wtsOf p n rows = ([], 3) := by unfold wtsOf; rw [if_pos hg, if_neg hs]
      rw [e] at S ⊢
      have hs2 : 20000 < capN p rows.length := by omega
      simp
      refine CallW.ok (by decide) (by simp) c1 (by simp) (S 60 _ _ ?_)
      simp
      refine CallW.ok (by decide) (by simp) c2 (by simp) (S 60 _ _ ?_)
      simp [hs2]
  · rw [decide_eq_false hg] at c1
    have e : wtsOf p l rows = ([], 1) := by unfold wtsOf; rw [if_neg hg]
    rw [e] at S ⊢
    simp
    refine CallW.ok (by decide) (by simp) c1 (by simp) (S 60 _ _ ?_)
    simp

theorem wtsOf_small (p l : Int) (rows : List (List Int)) : ∃ E er, wtsOf p l rows = (E, er) ∧ E.length ≤ 100 := by
  unfold wtsOf
  split
  · rename_i h
    have h10 := h.1.1.2
    split
    · exact ⟨_, _, rfl, by unfold wtsL; rw [tabL_length]; omega⟩
    · exact ⟨_, _, rfl, by simp⟩
  · exact ⟨_, _, rfl, by simp⟩

/-! ### the distance -/

theorem cI_self {p : Int} (hp : 0 < p) (n : Nat) : ∀ (rs : List (List Int)) (w : Nat → Int), Red0 p w → 1 ≤ cI p n rs w (wtN n w)
  | [], w, _ => by simp [cI, isW]
  | r :: rs, w, hw => by
    simp only [cI]
    have h1 := cI_self hp n rs w hw
    have h2 : cI p n rs (addF p 0 r w) (wtN n w) ≤ sumR p.toNat fun a => cI p n rs (addF p a r w) (wtN n w) := sumR_ge (fun a => cI p n rs (addF p a r w) (wtN n w)) (show 0 < p.toNat by omega)
    rw [addF_zero hw] at h2
    omega
theorem wtN_pos {w : Nat → Int} {j : Nat} (hj : w j ≠ 0) : ∀ n, j < n → 1 ≤ wtN n w
  | 0, h => by omega
  | n + 1, h => by
    simp only [wtN]
    by_cases e : j = n
    · subst e; rw [if_neg hj]; omega
    · have := wtN_pos hj n (by omega); omega
/-- A code that has a row has a word of some weight that is not 0. -/
theorem wts_some {p : Int} {n : Nat} (hp : Pr p) {r : List Int} {rs : List (List Int)} (hr : RowOk p n r) (hl : Led r) : ∃ t, 1 ≤ t ∧ t ≤ n ∧ gt (wtsL p n (r :: rs)) t ≠ 0 := by
  have hpp := prPos hp
  have h0 : Red0 p zeroF := fun j => ⟨Int.le_refl _, show (0 : Int) < p by omega⟩
  have hr1 := addF_red (show 0 < p by omega) 1 r zeroF
  have h1 := cI_self (show 0 < p by omega) n rs _ hr1
  have h2 : cI p n rs (addF p 1 r zeroF) (wtN n (addF p 1 r zeroF)) ≤ sumR p.toNat fun a => cI p n rs (addF p a r zeroF) (wtN n (addF p 1 r zeroF)) := sumR_ge (fun a => cI p n rs (addF p a r zeroF) (wtN n (addF p 1 r zeroF))) (show 1 < p.toNat by omega)
  obtain ⟨j, hj⟩ := led_iff.1 hl
  have hlt : j < n := Nat.lt_of_not_le fun h => hj (gt_ge (by rw [hr.1]; exact h))
  have hne : addF p 1 r zeroF j ≠ 0 := by
    have hg := gt_range (by omega) hr j
    show (0 + ((1 : Nat) : Int) * gt r j) % p ≠ 0
    rw [show (0 : Int) + ((1 : Nat) : Int) * gt r j = gt r j by simp, Int.emod_eq_of_lt hg.1 hg.2]
    exact hj
  refine ⟨_, wtN_pos hne n hlt, wtN_le _ _, ?_⟩
  have h5 := wtN_le (addF p 1 r zeroF) n
  generalize wtN n (addF p 1 r zeroF) = t at h1 h2 h5
  rw [gt_lt (by unfold wtsL; rw [tabL_length]; omega)]
  simp only [wtsL, tabL, List.getElem_map, List.getElem_range]
  have : 1 ≤ cI p n (r :: rs) zeroF t := by simp only [cI]; omega
  omega

/-- The first place from k on that is not 0. -/
def firstN (xs : List Int) : Nat → Nat → Nat
  | 0, k => k
  | f + 1, k => if gt xs k = 0 then firstN xs f (k + 1) else k
theorem firstN_spec (xs : List Int) {t : Nat} (ht : gt xs t ≠ 0) : ∀ (f k : Nat), k ≤ t → t < k + f → k ≤ firstN xs f k ∧ firstN xs f k ≤ t ∧ gt xs (firstN xs f k) ≠ 0 ∧ ∀ j, k ≤ j → j < firstN xs f k → gt xs j = 0
  | 0, k, h1, h2 => by omega
  | f + 1, k, h1, h2 => by
    simp only [firstN]
    split
    · rename_i h0
      have hne : k ≠ t := fun e => ht (e ▸ h0)
      obtain ⟨q1, q2, q3, q4⟩ := firstN_spec xs ht f (k + 1) (by omega) (by omega)
      refine ⟨by omega, q2, q3, fun j hj1 hj2 => ?_⟩
      by_cases e : j = k
      · rw [e]; exact h0
      · exact q4 j (by omega) hj2
    · rename_i h0
      exact ⟨Nat.le_refl _, h1, h0, fun j hj1 hj2 => by omega⟩
def distOf (p l : Int) (rows : List (List Int)) : Int × Int := if GoodC p l rows then (if rows = [] then (0, 5) else if capN p rows.length ≤ 20000 then (firstN (wtsL p l.toNat rows) l.toNat 1, 0) else (0, 3)) else (0, 1)
abbrev distRes (r : Int × Int) : RV := .tup [(false, [i64 r.1]), (false, [i64 r.2])]

theorem firstN_len {l : Int} {n : Nat} (h : l = n) : l.toNat = n := by omega

theorem DistanceOf_ok (p l : Int) (rows : List (List Int)) (hl : rows.length ≤ 1048576) (hr : ∀ r ∈ rows, r.length ≤ 1048576) : CallOK Go.Proofs.Try.prog 33 [vCode p l rows] (distRes (distOf p l rows)) := by
  have hF := fnOk 31 [.tmp 2, .tmp 3]
  refine callOK hF 60 Go.Proofs.Try.func33 rfl rfl rfl (by decide) (by simp) rfl ?_
  intro w0 hw
  have S := @vc_sound w0 _ hF ⟨(distRes (distOf p l rows)), []⟩ Go.Proofs.Try.f33 rfl (by simp)
  have c1 := IsCode_ok p l rows hl hr
  by_cases hg : GoodC p l rows
  · rw [decide_eq_true hg] at c1
    have hpp := prPos hg.1.1.1
    have h10 := hg.1.1.2
    have hlen := hg.2.1
    have hrr := hg.1.rows
    have hws := good_rws hg
    obtain ⟨n, rfl⟩ : ∃ n : Nat, l = n := ⟨l.toNat, by omega⟩
    rw [Int.toNat_natCast] at hws
    by_cases h0 : rows = []
    · subst h0
      have e : distOf p n [] = (0, 5) := by unfold distOf; rw [if_pos hg, if_pos rfl]
      rw [e] at S ⊢
      simp
      refine CallW.ok (by decide) (by simp) c1 (by simp) (S 60 _ _ ?_)
      simp
    · have c2 := weights_ok p n rows hg.1.1.1 (by omega) (by omega) (by omega) hrr
      have h0l : ¬ ((rows.length : Int) = 0) := by have := List.length_pos_iff.2 h0; omega
      by_cases hs : capN p rows.length ≤ 20000
      · have e : distOf p n rows = (((firstN (wtsL p n rows) n 1 : Nat) : Int), 0) := by unfold distOf; rw [if_pos hg, if_neg h0, if_pos hs]; rfl
        obtain ⟨t, t1, t2, t3⟩ : ∃ t, 1 ≤ t ∧ t ≤ n ∧ gt (wtsL p n rows) t ≠ 0 := by
          cases rows with
          | nil => exact absurd rfl h0
          | cons r rs => exact wts_some hg.1.1.1 (hws r (List.mem_cons_self ..)).1 (hws r (List.mem_cons_self ..)).2
        obtain ⟨q1, q2, q3, q4⟩ := firstN_spec (wtsL p n rows) t3 n 1 t1 (by omega)
        have hwl : (wtsL p n rows).length = n + 1 := tabL_length _ _
        have hpos : ∀ k, 0 ≤ gt (wtsL p n rows) k := fun k => by
          by_cases hk : k < n + 1
          · rw [gt_lt (by omega)]; simp only [wtsL, tabL, List.getElem_map, List.getElem_range]; omega
          · rw [gt_ge (by omega)]; omega
        rw [show wtsR p n rows = (wtsL p n rows, true) by unfold wtsR; rw [if_pos hs]] at c2
        rw [e] at S ⊢
        generalize firstN (wtsL p n rows) n 1 = D at q1 q2 q3 q4 S ⊢
        generalize wtsL p n rows = W at c2 q3 q4 hwl hpos
        dsimp only at c2
        simp
        refine CallW.ok (by decide) (by simp) c1 (by simp) (S 60 _ _ ?_)
        simp [h0]
        refine CallW.ok (by decide) (by simp) c2 (by simp) (S 60 _ _ ?_)
        simp
        refine J.loop hw (fun k : Nat => ⟨[(4, .c (.ob 64004)), (6, .c (.d (i64 k)))], [(64004, .arr 2 1 (ints W))]⟩)
          (fun k => 1 ≤ k ∧ k ≤ D) (fun k => D - k) 1 ⟨by omega, q1⟩ (by simp) ?_
        rintro k ⟨hk1, hk2⟩
        have gk := gt_get (r := W) (i := k) (by omega)
        have hpk := hpos k
        have hq4 := q4 k hk1
        have hk' : k = D → gt W k ≠ 0 := fun e => e ▸ q3
        generalize gt W k = x at gk hpk hq4 hk'
        refine S 60 _ _ ?_
        simp
        refine ⟨by omega, fun x' hx' => ?_⟩
        obtain rfl : x = x' := Option.some.inj (gk.symm.trans hx')
        refine ⟨fun hx0 => ?_, fun hx0 => ?_⟩
        · have : ¬ k < D := fun h => by have := hq4 h; omega
          obtain rfl : k = D := by omega
          simp
        · have hne : k ≠ D := fun e => hk' e (by omega)
          have hwk : IntKind.i64.wrap ((k : Int) + 1) = ((k + 1 : Nat) : Int) := by rw [wrap64] <;> omega
          exact Nxt.mk (k + 1) ⟨by omega, by omega⟩ (by simp [hwk]) (by omega)
      · have e : distOf p n rows = (0, 3) := by unfold distOf; rw [if_pos hg, if_neg h0, if_neg hs]
        rw [show wtsR p n rows = ([], false) by unfold wtsR; rw [if_neg hs]] at c2
        rw [e] at S ⊢
        dsimp only at c2
        simp
        refine CallW.ok (by decide) (by simp) c1 (by simp) (S 60 _ _ ?_)
        simp [h0]
        refine CallW.ok (by decide) (by simp) c2 (by simp) (S 60 _ _ ?_)
        simp
  · rw [decide_eq_false hg] at c1
    have e : distOf p l rows = (0, 1) := by unfold distOf; rw [if_neg hg]
    rw [e] at S ⊢
    simp
    refine CallW.ok (by decide) (by simp) c1 (by simp) (S 60 _ _ ?_)
    simp

theorem specDistanceOf_ok (p l : Int) (rows : List (List Int)) (hl : rows.length ≤ 1048576) (hr : ∀ r ∈ rows, r.length ≤ 1048576) : CallOK Go.Proofs.Try.prog 32 [vCode p l rows] (distRes (distOf p l rows)) := by
  have hF := fnOk 29 [.tmp 2, .tmp 3]
  refine callOK hF 60 Go.Proofs.Try.func32 rfl rfl rfl (by decide) (by simp) rfl ?_
  intro w0 hw
  have S := @vc_sound w0 _ hF ⟨(distRes (distOf p l rows)), []⟩ Go.Proofs.Try.f32 rfl (by simp)
  have c1 := l10Is_ok p l rows hl hr
  by_cases hg : GoodC p l rows
  · rw [decide_eq_true hg] at c1
    have hpp := prPos hg.1.1.1
    have h10 := hg.1.1.2
    have hlen := hg.2.1
    have hrr := hg.1.rows
    have hws := good_rws hg
    have c2 := l10Count_ok p l rows hg.1.1.1 (by omega)
    obtain ⟨n, rfl⟩ : ∃ n : Nat, l = n := ⟨l.toNat, by omega⟩
    rw [Int.toNat_natCast] at hws
    by_cases h0 : rows = []
    · subst h0
      have e : distOf p n [] = (0, 5) := by unfold distOf; rw [if_pos hg, if_pos rfl]
      rw [e] at S ⊢
      simp
      refine CallW.ok (by decide) (by simp) c1 (by simp) (S 60 _ _ ?_)
      simp
    · have h0l : ¬ ((rows.length : Int) = 0) := by have := List.length_pos_iff.2 h0; omega
      by_cases hs : capN p rows.length ≤ 20000
      · have c3 := l10Weights_ok p n rows hg.1.1.1 (by omega) (by omega) (by omega) hrr hs
        have e : distOf p n rows = (((firstN (wtsL p n rows) n 1 : Nat) : Int), 0) := by unfold distOf; rw [if_pos hg, if_neg h0, if_pos hs]; rfl
        obtain ⟨t, t1, t2, t3⟩ : ∃ t, 1 ≤ t ∧ t ≤ n ∧ gt (wtsL p n rows) t ≠ 0 := by
          cases rows with
          | nil => exact absurd rfl h0
          | cons r rs => exact wts_some hg.1.1.1 (hws r (List.mem_cons_self ..)).1 (hws r (List.mem_cons_self ..)).2
        obtain ⟨q1, q2, q3, q4⟩ := firstN_spec (wtsL p n rows) t3 n 1 t1 (by omega)
        have hwl : (wtsL p n rows).length = n + 1 := tabL_length _ _
        have hs2 : ¬ 20000 < capN p rows.length := by omega
        rw [e] at S ⊢
        generalize firstN (wtsL p n rows) n 1 = D at q1 q2 q3 q4 S ⊢
        generalize wtsL p n rows = W at c3 q3 q4 hwl
        simp
        refine CallW.ok (by decide) (by simp) c1 (by simp) (S 60 _ _ ?_)
        simp [h0]
        refine CallW.ok (by decide) (by simp) c2 (by simp) (S 60 _ _ ?_)
        simp [hs2]
        refine CallW.ok (by decide) (by simp) c3 (by simp) (S 60 _ _ ?_)
        simp
        refine J.loop hw (fun k : Nat => ⟨[(4, .c (.ob 64004)), (5, .c (.d (i64 k)))], [(64004, .arr 2 1 (ints W))]⟩)
          (fun k => 1 ≤ k ∧ k ≤ D) (fun k => D - k) 1 ⟨by omega, q1⟩ (by simp) ?_
        rintro k ⟨hk1, hk2⟩
        have gk := gt_get (r := W) (i := k) (by omega)
        have hq4 := q4 k hk1
        have hk' : k = D → gt W k ≠ 0 := fun e => e ▸ q3
        generalize gt W k = x at gk hq4 hk'
        refine S 60 _ _ ?_
        simp
        refine ⟨by omega, fun x' hx' => ?_⟩
        obtain rfl : x = x' := Option.some.inj (gk.symm.trans hx')
        refine ⟨fun hx0 => ?_, fun hx0 => ?_⟩
        · have hne : k ≠ D := fun e => hk' e hx0
          have hwk : IntKind.i64.wrap ((k : Int) + 1) = ((k + 1 : Nat) : Int) := by rw [wrap64] <;> omega
          exact Nxt.mk (k + 1) ⟨by omega, by omega⟩ (by simp [hwk]) (by omega)
        · have : ¬ k < D := fun h => hx0 (hq4 h)
          obtain rfl : k = D := by omega
          simp
      · have e : distOf p n rows = (0, 3) := by unfold distOf; rw [if_pos hg, if_neg h0, if_neg hs]
        have hs2 : 20000 < capN p rows.length := by omega
        rw [e] at S ⊢
        simp
        refine CallW.ok (by decide) (by simp) c1 (by simp) (S 60 _ _ ?_)
        simp [h0]
        refine CallW.ok (by decide) (by simp) c2 (by simp) (S 60 _ _ ?_)
        simp [hs2]
  · rw [decide_eq_false hg] at c1
    have e : distOf p l rows = (0, 1) := by unfold distOf; rw [if_neg hg]
    rw [e] at S ⊢
    simp
    refine CallW.ok (by decide) (by simp) c1 (by simp) (S 60 _ _ ?_)
    simp

end Go.Sm
