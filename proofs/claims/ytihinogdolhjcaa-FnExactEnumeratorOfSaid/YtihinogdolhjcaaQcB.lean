/- Complete polynomials. -/
import Derived.Test.YtihinogdolhjcaaQcA
import Derived.Test.YtihinogdolhjcaaQcT
import Derived.Test.YtihinogdolhjcaaSpA
namespace Go.Sm
open Go.RowKit

theorem Pr.pos {p : Int} (h : Pr p) : 2 ≤ p ∧ p ≤ 13 := by unfold Pr at h; omega

/-- A polynomial and a code, as results. -/
abbrev pres (p d : Int) (ts : List Tm) (c : Int) : RV := .tup [(true, [i64 p, i64 d, oTerms ts]), (false, [i64 c])]

def sumOf (es : List Ex) : List (Ex × Int) := es.foldl (fun l e => sput l e 1) []
def putAll (p : Int) (es : List Ex) : List Tm := es.foldl (fun ts e => putT p ts e 1) []
theorem sumOf_snoc (es : List Ex) (e : Ex) : sumOf (es ++ [e]) = sput (sumOf es) e 1 := by simp [sumOf]
theorem putAll_snoc (p : Int) (es : List Ex) (e : Ex) : putAll p (es ++ [e]) = putT p (putAll p es) e 1 := by simp [putAll]
theorem snoc_ind {P : List Ex → Prop} (h0 : P []) (h1 : ∀ es e, P es → P (es ++ [e])) : ∀ es, P es := by
  intro es
  have : ∀ (n : Nat) (es : List Ex), es.length = n → P es := by
    intro n
    induction n with
    | zero => intro es h; rw [List.length_eq_zero_iff.1 h]; exact h0
    | succ n ih =>
      intro es h
      have hne : es ≠ [] := fun e => by rw [e] at h; simp at h
      rw [← List.dropLast_concat_getLast hne]
      exact h1 _ _ (ih _ (by simp [h]))
  exact this _ es rfl
theorem sumOf_ok (es : List Ex) : ((sumOf es).map (·.1)).Nodup ∧ (sumOf es).length ≤ es.length ∧ ∀ e, sget (sumOf es) e = if e ∈ es then 1 else 0 := by
  refine snoc_ind (P := fun es => ((sumOf es).map (·.1)).Nodup ∧ (sumOf es).length ≤ es.length ∧ ∀ e, sget (sumOf es) e = if e ∈ es then 1 else 0) ?_ ?_ es
  · exact ⟨by simp [sumOf], by simp [sumOf], fun e => by simp [sumOf, sget]⟩
  · intro es e ⟨h1, h2, h3⟩
    rw [sumOf_snoc]
    have := sput_length (sumOf es) e 1
    refine ⟨sput_nodup h1 e 1, by rw [List.length_append]; simp; omega, fun e' => ?_⟩
    rw [sget_sput, h3]
    by_cases h : e' = e <;> simp [h]
theorem putAll_ok {p : Int} (hp : 2 ≤ p) (es : List Ex) (hn : es.Nodup) : Can p (putAll p es) ∧ (putAll p es).length ≤ es.length ∧ ∀ e, coef (putAll p es) e = if e ∈ es then 1 else 0 := by
  revert hn
  refine snoc_ind (P := fun es => es.Nodup → Can p (putAll p es) ∧ (putAll p es).length ≤ es.length ∧ ∀ e, coef (putAll p es) e = if e ∈ es then 1 else 0) ?_ ?_ es
  · intro _; exact ⟨can_nil p, by simp [putAll], fun e => by simp [putAll, coef]⟩
  · intro es e ih hn
    rw [List.nodup_append] at hn
    obtain ⟨h1, h2, h3⟩ := ih hn.1
    have he : e ∉ es := fun h => hn.2.2 e h e (by simp) rfl
    rw [putAll_snoc]
    obtain ⟨q1, q2⟩ := putT_can (show 0 < p by omega) h1 e 1
    have := putT_length p (putAll p es) e 1
    refine ⟨q1, by rw [List.length_append]; simp; omega, fun e' => ?_⟩
    rw [q2, h3 e, h3 e']
    by_cases h : e' = e
    · simp only [h, he, if_true, if_false, Int.add_zero, List.mem_append, List.mem_singleton, or_true]
      exact Int.emod_eq_of_lt (by omega) (by omega)
    · simp [h]
theorem putAll_eq {p : Int} (hp : 2 ≤ p) (es : List Ex) (hn : es.Nodup) : ofSum p (sumOf es) = putAll p es := by
  obtain ⟨h1, h2, h3⟩ := putAll_ok hp es hn
  obtain ⟨g1, g2, g3⟩ := sumOf_ok es
  obtain ⟨k1, k2⟩ := ofSum_can (p := p) (by omega) g1
  refine can_ext k1 h1 fun e => ?_
  rw [k2, h3, g3]
  split
  · exact Int.emod_eq_of_lt (by omega) (by omega)
  · simp

theorem downTo_mem {f : Nat → List Ex} {e : Ex} : ∀ {k : Nat}, e ∈ downTo f k → ∃ i < k, e ∈ f i
  | 0, h => by simp [downTo] at h
  | k + 1, h => by
    rw [downTo, List.mem_append] at h
    rcases h with h | h
    · exact ⟨k, by omega, h⟩
    · obtain ⟨i, hi, he⟩ := downTo_mem h
      exact ⟨i, by omega, he⟩
theorem downTo_nodup {f : Nat → List Ex} : ∀ {k : Nat}, (∀ i < k, (f i).Nodup) → (∀ i j, i < k → j < k → i ≠ j → ∀ e ∈ f i, e ∉ f j) → (downTo f k).Nodup
  | 0, _, _ => by simp [downTo]
  | k + 1, h1, h2 => by
    rw [downTo, List.nodup_append]
    refine ⟨h1 k (by omega), downTo_nodup (fun i hi => h1 i (by omega)) (fun i j hi hj => h2 i j (by omega) (by omega)), fun a ha b hb => ?_⟩
    rintro rfl
    obtain ⟨i, hi, hb⟩ := downTo_mem hb
    exact h2 k i (by omega) (by omega) (by omega) a ha hb
theorem monRow_mem {d : Int} {n a b : Nat} {e : Ex} (h : e ∈ monRow d n a b) : e = mkE a b (n - a - b) := by
  unfold monRow at h
  split at h
  · simpa using h
  · cases h
theorem mkE_inj {a b c a' b' c' : Nat} (ha : a < 256) (hb : b < 256) (ha' : a' < 256) (hb' : b' < 256) (h : mkE a b c = mkE a' b' c') : a = a' ∧ b = b' := by
  unfold mkE at h
  simp only [Ex.mk.injEq] at h
  refine ⟨?_, ?_⟩
  · rw [← by8_nat ha, ← by8_nat ha', h.1]
  · rw [← by8_nat hb, ← by8_nat hb', h.2.1]
theorem mons_nodup (d : Int) (n : Nat) (hn : n ≤ 12) : (mons d n).Nodup := by
  unfold mons
  refine downTo_nodup (fun a ha => downTo_nodup (fun b hb => ?_) fun b b' hb hb' hne e he he' => ?_) fun a a' ha ha' hne e he he' => ?_
  · unfold monRow; split <;> simp
  · have h1 := monRow_mem he
    have h2 := monRow_mem he'
    rw [h1] at h2
    exact hne (mkE_inj (by omega) (by omega) (by omega) (by omega) h2).2
  · obtain ⟨b, hb, he⟩ := downTo_mem he
    obtain ⟨b', hb', he'⟩ := downTo_mem he'
    have h1 := monRow_mem he
    have h2 := monRow_mem he'
    rw [h1] at h2
    exact hne (mkE_inj (by omega) (by omega) (by omega) (by omega) h2).1

theorem l08Shape_ok (p d : Int) : CallOK Go.Proofs.Try.prog 75 [.one (i64 p), .one (i64 d)] (.one (bo (decide (Pr p ∧ 1 ≤ d ∧ d ≤ 3)))) := by
  have hF := fnOk 11 [.tmp 4]
  refine callOK hF 60 Go.Proofs.Try.func75 rfl rfl rfl (by decide) (by simp) rfl ?_
  intro w0 hw
  have S := @vc_sound w0 _ hF ⟨(.one (bo (decide (Pr p ∧ 1 ≤ d ∧ d ≤ 3)))), []⟩ Go.Proofs.Try.f75 rfl (by simp)
  have c1 := l01Prime_ok p
  have c2 := l01In_ok d 1 3
  by_cases hp : Pr p
  · rw [decide_eq_true hp] at c1
    have e : decide (Pr p ∧ 1 ≤ d ∧ d ≤ 3) = decide (1 ≤ d ∧ d ≤ 3) := by simp [hp]
    rw [e] at S ⊢
    generalize decide (1 ≤ d ∧ d ≤ 3) = b at S c2 ⊢
    simp
    refine CallW.ok (by decide) (by simp) c1 (by simp) (S 60 _ _ ?_)
    simp
    refine CallW.ok (by decide) (by simp) c2 (by simp) (S 60 _ _ ?_)
    simp
  · rw [decide_eq_false hp] at c1
    have e : decide (Pr p ∧ 1 ≤ d ∧ d ≤ 3) = false := by simp [hp]
    rw [e] at S ⊢
    simp
    refine CallW.ok (by decide) (by simp) c1 (by simp) (S 60 _ _ ?_)
    simp

def completeR (p d k : Int) : RV := if Pr p ∧ (1 ≤ d ∧ d ≤ 3) ∧ 0 ≤ k ∧ k ≤ 12 then pres p d (ofSum p (sumOf (mons d k.toNat))) 0 else pres 0 0 [] 2

set_option maxRecDepth 4000 in
theorem CompletePoly_ok (p d k : Int) : CallOK Go.Proofs.Try.prog 28 [.one (i64 p), .one (i64 d), .one (i64 k)] (completeR p d k) := by
  have hF := fnOk 41 [.cell 6 39, .tmp 7]
  refine callOK hF 60 Go.Proofs.Try.func28 rfl rfl rfl (by decide) (by simp) rfl ?_
  intro w0 hw
  have S := @vc_sound w0 _ hF ⟨(completeR p d k), []⟩ Go.Proofs.Try.f28 rfl (by simp)
  have c1 := isPrime_ok p
  have c2 := isVars_ok d
  have c3 := isDegree_ok k
  by_cases hp : Pr p
  · by_cases hd : 1 ≤ d ∧ d ≤ 3
    · by_cases hk : 0 ≤ k ∧ k ≤ 12
      · have e : completeR p d k = pres p d (ofSum p (sumOf (mons d k.toNat))) 0 := by unfold completeR; rw [if_pos ⟨hp, hd, hk⟩]
        rw [e] at S ⊢
        rw [decide_eq_true hp] at c1
        rw [decide_eq_true hd] at c2
        rw [decide_eq_true hk] at c3
        obtain ⟨n, rfl⟩ : ∃ n : Nat, k = n := ⟨k.toNat, by omega⟩
        have hpp := hp.pos
        have c4 := monomials_ok d n hd (by omega)
        have hml := mons_len d n (by omega)
        simp only [Int.toNat_natCast] at S ⊢
        generalize hes : mons d n = es at *
        simp
        refine CallW.ok (by decide) (by simp) c1 (by simp) (S 60 _ _ ?_)
        simp
        refine CallW.ok (by decide) (by simp) c2 (by simp) (S 60 _ _ ?_)
        simp
        refine CallW.ok (by decide) (by simp) c3 (by simp) (S 60 _ _ ?_)
        simp
        refine CallW.ok (by decide) (by simp) c4 (by simp) (S 60 _ _ ?_)
        simp
        refine J.loop hw (fun i : Nat => ⟨[(0, .c (.d (i64 p))), (1, .c (.d (i64 d))), (6, .c (.ref 64006 0)), (8, .c (.ob 64008)), (28, .c (.ob 64028)), (29, .c (.d (i64 es.length))), (30, .c (.d (i64 i)))],
            [(64006, .var [.d (i64 0), .d (i64 0), .ob 64007]), (64007, .arr 108 4 []), (64008, .mp (sumM (sumOf (es.take i)))), (64028, .arr 88 3 (exs es))]⟩)
          (fun i => i ≤ es.length) (fun i => es.length - i) 0 (by simp) (by simp [sumOf]) ?_
        intro i hi
        refine S 60 _ _ ?_
        simp
        refine ⟨fun hlt => ?_, fun hge => ?_⟩
        · refine ⟨hlt, fun a ha => ?_⟩
          have htk : sumOf (es.take (i + 1)) = sput (sumOf (es.take i)) a 1 := by rw [List.take_add_one, ha]; exact sumOf_snoc _ _
          exact Nxt.mk (i + 1) (by omega) (by simp [wrapS (i := i) (n := es.length) hlt (by omega), mpPut_sum, htk]) (by omega)
        · have hi' : es.take i = es := List.take_of_length_le hge
          rw [hi']
          obtain ⟨g1, g2, _⟩ := sumOf_ok es
          refine CallW.ok (by decide) (by simp) (poly_ok p d (sumOf es) (by omega) g1 (by omega) (by omega)) (by simp) (S 60 _ _ ?_)
          simp
      · have e : completeR p d k = pres 0 0 [] 2 := by unfold completeR; rw [if_neg (fun h => hk h.2.2)]
        rw [e] at S ⊢
        rw [decide_eq_true hp] at c1
        rw [decide_eq_true hd] at c2
        rw [decide_eq_false hk] at c3
        simp
        refine CallW.ok (by decide) (by simp) c1 (by simp) (S 60 _ _ ?_)
        simp
        refine CallW.ok (by decide) (by simp) c2 (by simp) (S 60 _ _ ?_)
        simp
        refine CallW.ok (by decide) (by simp) c3 (by simp) (S 60 _ _ ?_)
        simp
    · have e : completeR p d k = pres 0 0 [] 2 := by unfold completeR; rw [if_neg (fun h => hd h.2.1)]
      rw [e] at S ⊢
      rw [decide_eq_true hp] at c1
      rw [decide_eq_false hd] at c2
      simp
      refine CallW.ok (by decide) (by simp) c1 (by simp) (S 60 _ _ ?_)
      simp
      refine CallW.ok (by decide) (by simp) c2 (by simp) (S 60 _ _ ?_)
      simp
  · have e : completeR p d k = pres 0 0 [] 2 := by unfold completeR; rw [if_neg (fun h => hp h.1)]
    rw [e] at S ⊢
    rw [decide_eq_false hp] at c1
    simp
    refine CallW.ok (by decide) (by simp) c1 (by simp) (S 60 _ _ ?_)
    simp

set_option maxRecDepth 4000 in
theorem specCompletePoly_ok (p d k : Int) : CallOK Go.Proofs.Try.prog 27 [.one (i64 p), .one (i64 d), .one (i64 k)] (completeR p d k) := by
  have hF := fnOk 40 [.cell 6 39, .tmp 7]
  refine callOK hF 60 Go.Proofs.Try.func27 rfl rfl rfl (by decide) (by simp) rfl ?_
  intro w0 hw
  have S := @vc_sound w0 _ hF ⟨(completeR p d k), []⟩ Go.Proofs.Try.f27 rfl (by simp)
  have c1 := l08Shape_ok p d
  have c2 := l01In_ok k 0 12
  by_cases hp : Pr p ∧ 1 ≤ d ∧ d ≤ 3
  · by_cases hk : 0 ≤ k ∧ k ≤ 12
    · obtain ⟨n, rfl⟩ : ∃ n : Nat, k = n := ⟨k.toNat, by omega⟩
      have hpp := hp.1.pos
      have hml := mons_len d n (by omega)
      have hnd := mons_nodup d n (by omega)
      have c4 := l01Monomials_ok d n hp.2 (by omega)
      have c5 := l01Empty_ok p d
      have e : completeR p d n = pres p d (putAll p (mons d n)) 0 := by
        unfold completeR; rw [if_pos ⟨hp.1, hp.2, hk⟩, Int.toNat_natCast, putAll_eq hpp.1 _ hnd]
      rw [e] at S ⊢
      rw [decide_eq_true hp] at c1
      rw [decide_eq_true hk] at c2
      generalize hes : mons d n = es at *
      simp
      refine CallW.ok (by decide) (by simp) c1 (by simp) (S 60 _ _ ?_)
      simp
      refine CallW.ok (by decide) (by simp) c2 (by simp) (S 60 _ _ ?_)
      simp
      refine CallW.ok (by decide) (by simp) c4 (by simp) (S 60 _ _ ?_)
      simp
      refine CallW.ok (by decide) (by simp) c5 (by simp) (S 60 _ _ ?_)
      simp
      refine J.loop hw (fun i : Nat => ⟨[(6, .c (.ref 64006 0)), (8, .c (.ob 64028)), (9, .c (.ref 64009 0)), (10, .c (.d (i64 i)))],
          [(64006, .var [.d (i64 0), .d (i64 0), .ob 64007]), (64007, .arr 108 4 []), (64009, .var [.d (i64 p), .d (i64 d), .ob 64010]), (64010, .arr 108 4 (terms (putAll p (es.take i)))), (64028, .arr 88 3 (exs es))]⟩)
        (fun i => i ≤ es.length) (fun i => es.length - i) 0 (by simp) (by simp [putAll]) ?_
      intro i hi
      have hndt : (es.take i).Nodup := hnd.sublist (List.take_sublist _ _)
      obtain ⟨q1, q2, q3⟩ := putAll_ok hpp.1 (es.take i) hndt
      have hlen : (putAll p (es.take i)).length ≤ 169 := by rw [List.length_take] at q2; omega
      refine S 60 _ _ ?_
      simp
      refine ⟨fun hlt => ?_, fun hge => ?_⟩
      · have hb := fun e => coef_bound (show 0 < p by omega) q1 e
        refine J.dr hF mixed 5 [[], [], [], [1, 2], [1, 2, 3], [0, 1, 2, 3, 4], [0, 1, 2, 3, 4, 5]] [[33, 34, 35, 36, 37], [33, 34, 35, 36, 37], [33, 34, 35, 36, 37], [33, 36, 37], [33, 37]] (by decide) ?_
        simp
        refine ⟨hlt, fun a ha => ?_⟩
        have htk : putAll p (es.take (i+1)) = putT p (putAll p (es.take i)) a 1 := by
          rw [List.take_add_one, ha]; exact putAll_snoc _ _ _
        have hb' := hb a
        have c6 := l01Put_ok p d (putAll p (es.take i)) a 1 (by omega) (by omega) (by omega) (by omega) (by omega)
        refine S 60 _ _ ?_
        simp
        refine CallW.ok (by decide) (by simp) c6 (by simp) (S 60 _ _ ?_)
        simp
        exact Nxt.mk (i+1) (by omega) (by simp [wrapS (i:=i) (n:=es.length) hlt (by omega), htk]) (by omega)
      · have hi' : es.take i = es := List.take_of_length_le hge
        rw [hi']
    · have e : completeR p d k = pres 0 0 [] 2 := by unfold completeR; rw [if_neg (fun h => hk h.2.2)]
      rw [e] at S ⊢
      rw [decide_eq_true hp] at c1
      rw [decide_eq_false hk] at c2
      simp
      refine CallW.ok (by decide) (by simp) c1 (by simp) (S 60 _ _ ?_)
      simp
      refine CallW.ok (by decide) (by simp) c2 (by simp) (S 60 _ _ ?_)
      simp
  · have e : completeR p d k = pres 0 0 [] 2 := by unfold completeR; rw [if_neg (fun h => hp ⟨h.1, h.2.1⟩)]
    rw [e] at S ⊢
    rw [decide_eq_false hp] at c1
    simp
    refine CallW.ok (by decide) (by simp) c1 (by simp) (S 60 _ _ ?_)
    simp

/-- (Poly, error) of bounded length. -/
def PresS (R : RV) : Prop := ∃ p d ts e, R = pres p d ts e ∧ ts.length ≤ 2000000

theorem completeR_small (p d k : Int) : PresS (completeR p d k) := by
  unfold completeR
  split
  · rename_i h
    refine ⟨_, _, _, _, rfl, ?_⟩
    have hk : k.toNat ≤ 12 := by omega
    have h1 := (putAll_ok h.1.pos.1 (mons d k.toNat) (mons_nodup d _ hk)).2.1
    rw [putAll_eq h.1.pos.1 _ (mons_nodup d _ hk)]
    have := mons_len d _ hk
    omega
  · exact ⟨_, _, _, _, rfl, by simp⟩

end Go.Sm
