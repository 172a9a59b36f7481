/- Towards the rows of this seat: what the functions do, as contracts over plain data. -/
import Derived.Test.YtemedeiolhgoeaaPkQrCountOrbitsBK12
import Derived.Test.YtemedeiolhgoeaaPkQrCountOrbitsBK5
namespace Go.Sm
open Go.RowKit

noncomputable instance (p d : Int) (G : List Mx) : Decidable (IsG p d G) := Classical.propDecidable _
def AllM (p d : Int) (G : List Mx) : Prop := (Pr p ∧ 1 ≤ d ∧ d ≤ 3) ∧ ∀ g ∈ G, MxP p d g
instance (p d : Int) (G : List Mx) : Decidable (AllM p d G) := by unfold AllM; infer_instance

set_option maxHeartbeats 1000000 in
theorem areMatrices_ok (p d : Int) (G : List Mx) (hl : G.length ≤ 1048576) : CallOK Go.Proofs.Try.prog 44 [.one (i64 p), .one (i64 d), .one (vMats G)] (.one (bo (decide (AllM p d G)))) := by
  have hF := fnOk 27 [.tmp 6]
  refine callOK hF 60 Go.Proofs.Try.func44 rfl rfl rfl (by decide) (by simp) rfl ?_
  intro w0 hw
  have S := @vc_sound w0 _ hF ⟨(.one (bo (decide (AllM p d G)))), []⟩ Go.Proofs.Try.f44 rfl (by simp)
  generalize hb : decide (AllM p d G) = b at S ⊢
  have hbad : ∀ x ∈ G, ¬ MxP p d x → b = false := fun x hx hn => by rw [← hb]; simp only [decide_eq_false_iff_not]; exact fun h => hn (h.2 x hx)
  simp
  refine J.loop hw (fun i : Nat => ⟨[(0, .c (.d (i64 p))), (1, .c (.d (i64 d))), (9, .c (.d (vMats G))), (10, .c (.d (i64 G.length))), (11, .c (.d (i64 i)))], []⟩)
    (fun i => i ≤ G.length ∧ ∀ x ∈ G.take i, MxP p d x) (fun i => G.length - i) 0 (by simp) (by simp) ?_
  rintro i ⟨hi, hall⟩
  refine S 8 _ _ ?_
  simp
  refine ⟨fun hlt => ?_, fun hge => ?_⟩
  · obtain ⟨x, hx⟩ : ∃ x, G[i]? = some x := ⟨G[i], List.getElem?_eq_getElem hlt⟩
    have hm := List.mem_of_getElem? hx
    have c1 := IsMatrix_ok p d x
    have hbx := hbad x hm
    refine S 60 _ _ ?_
    simp
    refine ⟨hlt, fun x' hx' => ?_⟩
    obtain rfl : x = x' := Option.some.inj (hx.symm.trans hx')
    by_cases hg : MxP p d x
    · rw [decide_eq_true hg] at c1
      refine CallW.ok (by decide) (by simp) c1 (by simp) (S 60 _ _ ?_)
      simp
      refine Nxt.mk (i + 1) ⟨hlt, fun q hq => ?_⟩ (by simp [wrapS (i := i) (n := G.length) hlt (by omega)]) (by omega)
      rw [List.take_add_one, hx] at hq
      simp only [Option.toList, List.mem_append, List.mem_singleton] at hq
      rcases hq with h | rfl
      · exact hall q h
      · exact hg
    · rw [decide_eq_false hg] at c1
      refine CallW.ok (by decide) (by simp) c1 (by simp) (S 60 _ _ ?_)
      simp
      exact hbx hg
  · rw [List.take_of_length_le (by omega)] at hall
    have c1 := isPrime_ok p
    have c2 := isVars_ok d
    have e : decide (Pr p ∧ 1 ≤ d ∧ d ≤ 3) = b := by rw [← hb]; exact decide_eq_decide.2 ⟨fun h => ⟨h, hall⟩, fun h => h.1⟩
    subst e
    by_cases hp : Pr p
    · rw [decide_eq_true hp] at c1
      have e2 : decide (Pr p ∧ 1 ≤ d ∧ d ≤ 3) = decide (1 ≤ d ∧ d ≤ 3) := decide_eq_decide.2 ⟨fun h => h.2, fun h => ⟨hp, h⟩⟩
      rw [e2] at S ⊢
      generalize decide (1 ≤ d ∧ d ≤ 3) = b2 at c2 S ⊢
      refine S 60 _ _ ?_
      simp
      refine CallW.ok (by decide) (by simp) c1 (by simp) (S 60 _ _ ?_)
      simp
      refine CallW.ok (by decide) (by simp) c2 (by simp) (S 60 _ _ ?_)
      simp
    · rw [decide_eq_false hp] at c1
      have e2 : decide (Pr p ∧ 1 ≤ d ∧ d ≤ 3) = false := decide_eq_false fun h => hp h.1
      rw [e2] at S ⊢
      refine S 60 _ _ ?_
      simp
      refine CallW.ok (by decide) (by simp) c1 (by simp) (S 60 _ _ ?_)
      simp

set_option pp.deepTerms true in
set_option pp.maxSteps 100000 in
set_option maxHeartbeats 1000000 in
theorem IsGroup_ok (p d : Int) (G : List Mx) (hl : G.length ≤ 1048576) : CallOK Go.Proofs.Try.prog 25 [vGroup p d G] (.one (bo (decide (IsG p d G)))) := by
  have hF := fnOk 72 [.tmp 2]
  refine callOK hF 60 Go.Proofs.Try.func25 rfl rfl rfl (by decide) (by simp) rfl ?_
  intro w0 hw
  have S := @vc_sound w0 _ hF ⟨(.one (bo (decide (IsG p d G)))), []⟩ Go.Proofs.Try.f25 rfl (by simp)
  have c1 := areMatrices_ok p d G hl
  by_cases hlen : 1 ≤ G.length ∧ G.length ≤ 48
  · have n1 : ¬ (G.length : Int) < 1 := by omega
    have n2 : ¬ (48 : Int) < G.length := by omega
    by_cases hall : AllM p d G
    · rw [decide_eq_true hall] at c1
      generalize hb : decide (IsG p d G) = b at S ⊢
      have hpd := hall.1
      have hbA : ∀ i x y, 1 ≤ i → G[i - 1]? = some x → G[i]? = some y → ¬ cmpM x y < 0 → b = false := fun i x y h1 hx hy hn => by
        rw [← hb]; exact decide_eq_false fun h => hn (h.2.2.2.1 i (List.getElem?_eq_some_iff.1 hy).1 x y h1 hx hy)
      have hbC : ∀ x ∈ G, ∀ y ∈ G, ¬ timesM p d.toNat x y ∈ G → b = false := fun x hx y hy hn => by
        rw [← hb]; exact decide_eq_false fun h => hn (h.2.2.2.2.1 x hx y hy)
      simp [n1, n2]
      refine CallW.ok (by decide) (by simp) c1 (by simp) (S 60 _ _ ?_)
      simp
      refine J.loop hw (fun i : Nat => ⟨[(1, .c (.ref 64001 0)), (28, .c (.d (vMats G))), (29, .c (.d (i64 G.length))), (30, .c (.d (i64 i)))], [(64001, .var [.d (i64 p), .d (i64 d), .d (vMats G)])]⟩)
        (fun i => i ≤ G.length ∧ (∀ k, k < i → ∀ x y, 1 ≤ k → G[k - 1]? = some x → G[k]? = some y → cmpM x y < 0) ∧ ∀ x ∈ G.take i, ∀ y ∈ G, timesM p d.toNat x y ∈ G) (fun i => G.length - i) 0 ⟨by omega, fun k hk => by omega, fun x hx => by simp at hx⟩ (by simp) ?_
      rintro i ⟨hi, hA, hC⟩
      refine S 8 _ _ ?_
      simp
      refine ⟨fun hlt => ?_, fun hge => ?_⟩
      · obtain ⟨x, hx⟩ : ∃ x, G[i]? = some x := ⟨G[i], List.getElem?_eq_getElem hlt⟩
        have hxm := List.mem_of_getElem? hx
        refine S 60 _ _ ?_
        simp
        refine ⟨hlt, fun x' hx' => ?_⟩
        obtain rfl : x = x' := Option.some.inj (hx.symm.trans hx')
        clear hx'
        refine S 60 _ _ ?_
        simp
        by_cases h0 : 1 ≤ i
        · have hpos : (0 : Int) < i := by omega
          have wi : IntKind.i64.wrap ((i : Int) - 1) = ((i - 1 : Nat) : Int) := by rw [wrap64] <;> omega
          obtain ⟨y, hy⟩ : ∃ y, G[i - 1]? = some y := ⟨G[i - 1], List.getElem?_eq_getElem (by omega)⟩
          have c2 := compareMatrices_ok y x
          have hAi : ∀ a c, 1 ≤ i → G[i - 1]? = some a → G[i]? = some c → cmpM y x < 0 → cmpM a c < 0 := fun a c _ ha hc h => by
            obtain rfl : y = a := Option.some.inj (hy.symm.trans ha)
            obtain rfl : x = c := Option.some.inj (hx.symm.trans hc)
            exact h
          have hbAi := hbA i y x h0 hy hx
          generalize cmpM y x = z at c2 hAi hbAi
          refine J.dr hF mixed 10 [[], [0], [0, 1], [0, 1, 2], [0, 1, 2, 3], [0, 1, 2], [0, 1, 2, 5], [0, 1, 2, 3, 4, 5, 6], [0, 1, 2, 3, 4, 5, 6, 7], [0, 1, 2], [0, 1, 2, 3, 4, 5, 6, 7, 8, 9], [0, 1, 2, 3, 4, 5, 6, 7, 8, 9, 10], [0, 1, 2, 3, 4, 5, 6, 7, 8, 9, 10, 11]] [[35, 36, 37, 38, 39, 40, 41, 42, 43, 44], [36, 37, 38, 39, 40, 41, 42, 43, 44], [37, 38, 39, 40, 41, 42, 43, 44], [38, 39, 40, 41, 42, 43, 44], [39, 40, 41, 42, 43, 44], [38, 39, 40, 41, 42, 43, 44], [38, 39, 41, 42, 43, 44], [42, 43, 44], [43, 44], [38, 39, 40, 41, 42, 43, 44]] (by decide) ?_
          simp [show 0 < i from h0, wi]
          refine ⟨by omega, fun y' hy' => ?_⟩
          obtain rfl : y = y' := Option.some.inj (hy.symm.trans hy')
          clear hy'
          refine S 60 _ _ ?_
          simp
          refine CallW.ok (by decide) (by simp) c2 (by simp) (S 60 _ _ ?_)
          simp
          refine ⟨fun hz => hbAi (by omega), fun hz => ?_⟩
          have hAi := fun a c h1 ha hc => hAi a c h1 ha hc hz
          refine J.loop hw (fun j : Nat => ⟨[(1, .c (.ref 64001 0)), (28, .c (.d (vMats G))), (29, .c (.d (i64 G.length))), (30, .c (.d (i64 i))), (4, .c (.ref 64004 0)), (49, .c (.d (vMats G))), (50, .c (.d (i64 G.length))), (51, .c (.d (i64 j)))], [(64001, .var [.d (i64 p), .d (i64 d), .d (vMats G)]), (64004, .var [.d (u8 x.a), .d (u8 x.b), .d (u8 x.c), .d (u8 x.d), .d (u8 x.e), .d (u8 x.f), .d (u8 x.g), .d (u8 x.h), .d (u8 x.i)])]⟩)
            (fun j => j ≤ G.length ∧ ∀ y ∈ G.take j, timesM p d.toNat x y ∈ G) (fun j => G.length - j) 0 ⟨by omega, fun y hy => by simp at hy⟩ (by simp) ?_
          rintro j ⟨hj, hB⟩
          refine S 8 _ _ ?_
          simp
          refine ⟨fun hltj => ?_, fun hgej => ?_⟩
          · obtain ⟨y, hy⟩ : ∃ y, G[j]? = some y := ⟨G[j], List.getElem?_eq_getElem hltj⟩
            have hym := List.mem_of_getElem? hy
            have c3 := times_ok p d x y hpd.1 hpd.2
            have c4 := has_ok p d G (timesM p d.toNat x y) hl
            refine S 60 _ _ ?_
            simp
            refine ⟨hltj, fun y' hy' => ?_⟩
            obtain rfl : y = y' := Option.some.inj (hy.symm.trans hy')
            clear hy'
            refine S 60 _ _ ?_
            simp
            refine J.dr hF mixed 8 [[], [], [1], [], [3], [], [], [1, 2, 3, 4, 5, 6], [0, 1, 2, 3, 4, 5, 6, 7], [0, 1, 2, 3, 4, 5, 6, 7, 8]] [[55, 56, 57, 58, 59, 60, 61, 62], [55, 56, 57, 58, 59, 60, 61, 62], [55, 57, 58, 59, 60, 61, 62], [55, 56, 57, 58, 59, 60, 61, 62], [55, 56, 57, 59, 60, 61, 62], [55, 56, 57, 58, 59, 60, 61, 62], [55, 56, 57, 58, 59, 60, 61, 62], [55, 62]] (by decide) ?_
            simp
            refine DrC.ok hF (by rfl) (by simp) c3 (by simp) (by simp) ?_
            simp
            refine S 60 _ _ ?_
            simp
            by_cases hm : timesM p d.toNat x y ∈ G
            · rw [decide_eq_true hm] at c4
              refine CallW.ok (by decide) (by simp) c4 (by simp) (S 60 _ _ ?_)
              simp
              refine Nxt.mk (j + 1) ⟨hltj, fun q hq => ?_⟩ (by simp [wrapS (i := j) (n := G.length) hltj (by omega)]) (by omega)
              rw [List.take_add_one, hy] at hq
              simp only [Option.toList, List.mem_append, List.mem_singleton] at hq
              rcases hq with h | rfl
              · exact hB q h
              · exact hm
            · rw [decide_eq_false hm] at c4
              refine CallW.ok (by decide) (by simp) c4 (by simp) (S 60 _ _ ?_)
              simp
              exact hbC x hxm y hym hm
          · rw [List.take_of_length_le (by omega)] at hB
            refine S 60 _ _ ?_
            simp
            refine Nxt.mk (i + 1) ⟨hlt, fun k hk a c h1 ha hc => ?_, fun a ha => ?_⟩ (by simp [wrapS (i := i) (n := G.length) hlt (by omega)]) (by omega)
            · by_cases hk2 : k = i
              · subst hk2; exact hAi a c h1 ha hc
              · exact hA k (by omega) a c h1 ha hc
            · rw [List.take_add_one, hx] at ha
              simp only [Option.toList, List.mem_append, List.mem_singleton] at ha
              rcases ha with h | rfl
              · exact hC a h
              · exact hB
        · have hpos : ¬ (0 : Int) < i := by omega
          have hAi : ∀ a c, 1 ≤ i → G[i - 1]? = some a → G[i]? = some c → cmpM a c < 0 := fun a c h1 => absurd h1 h0
          refine J.dr hF mixed 10 [[], [0], [0, 1], [0, 1, 2], [0, 1, 2, 3], [0, 1, 2], [0, 1, 2, 5], [0, 1, 2, 3, 4, 5, 6], [0, 1, 2, 3, 4, 5, 6, 7], [0, 1, 2], [0, 1, 2, 3, 4, 5, 6, 7, 8, 9], [0, 1, 2, 3, 4, 5, 6, 7, 8, 9, 10], [0, 1, 2, 3, 4, 5, 6, 7, 8, 9, 10, 11]] [[35, 36, 37, 38, 39, 40, 41, 42, 43, 44], [36, 37, 38, 39, 40, 41, 42, 43, 44], [37, 38, 39, 40, 41, 42, 43, 44], [38, 39, 40, 41, 42, 43, 44], [39, 40, 41, 42, 43, 44], [38, 39, 40, 41, 42, 43, 44], [38, 39, 41, 42, 43, 44], [42, 43, 44], [43, 44], [38, 39, 40, 41, 42, 43, 44]] (by decide) ?_
          simp [show ¬ 0 < i from h0]
          refine S 60 _ _ ?_
          simp
          refine J.loop hw (fun j : Nat => ⟨[(1, .c (.ref 64001 0)), (28, .c (.d (vMats G))), (29, .c (.d (i64 G.length))), (30, .c (.d (i64 i))), (4, .c (.ref 64004 0)), (49, .c (.d (vMats G))), (50, .c (.d (i64 G.length))), (51, .c (.d (i64 j)))], [(64001, .var [.d (i64 p), .d (i64 d), .d (vMats G)]), (64004, .var [.d (u8 x.a), .d (u8 x.b), .d (u8 x.c), .d (u8 x.d), .d (u8 x.e), .d (u8 x.f), .d (u8 x.g), .d (u8 x.h), .d (u8 x.i)])]⟩)
            (fun j => j ≤ G.length ∧ ∀ y ∈ G.take j, timesM p d.toNat x y ∈ G) (fun j => G.length - j) 0 ⟨by omega, fun y hy => by simp at hy⟩ (by simp) ?_
          rintro j ⟨hj, hB⟩
          refine S 8 _ _ ?_
          simp
          refine ⟨fun hltj => ?_, fun hgej => ?_⟩
          · obtain ⟨y, hy⟩ : ∃ y, G[j]? = some y := ⟨G[j], List.getElem?_eq_getElem hltj⟩
            have hym := List.mem_of_getElem? hy
            have c3 := times_ok p d x y hpd.1 hpd.2
            have c4 := has_ok p d G (timesM p d.toNat x y) hl
            refine S 60 _ _ ?_
            simp
            refine ⟨hltj, fun y' hy' => ?_⟩
            obtain rfl : y = y' := Option.some.inj (hy.symm.trans hy')
            clear hy'
            refine S 60 _ _ ?_
            simp
            refine J.dr hF mixed 8 [[], [], [1], [], [3], [], [], [1, 2, 3, 4, 5, 6], [0, 1, 2, 3, 4, 5, 6, 7], [0, 1, 2, 3, 4, 5, 6, 7, 8]] [[55, 56, 57, 58, 59, 60, 61, 62], [55, 56, 57, 58, 59, 60, 61, 62], [55, 57, 58, 59, 60, 61, 62], [55, 56, 57, 58, 59, 60, 61, 62], [55, 56, 57, 59, 60, 61, 62], [55, 56, 57, 58, 59, 60, 61, 62], [55, 56, 57, 58, 59, 60, 61, 62], [55, 62]] (by decide) ?_
            simp
            refine DrC.ok hF (by rfl) (by simp) c3 (by simp) (by simp) ?_
            simp
            refine S 60 _ _ ?_
            simp
            by_cases hm : timesM p d.toNat x y ∈ G
            · rw [decide_eq_true hm] at c4
              refine CallW.ok (by decide) (by simp) c4 (by simp) (S 60 _ _ ?_)
              simp
              refine Nxt.mk (j + 1) ⟨hltj, fun q hq => ?_⟩ (by simp [wrapS (i := j) (n := G.length) hltj (by omega)]) (by omega)
              rw [List.take_add_one, hy] at hq
              simp only [Option.toList, List.mem_append, List.mem_singleton] at hq
              rcases hq with h | rfl
              · exact hB q h
              · exact hm
            · rw [decide_eq_false hm] at c4
              refine CallW.ok (by decide) (by simp) c4 (by simp) (S 60 _ _ ?_)
              simp
              exact hbC x hxm y hym hm
          · rw [List.take_of_length_le (by omega)] at hB
            refine S 60 _ _ ?_
            simp
            refine Nxt.mk (i + 1) ⟨hlt, fun k hk a c h1 ha hc => ?_, fun a ha => ?_⟩ (by simp [wrapS (i := i) (n := G.length) hlt (by omega)]) (by omega)
            · by_cases hk2 : k = i
              · subst hk2; exact hAi a c h1 ha hc
              · exact hA k (by omega) a c h1 ha hc
            · rw [List.take_add_one, hx] at ha
              simp only [Option.toList, List.mem_append, List.mem_singleton] at ha
              rcases ha with h | rfl
              · exact hC a h
              · exact hB
      · rw [List.take_of_length_le (by omega)] at hC
        have c5 := unit_ok d hpd.2
        have c6 := has_ok p d G (unitM d.toNat) hl
        have e : decide (unitM d.toNat ∈ G) = b := by
          rw [← hb]
          exact decide_eq_decide.2 ⟨fun h => ⟨hpd, hlen, fun g hg => (hall.2 g hg).2, fun k hk a c h1 ha hc => hA k (by omega) a c h1 ha hc, hC, h⟩, fun h => h.2.2.2.2.2⟩
        rw [e] at c6
        refine S 60 _ _ ?_
        simp
        refine J.dr hF mixed 4 [[], [], [1], [1, 2], [0, 1, 2, 3], [0, 1, 2, 3, 4]] [[67, 68, 69, 70], [67, 68, 69, 70], [67, 69, 70], [67, 70]] (by decide) ?_
        simp
        refine DrC.ok hF (by rfl) (by simp) c5 (by simp) (by simp) ?_
        simp
        refine S 60 _ _ ?_
        simp
        refine CallW.ok (by decide) (by simp) c6 (by simp) (S 60 _ _ ?_)
        simp
    · rw [decide_eq_false hall] at c1
      have e : decide (IsG p d G) = false := decide_eq_false fun h => hall ⟨h.1, fun g hg => ⟨h.1, h.2.2.1 g hg⟩⟩
      rw [e] at S ⊢
      simp [n1, n2]
      refine CallW.ok (by decide) (by simp) c1 (by simp) (S 60 _ _ ?_)
      simp
  · have e : decide (IsG p d G) = false := decide_eq_false fun h => hlen h.2.1
    rw [e] at S ⊢
    by_cases h1 : (G.length : Int) < 1
    · simp [h1]
    · have h2 : (48 : Int) < G.length := by omega
      simp [h1, h2]
end Go.Sm

namespace Go.Sm
open Go.RowKit

set_option maxHeartbeats 2000000 in
theorem l02Is_ok (p d : Int) (G : List Mx) (hl : G.length ≤ 1048576) : CallOK Go.Proofs.Try.prog 15 [vGroup p d G] (.one (bo (decide (IsG p d G)))) := by
  have hF := fnOk 105 [.tmp 2]
  refine callOK hF 60 Go.Proofs.Try.func15 rfl rfl rfl (by decide) (by simp) rfl ?_
  intro w0 hw
  have S := @vc_sound w0 _ hF ⟨(.one (bo (decide (IsG p d G)))), []⟩ Go.Proofs.Try.f15 rfl (by simp)
  have c1 := l01Prime_ok p
  have c2 := l01In_ok d 1 3
  by_cases hp : Pr p
  case neg =>
    have e : decide (IsG p d G) = false := decide_eq_false fun h => hp h.1.1
    rw [e] at S ⊢
    rw [decide_eq_false hp] at c1
    simp
    refine CallW.ok (by decide) (by simp) c1 (by simp) (S 60 _ _ ?_)
    simp
  rw [decide_eq_true hp] at c1
  by_cases hd : 1 ≤ d ∧ d ≤ 3
  case neg =>
    have e : decide (IsG p d G) = false := decide_eq_false fun h => hd h.1.2
    rw [e] at S ⊢
    rw [decide_eq_false hd] at c2
    simp
    refine CallW.ok (by decide) (by simp) c1 (by simp) (S 60 _ _ ?_)
    simp
    refine CallW.ok (by decide) (by simp) c2 (by simp) (S 60 _ _ ?_)
    simp
  rw [decide_eq_true hd] at c2
  by_cases hlen : 1 ≤ G.length ∧ G.length ≤ 48
  case neg =>
    have e : decide (IsG p d G) = false := decide_eq_false fun h => hlen h.2.1
    rw [e] at S ⊢
    by_cases h1 : (G.length : Int) < 1
    · simp
      refine CallW.ok (by decide) (by simp) c1 (by simp) (S 60 _ _ ?_)
      simp
      refine CallW.ok (by decide) (by simp) c2 (by simp) (S 60 _ _ ?_)
      simp [h1]
    · have h2 : (48 : Int) < G.length := by omega
      simp
      refine CallW.ok (by decide) (by simp) c1 (by simp) (S 60 _ _ ?_)
      simp
      refine CallW.ok (by decide) (by simp) c2 (by simp) (S 60 _ _ ?_)
      simp [h1, h2]
  have n1 : ¬ (G.length : Int) < 1 := by omega
  have n2 : ¬ (48 : Int) < G.length := by omega
  generalize hb : decide (IsG p d G) = b at S ⊢
  have hbM : ∀ x ∈ G, ¬ MxP p d x → b = false := fun x hx hn => by
    rw [← hb]; exact decide_eq_false fun h => hn ⟨h.1, h.2.2.1 x hx⟩
  have hbA : ∀ i x y, 1 ≤ i → G[i - 1]? = some x → G[i]? = some y → ¬ cmpM x y < 0 → b = false := fun i x y h1 hx hy hn => by
    rw [← hb]; exact decide_eq_false fun h => hn (h.2.2.2.1 i (List.getElem?_eq_some_iff.1 hy).1 x y h1 hx hy)
  have hbC : ∀ x ∈ G, ∀ y ∈ G, ¬ timesM p d.toNat x y ∈ G → b = false := fun x hx y hy hn => by
    rw [← hb]; exact decide_eq_false fun h => hn (h.2.2.2.2.1 x hx y hy)
  simp
  refine CallW.ok (by decide) (by simp) c1 (by simp) (S 60 _ _ ?_)
  simp
  refine CallW.ok (by decide) (by simp) c2 (by simp) (S 60 _ _ ?_)
  simp [n1, n2]
  refine J.loop hw (fun i : Nat => ⟨[(1, .c (.ref 64001 0)), (3, .c (.d (i64 i)))], [(64001, .var [.d (i64 p), .d (i64 d), .d (vMats G)])]⟩)
    (fun i => i ≤ G.length ∧ (∀ x ∈ G.take i, MxP p d x) ∧ ∀ k, k < i → ∀ x y, 1 ≤ k → G[k - 1]? = some x → G[k]? = some y → cmpM x y < 0) (fun i => G.length - i) 0 ⟨by omega, fun x hx => by simp at hx, fun k hk => by omega⟩ (by simp) ?_
  rintro i ⟨hi, hM, hA⟩
  refine S 12 _ _ ?_
  simp
  refine ⟨fun hlt => ?_, fun hge => ?_⟩
  · obtain ⟨x, hx⟩ : ∃ x, G[i]? = some x := ⟨G[i], List.getElem?_eq_getElem hlt⟩
    have hxm := List.mem_of_getElem? hx
    have c3 := l02Matrix_ok p d x
    have hnext : MxP p d x → ∀ y ∈ G.take (i + 1), MxP p d y := fun hm y hy => by
      rw [List.take_add_one, hx] at hy
      simp only [Option.toList, List.mem_append, List.mem_singleton] at hy
      rcases hy with h | rfl
      · exact hM y h
      · exact hm
    refine S 60 _ _ ?_
    simp
    by_cases h0 : 1 ≤ i
    · have hpos : (0 : Int) < i := by omega
      have wi : IntKind.i64.wrap ((i : Int) - 1) = ((i - 1 : Nat) : Int) := by rw [wrap64] <;> omega
      obtain ⟨y, hy⟩ : ∃ y, G[i - 1]? = some y := ⟨G[i - 1], List.getElem?_eq_getElem (by omega)⟩
      have c4 := l02Before_ok y x
      refine J.dr hF mixed 26 [[], [0], [], [2], [], [4], [], [4, 5, 6], [4, 5, 6, 7], [0, 1, 2, 3, 4, 5, 6, 7, 8], [0, 1, 2, 3, 4, 5, 6, 7, 8, 9], [0, 1, 2, 3, 4, 5, 6, 7, 8, 9, 10], [0, 1, 2, 3, 4, 5, 6, 7, 8, 9, 10, 11], [0, 1, 2, 3, 4, 5, 6, 7, 8, 9, 10, 11, 12], [0, 1, 2, 3, 4, 5, 6, 7, 8, 9, 10, 11, 12, 13], [0, 1, 2, 3, 4, 5, 6, 7, 8, 9, 10, 11, 12, 13, 14], [0, 1, 2, 3, 4, 5, 6, 7, 8, 9, 10, 11, 12, 13, 14, 15], [0, 1, 2, 3, 4, 5, 6, 7, 8, 9, 10, 11, 12, 13, 14], [0, 1, 2, 3, 4, 5, 6, 7, 8, 9, 10, 11, 12, 13, 14, 17], [0, 1, 2, 3, 4, 5, 6, 7, 8, 9, 10, 11, 12, 13, 14, 15, 16, 17, 18], [0, 1, 2, 3, 4, 5, 6, 7, 8, 9, 10, 11, 12, 13, 14, 15, 16, 17, 18, 19], [0, 1, 2, 3, 4, 5, 6, 7, 8, 9, 10, 11, 12, 13, 14], [0, 1, 2, 3, 4, 5, 6, 7, 8, 9, 10, 11, 12, 13, 14, 21], [0, 1, 2, 3, 4, 5, 6, 7, 8, 9, 10, 11, 12, 13, 14], [0, 1, 2, 3, 4, 5, 6, 7, 8, 9, 10, 11, 12, 13, 14, 21, 22, 23], [0, 1, 2, 3, 4, 5, 6, 7, 8, 9, 10, 11, 12, 13, 14, 21, 22, 23, 24], [0, 1, 2, 3, 4, 5, 6, 7, 8, 9, 10, 11, 12, 13, 14, 15, 16, 17, 18, 19, 20, 21, 22, 23, 24, 25], [0, 1, 2, 3, 4, 5, 6, 7, 8, 9, 10, 11, 12, 13, 14, 15, 16, 17, 18, 19, 20, 21, 22, 23, 24, 25, 26], [0, 1, 2, 3, 4, 5, 6, 7, 8, 9, 10, 11, 12, 13, 14, 15, 16, 17, 18, 19, 20, 21, 22, 23, 24, 25, 26, 27], [0, 1, 2, 3, 4, 5, 6, 7, 8, 9, 10, 11, 12, 13, 14, 15, 16, 17, 18, 19, 20, 21, 22, 23, 24, 25, 26, 27, 28]] [[35, 36, 37, 38, 39, 40, 41, 42, 43, 44, 45, 46, 47, 48, 49, 50, 51, 52, 53, 54, 55, 56, 57, 58, 59, 60], [36, 37, 38, 39, 40, 41, 42, 43, 44, 45, 46, 47, 48, 49, 50, 51, 52, 53, 54, 55, 56, 57, 58, 59, 60], [35, 36, 37, 38, 39, 40, 41, 42, 43, 44, 45, 46, 47, 48, 49, 50, 51, 52, 53, 54, 55, 56, 57, 58, 59, 60], [35, 36, 38, 39, 40, 41, 42, 43, 44, 45, 46, 47, 48, 49, 50, 51, 52, 53, 54, 55, 56, 57, 58, 59, 60], [35, 36, 37, 38, 39, 40, 41, 42, 43, 44, 45, 46, 47, 48, 49, 50, 51, 52, 53, 54, 55, 56, 57, 58, 59, 60], [35, 36, 37, 38, 40, 41, 42, 43, 44, 45, 46, 47, 48, 49, 50, 51, 52, 53, 54, 55, 56, 57, 58, 59, 60], [35, 36, 37, 38, 39, 40, 41, 42, 43, 44, 45, 46, 47, 48, 49, 50, 51, 52, 53, 54, 55, 56, 57, 58, 59, 60], [35, 36, 37, 38, 42, 43, 44, 45, 46, 47, 48, 49, 50, 51, 52, 53, 54, 55, 56, 57, 58, 59, 60], [35, 36, 37, 38, 43, 44, 45, 46, 47, 48, 49, 50, 51, 52, 53, 54, 55, 56, 57, 58, 59, 60], [44, 45, 46, 47, 48, 49, 50, 51, 52, 53, 54, 55, 56, 57, 58, 59, 60], [45, 46, 47, 48, 49, 50, 51, 52, 53, 54, 55, 56, 57, 58, 59, 60], [46, 47, 48, 49, 50, 51, 52, 53, 54, 55, 56, 57, 58, 59, 60], [47, 48, 49, 50, 51, 52, 53, 54, 55, 56, 57, 58, 59, 60], [48, 49, 50, 51, 52, 53, 54, 55, 56, 57, 58, 59, 60], [49, 50, 51, 52, 53, 54, 55, 56, 57, 58, 59, 60], [50, 51, 52, 53, 54, 55, 56, 57, 58, 59, 60], [51, 52, 53, 54, 55, 56, 57, 58, 59, 60], [50, 51, 52, 53, 54, 55, 56, 57, 58, 59, 60], [50, 51, 53, 54, 55, 56, 57, 58, 59, 60], [54, 55, 56, 57, 58, 59, 60], [55, 56, 57, 58, 59, 60], [50, 51, 52, 53, 54, 55, 56, 57, 58, 59, 60], [50, 51, 52, 53, 54, 55, 57, 58, 59, 60], [50, 51, 52, 53, 54, 55, 56, 57, 58, 59, 60], [50, 51, 52, 53, 54, 55, 59, 60], [50, 51, 52, 53, 54, 55, 60]] (by decide) ?_
      simp
      refine ⟨hlt, fun x' hx' => ?_⟩
      obtain rfl : x = x' := Option.some.inj (hx.symm.trans hx')
      clear hx'
      by_cases hm : MxP p d x
      · rw [decide_eq_true hm] at c3
        refine DrC.ok hF (by rfl) (by simp) c3 (by simp) (by simp) ?_
        simp [show 0 < i from h0, wi]
        refine ⟨by omega, fun y' hy' => ?_⟩
        obtain rfl : y = y' := Option.some.inj (hy.symm.trans hy')
        clear hy'
        refine ⟨hlt, fun x' hx' => ?_⟩
        obtain rfl : x = x' := Option.some.inj (hx.symm.trans hx')
        clear hx'
        refine S 60 _ _ ?_
        simp
        by_cases hz : cmpM y x < 0
        · rw [decide_eq_true hz] at c4
          refine CallW.ok (by decide) (by simp) c4 (by simp) (S 60 _ _ ?_)
          simp
          refine Nxt.mk (i + 1) ⟨hlt, hnext hm, fun k hk a c h1 ha hc => ?_⟩ (by simp [wrapS (i := i) (n := G.length) hlt (by omega)]) (by omega)
          by_cases hk2 : k = i
          · subst hk2; obtain rfl : y = a := Option.some.inj (hy.symm.trans ha)
            obtain rfl : x = c := Option.some.inj (hx.symm.trans hc)
            exact hz
          · exact hA k (by omega) a c h1 ha hc
        · rw [decide_eq_false hz] at c4
          refine CallW.ok (by decide) (by simp) c4 (by simp) (S 60 _ _ ?_)
          simp
          exact hbA i y x h0 hy hx hz
      · rw [decide_eq_false hm] at c3
        refine DrC.ok hF (by rfl) (by simp) c3 (by simp) (by simp) ?_
        simp
        refine S 60 _ _ ?_
        simp
        exact hbM x hxm hm
    · have hpos : ¬ (0 : Int) < i := by omega
      refine J.dr hF mixed 26 [[], [0], [], [2], [], [4], [], [4, 5, 6], [4, 5, 6, 7], [0, 1, 2, 3, 4, 5, 6, 7, 8], [0, 1, 2, 3, 4, 5, 6, 7, 8, 9], [0, 1, 2, 3, 4, 5, 6, 7, 8, 9, 10], [0, 1, 2, 3, 4, 5, 6, 7, 8, 9, 10, 11], [0, 1, 2, 3, 4, 5, 6, 7, 8, 9, 10, 11, 12], [0, 1, 2, 3, 4, 5, 6, 7, 8, 9, 10, 11, 12, 13], [0, 1, 2, 3, 4, 5, 6, 7, 8, 9, 10, 11, 12, 13, 14], [0, 1, 2, 3, 4, 5, 6, 7, 8, 9, 10, 11, 12, 13, 14, 15], [0, 1, 2, 3, 4, 5, 6, 7, 8, 9, 10, 11, 12, 13, 14], [0, 1, 2, 3, 4, 5, 6, 7, 8, 9, 10, 11, 12, 13, 14, 17], [0, 1, 2, 3, 4, 5, 6, 7, 8, 9, 10, 11, 12, 13, 14, 15, 16, 17, 18], [0, 1, 2, 3, 4, 5, 6, 7, 8, 9, 10, 11, 12, 13, 14, 15, 16, 17, 18, 19], [0, 1, 2, 3, 4, 5, 6, 7, 8, 9, 10, 11, 12, 13, 14], [0, 1, 2, 3, 4, 5, 6, 7, 8, 9, 10, 11, 12, 13, 14, 21], [0, 1, 2, 3, 4, 5, 6, 7, 8, 9, 10, 11, 12, 13, 14], [0, 1, 2, 3, 4, 5, 6, 7, 8, 9, 10, 11, 12, 13, 14, 21, 22, 23], [0, 1, 2, 3, 4, 5, 6, 7, 8, 9, 10, 11, 12, 13, 14, 21, 22, 23, 24], [0, 1, 2, 3, 4, 5, 6, 7, 8, 9, 10, 11, 12, 13, 14, 15, 16, 17, 18, 19, 20, 21, 22, 23, 24, 25], [0, 1, 2, 3, 4, 5, 6, 7, 8, 9, 10, 11, 12, 13, 14, 15, 16, 17, 18, 19, 20, 21, 22, 23, 24, 25, 26], [0, 1, 2, 3, 4, 5, 6, 7, 8, 9, 10, 11, 12, 13, 14, 15, 16, 17, 18, 19, 20, 21, 22, 23, 24, 25, 26, 27], [0, 1, 2, 3, 4, 5, 6, 7, 8, 9, 10, 11, 12, 13, 14, 15, 16, 17, 18, 19, 20, 21, 22, 23, 24, 25, 26, 27, 28]] [[35, 36, 37, 38, 39, 40, 41, 42, 43, 44, 45, 46, 47, 48, 49, 50, 51, 52, 53, 54, 55, 56, 57, 58, 59, 60], [36, 37, 38, 39, 40, 41, 42, 43, 44, 45, 46, 47, 48, 49, 50, 51, 52, 53, 54, 55, 56, 57, 58, 59, 60], [35, 36, 37, 38, 39, 40, 41, 42, 43, 44, 45, 46, 47, 48, 49, 50, 51, 52, 53, 54, 55, 56, 57, 58, 59, 60], [35, 36, 38, 39, 40, 41, 42, 43, 44, 45, 46, 47, 48, 49, 50, 51, 52, 53, 54, 55, 56, 57, 58, 59, 60], [35, 36, 37, 38, 39, 40, 41, 42, 43, 44, 45, 46, 47, 48, 49, 50, 51, 52, 53, 54, 55, 56, 57, 58, 59, 60], [35, 36, 37, 38, 40, 41, 42, 43, 44, 45, 46, 47, 48, 49, 50, 51, 52, 53, 54, 55, 56, 57, 58, 59, 60], [35, 36, 37, 38, 39, 40, 41, 42, 43, 44, 45, 46, 47, 48, 49, 50, 51, 52, 53, 54, 55, 56, 57, 58, 59, 60], [35, 36, 37, 38, 42, 43, 44, 45, 46, 47, 48, 49, 50, 51, 52, 53, 54, 55, 56, 57, 58, 59, 60], [35, 36, 37, 38, 43, 44, 45, 46, 47, 48, 49, 50, 51, 52, 53, 54, 55, 56, 57, 58, 59, 60], [44, 45, 46, 47, 48, 49, 50, 51, 52, 53, 54, 55, 56, 57, 58, 59, 60], [45, 46, 47, 48, 49, 50, 51, 52, 53, 54, 55, 56, 57, 58, 59, 60], [46, 47, 48, 49, 50, 51, 52, 53, 54, 55, 56, 57, 58, 59, 60], [47, 48, 49, 50, 51, 52, 53, 54, 55, 56, 57, 58, 59, 60], [48, 49, 50, 51, 52, 53, 54, 55, 56, 57, 58, 59, 60], [49, 50, 51, 52, 53, 54, 55, 56, 57, 58, 59, 60], [50, 51, 52, 53, 54, 55, 56, 57, 58, 59, 60], [51, 52, 53, 54, 55, 56, 57, 58, 59, 60], [50, 51, 52, 53, 54, 55, 56, 57, 58, 59, 60], [50, 51, 53, 54, 55, 56, 57, 58, 59, 60], [54, 55, 56, 57, 58, 59, 60], [55, 56, 57, 58, 59, 60], [50, 51, 52, 53, 54, 55, 56, 57, 58, 59, 60], [50, 51, 52, 53, 54, 55, 57, 58, 59, 60], [50, 51, 52, 53, 54, 55, 56, 57, 58, 59, 60], [50, 51, 52, 53, 54, 55, 59, 60], [50, 51, 52, 53, 54, 55, 60]] (by decide) ?_
      simp
      refine ⟨hlt, fun x' hx' => ?_⟩
      obtain rfl : x = x' := Option.some.inj (hx.symm.trans hx')
      clear hx'
      by_cases hm : MxP p d x
      · rw [decide_eq_true hm] at c3
        refine DrC.ok hF (by rfl) (by simp) c3 (by simp) (by simp) ?_
        simp [show ¬ 0 < i from h0]
        refine S 60 _ _ ?_
        simp
        refine Nxt.mk (i + 1) ⟨hlt, hnext hm, fun k hk a c h1 ha hc => ?_⟩ (by simp [wrapS (i := i) (n := G.length) hlt (by omega)]) (by omega)
        by_cases hk2 : k = i
        · subst hk2; exact absurd h1 h0
        · exact hA k (by omega) a c h1 ha hc
      · rw [decide_eq_false hm] at c3
        refine DrC.ok hF (by rfl) (by simp) c3 (by simp) (by simp) ?_
        simp
        refine S 60 _ _ ?_
        simp
        exact hbM x hxm hm
  · rw [List.take_of_length_le (by omega)] at hM
    refine S 60 _ _ ?_
    simp
    refine J.loop hw (fun i : Nat => ⟨[(1, .c (.ref 64001 0)), (4, .c (.d (i64 i)))], [(64001, .var [.d (i64 p), .d (i64 d), .d (vMats G)])]⟩)
      (fun i => i ≤ G.length ∧ ∀ x ∈ G.take i, ∀ y ∈ G, timesM p d.toNat x y ∈ G) (fun i => G.length - i) 0 ⟨by omega, fun x hx => by simp at hx⟩ (by simp) ?_
    rintro i2 ⟨hi2, hC⟩
    refine S 12 _ _ ?_
    simp
    refine ⟨fun hlt => ?_, fun hge2 => ?_⟩
    · obtain ⟨x, hx⟩ : ∃ x, G[i2]? = some x := ⟨G[i2], List.getElem?_eq_getElem hlt⟩
      have hxm := List.mem_of_getElem? hx
      refine S 60 _ _ ?_
      simp
      refine J.loop hw (fun j : Nat => ⟨[(1, .c (.ref 64001 0)), (4, .c (.d (i64 i2))), (5, .c (.d (i64 j)))], [(64001, .var [.d (i64 p), .d (i64 d), .d (vMats G)])]⟩)
        (fun j => j ≤ G.length ∧ ∀ y ∈ G.take j, timesM p d.toNat x y ∈ G) (fun j => G.length - j) 0 ⟨by omega, fun y hy => by simp at hy⟩ (by simp) ?_
      rintro j ⟨hj, hB⟩
      refine S 12 _ _ ?_
      simp
      refine ⟨fun hltj => ?_, fun hgej => ?_⟩
      · obtain ⟨y, hy⟩ : ∃ y, G[j]? = some y := ⟨G[j], List.getElem?_eq_getElem hltj⟩
        have hym := List.mem_of_getElem? hy
        have c3 := l02Times_ok p d x y hp hd
        have c4 := l02Find_ok G (timesM p d.toNat x y) hl
        have hneg := findZ_neg (G := G) (g := timesM p d.toNat x y)
        have hbCx := hbC x hxm y hym
        refine S 60 _ _ ?_
        simp
        refine J.dr hF mixed 17 [[], [0], [], [2], [], [4], [], [6], [], [6, 7, 8], [6, 7, 8, 9], [], [11], [], [11, 12, 13], [11, 12, 13, 14], [2, 3, 4, 5, 6, 7, 8, 9, 10, 11, 12, 13, 14, 15], [0, 1, 2, 3, 4, 5, 6, 7, 8, 9, 10, 11, 12, 13, 14, 15, 16], [0, 1, 2, 3, 4, 5, 6, 7, 8, 9, 10, 11, 12, 13, 14, 15, 16, 17]] [[79, 80, 81, 82, 83, 84, 85, 86, 87, 88, 89, 90, 91, 92, 93, 94, 95], [80, 81, 82, 83, 84, 85, 86, 87, 88, 89, 90, 91, 92, 93, 94, 95], [79, 80, 81, 82, 83, 84, 85, 86, 87, 88, 89, 90, 91, 92, 93, 94, 95], [79, 80, 82, 83, 84, 85, 86, 87, 88, 89, 90, 91, 92, 93, 94, 95], [79, 80, 81, 82, 83, 84, 85, 86, 87, 88, 89, 90, 91, 92, 93, 94, 95], [79, 80, 81, 82, 84, 85, 86, 87, 88, 89, 90, 91, 92, 93, 94, 95], [79, 80, 81, 82, 83, 84, 85, 86, 87, 88, 89, 90, 91, 92, 93, 94, 95], [79, 80, 81, 82, 83, 84, 86, 87, 88, 89, 90, 91, 92, 93, 94, 95], [79, 80, 81, 82, 83, 84, 85, 86, 87, 88, 89, 90, 91, 92, 93, 94, 95], [79, 80, 81, 82, 83, 84, 88, 89, 90, 91, 92, 93, 94, 95], [79, 80, 81, 82, 83, 84, 89, 90, 91, 92, 93, 94, 95], [79, 80, 81, 82, 83, 84, 85, 86, 87, 88, 89, 90, 91, 92, 93, 94, 95], [79, 80, 81, 82, 83, 84, 85, 86, 87, 88, 89, 91, 92, 93, 94, 95], [79, 80, 81, 82, 83, 84, 85, 86, 87, 88, 89, 90, 91, 92, 93, 94, 95], [79, 80, 81, 82, 83, 84, 85, 86, 87, 88, 89, 93, 94, 95], [79, 80, 81, 82, 83, 84, 85, 86, 87, 88, 89, 94, 95], [79, 80, 95]] (by decide) ?_
        simp
        refine ⟨hlt, fun x' hx' => ?_⟩
        obtain rfl : x = x' := Option.some.inj (hx.symm.trans hx')
        clear hx'
        refine ⟨hltj, fun y' hy' => ?_⟩
        obtain rfl : y = y' := Option.some.inj (hy.symm.trans hy')
        clear hy'
        refine DrC.ok hF (by rfl) (by simp) c3 (by simp) (by simp) ?_
        simp
        generalize findZ G (timesM p d.toNat x y) = z at c4 hneg
        refine S 60 _ _ ?_
        simp
        refine CallW.ok (by decide) (by simp) c4 (by simp) (S 60 _ _ ?_)
        simp
        refine ⟨fun hz => hbCx (hneg.1 hz), fun hz => ?_⟩
        have hmem : timesM p d.toNat x y ∈ G := Classical.byContradiction fun hn => by have := hneg.2 hn; omega
        refine Nxt.mk (j + 1) ⟨hltj, fun q hq => ?_⟩ (by simp [wrapS (i := j) (n := G.length) hltj (by omega)]) (by omega)
        rw [List.take_add_one, hy] at hq
        simp only [Option.toList, List.mem_append, List.mem_singleton] at hq
        rcases hq with h | rfl
        · exact hB q h
        · exact hmem
      · rw [List.take_of_length_le (by omega)] at hB
        refine S 60 _ _ ?_
        simp
        refine Nxt.mk (i2 + 1) ⟨hlt, fun a ha => ?_⟩ (by simp [wrapS (i := i2) (n := G.length) hlt (by omega)]) (by omega)
        rw [List.take_add_one, hx] at ha
        simp only [Option.toList, List.mem_append, List.mem_singleton] at ha
        rcases ha with h | rfl
        · exact hC a h
        · exact hB
    · rw [List.take_of_length_le (by omega)] at hC
      have c5 := l02Unit_ok d hd
      have c6 := l02Find_ok G (unitM d.toNat) hl
      have hneg := findZ_neg (G := G) (g := unitM d.toNat)
      have e : b = decide (0 ≤ findZ G (unitM d.toNat)) := by
        rw [← hb]
        refine decide_eq_decide.2 ⟨fun h => Classical.byContradiction fun hn => hneg.1 (by omega) h.2.2.2.2.2, fun h => ⟨⟨hp, hd⟩, hlen, fun g hg => (hM g hg).2, fun k hk a c h1 ha hc => hA k (by omega) a c h1 ha hc, hC, Classical.byContradiction fun hn => by have := hneg.2 hn; omega⟩⟩
      generalize findZ G (unitM d.toNat) = z at c6 e
      refine S 60 _ _ ?_
      simp
      refine J.dr hF mixed 5 [[], [0], [], [2], [2, 3], [0, 1, 2, 3, 4], [0, 1, 2, 3, 4, 5], [0, 1, 2, 3, 4, 5, 6]] [[98, 99, 100, 101, 102], [99, 100, 101, 102], [98, 99, 100, 101, 102], [98, 99, 101, 102], [98, 99, 102]] (by decide) ?_
      simp
      refine DrC.ok hF (by rfl) (by simp) c5 (by simp) (by simp) ?_
      simp
      refine S 60 _ _ ?_
      simp
      refine CallW.ok (by decide) (by simp) c6 (by simp) (S 60 _ _ ?_)
      simp [e]
end Go.Sm
