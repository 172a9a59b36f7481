/- Lists of lists of numbers: are they marked. -/
import Derived.Test.YtihinogdolhjcaaSoA
namespace Go.Sm
open Go.RowKit

@[simp] theorem stOEs_set : ∀ {xs : List (List D)} {i : Nat} {e : List D}, stOEs xs = true → stOCs e = true → stOEs (xs.set i e) = true
  | [], i, e, _, _ => by simp
  | x :: xs, 0, e, h, he => by simp only [stOEs, Bool.and_eq_true, List.set_cons_zero] at h ⊢; exact ⟨he, h.2⟩
  | x :: xs, i + 1, e, h, he => by simp only [stOEs, Bool.and_eq_true, List.set_cons_succ] at h ⊢; exact ⟨h.1, stOEs_set h.2 he⟩

def total (xss : List (List Int)) : Nat := (xss.map List.length).sum
def markLL : List (List Int) → Int → List (List Int)
  | [], _ => []
  | xs :: r, k => markL xs.length k :: markLL r (k + xs.length)

theorem total_take {xss : List (List Int)} {i : Nat} {x : List Int} (h : xss[i]? = some x) : total (xss.take (i + 1)) = total (xss.take i) + x.length := by
  rw [List.take_add_one, h]; simp [total]
theorem total_le (xss : List (List Int)) (i : Nat) : total (xss.take i) ≤ total xss := by
  have h : total xss = total (xss.take i) + total (xss.drop i) := by
    conv => lhs; rw [← List.take_append_drop i xss]
    simp only [total, List.map_append, List.sum_append]
  omega
theorem markLL_length : ∀ (xss : List (List Int)) (k : Int), (markLL xss k).length = xss.length
  | [], _ => rfl
  | x :: r, k => by simp [markLL, markLL_length r]
theorem markLL_append : ∀ (xs ys : List (List Int)) (k : Int), markLL (xs ++ ys) k = markLL xs k ++ markLL ys (k + total xs)
  | [], ys, k => by simp [markLL, total]
  | x :: xs, ys, k => by
    have e : k + (x.length : Int) + total xs = k + total (x :: xs) := by simp only [total, List.map_cons, List.sum_cons]; omega
    rw [List.cons_append, markLL, markLL, markLL_append xs ys, e, List.cons_append]
theorem markLL_total : ∀ (xss : List (List Int)) (k : Int), total (markLL xss k) = total xss
  | [], _ => rfl
  | x :: r, k => by
    have := markLL_total r (k + x.length)
    simp only [total, markLL, List.map_cons, List.sum_cons, markL_length] at this ⊢
    rw [this]

theorem heldInt64SS_ok (xss : List (List Int)) (k : Int) (hx : xss = markLL xss k) (hl : xss.length < 4611686018427387904) (hk : 0 ≤ k) (hk2 : k + total xss < 4611686018427387904) :
    CallOK Go.Proofs.Try.prog 105 [.one (vIntss xss), .one (i64 k)] (.one (i64 (k + total xss))) := by
  have hF := fnOk 21 [.tmp 4]
  refine callOK hF 50 Go.Proofs.Try.func105 rfl rfl rfl (by decide) (by simp) rfl ?_
  intro w0 hw
  have S := @vc_sound w0 _ hF ⟨.one (i64 (k + total xss)), []⟩ Go.Proofs.Try.f105 rfl (by simp) 50
  simp
  refine J.loop hw (fun i : Nat => ⟨[(0, .c (.d (vIntss xss))), (1, .c (.d (i64 (k + total (xss.take i))))), (5, .c (.d (i64 i)))], []⟩)
    (fun i => i ≤ xss.length) (fun i => xss.length - i) 0 (by simp) (by simp [total]) ?_
  intro i hi
  apply S
  simp
  refine ⟨fun hlt => ⟨hlt, fun a ha => ?_⟩, fun hge => ?_⟩
  · have ht := total_take ha
    have hle := total_le xss (i + 1)
    have hm : a = markL a.length (k + total (xss.take i)) := by
      have h1 := ha
      rw [hx, ← List.take_append_drop i xss, drop_cons ha, markLL_append, List.getElem?_append_right (by rw [markLL_length]; simp; omega), markLL_length] at h1
      simp [markLL, show i - min i xss.length = 0 by omega] at h1
      exact h1.symm
    refine CallW.ok (by decide) (by simp) (heldInt64S_ok a _ hm (by omega) (by omega) (by omega)) (by simp) ?_
    apply S
    simp
    refine ⟨fun hneg => by omega, fun _ => ?_⟩
    exact Nxt.mk (i + 1) hlt (by simp [wrapS hlt hl, ht]; omega) (by omega)
  · rw [List.take_of_length_le (by omega)]

theorem markInt64SS_ok (xss : List (List Int)) (k : Int) (hl : xss.length < 4611686018427387904) (hk : 0 ≤ k) (hk2 : k + total xss < 4611686018427387904) :
    CallX Go.Proofs.Try.prog 52 [.one (oIntss xss), .one (i64 k)] ⟨.one (i64 (k + total xss)), [(0, oIntss (markLL xss k))]⟩ := by
  have hF := fnOk 19 [.tmp 4]
  refine callX hF 50 Go.Proofs.Try.func52 rfl rfl rfl (by decide) (by simp) rfl (by simp) (by simp [ownAt]) ?_
  intro w0 hw hfix
  have S := @vc_sound w0 _ hF ⟨.one (i64 (k + total xss)), [(0, oIntss (markLL xss k))]⟩ Go.Proofs.Try.f52 rfl hfix
  simp
  refine J.loop hw (fun p : Nat × List (List Int) => ⟨[(0, .c (.ob 0)), (1, .c (.d (i64 (k + total (xss.take p.1))))), (5, .c (.d (i64 p.1)))], [(0, .arr 22 1 (p.2.map fun xs => [oInts xs]))]⟩)
    (fun p => p.1 ≤ xss.length ∧ p.2 = markLL (xss.take p.1) k ++ xss.drop p.1) (fun p => xss.length - p.1) (0, xss) (by simp [markLL]) (by simp [total]) ?_
  rintro ⟨i, zs⟩ ⟨hi, hz⟩
  simp only at hi hz
  have hzl : zs.length = xss.length := by rw [hz]; simp [markLL_length]; omega
  refine S 12 _ _ ?_
  simp
  refine ⟨fun hlt => ?_, fun hge => ?_⟩
  · obtain ⟨x, hx⟩ : ∃ x, xss[i]? = some x := ⟨xss[i]'(by omega), by simp⟩
    have hzx : zs[i]? = some x := by
      rw [hz, List.getElem?_append_right (by rw [markLL_length]; simp; omega), markLL_length, drop_cons hx]
      simp [show i - min i xss.length = 0 by omega]
    have ht := total_take hx
    have hle := total_le xss (i + 1)
    refine J.out (F := ⟨Go.Proofs.Try.prog, tab, [], 19, [.tmp 4]⟩) (r := ⟨.one (i64 (k + total xss)), [(0, oIntss (markLL xss k))]⟩) (fn := Go.Proofs.Try.f52) hw
      (ky := 0) (K := 1000) (i := i) (j := 0) (e := 22) (z := 1) (xs := zs.map fun xs => [oInts xs]) (E := [oInts x]) (e' := 2) (z' := 1) (ys := ints x)
      (by simp) (by simp [hzx]) (by simp) (by simp) (by simp) (by omega) (by simp) (by simp) (by simp) ?_
    intro c
    have S' := @vc_sound (w0.named 1000 c) _ hF ⟨.one (i64 (k + total xss)), [(0, oIntss (markLL xss k))]⟩ Go.Proofs.Try.f52 rfl (by
      intro p hp
      have := hfix p hp
      simp at hp
      subst hp
      simpa [Base.named] using this)
    refine S' 50 _ _ ?_
    simp [hlt]
    refine CallW.name (by simp) ?_
    refine CallW.mut (markInt64S_ok x (k + total (xss.take i)) (by omega) (by omega) (by omega)) (by decide) (by simp) (by simp) (by simp) (by simp) (by simp) (by simp) ?_
    simp
    refine J.in (ky := 0) (K := 1000) (i := i) (j := 0) (e := 22) (z := 1) (xs := (zs.map fun xs => [oInts xs]).set i [.v c]) (E := [.v c]) (e' := 2) (z' := 1) (ys := ints (markL x.length (k + total (xss.take i))))
      (by simp) (by simp) (by simp [hlt]) (by simp) (by simp) (by simp) ?_
    refine S' 50 _ _ ?_
    simp
    refine Nxt.mk (i + 1, zs.set i (markL x.length (k + total (xss.take i)))) ⟨by show i + 1 ≤ _; omega, ?_⟩ (by simp [wrapS (i := i) (n := xss.length) (by omega) hl, ht, List.map_set]; omega) (by show xss.length - (i + 1) < xss.length - i; omega)
    show zs.set i _ = markLL (xss.take (i + 1)) k ++ xss.drop (i + 1)
    have hlen : (markLL (xss.take i) k).length = i := by rw [markLL_length]; simp; omega
    rw [hz, List.set_append, if_neg (by omega), hlen, Nat.sub_self, drop_cons hx, List.set_cons_zero, List.take_add_one, hx, markLL_append]
    simp [markLL]
  · refine S 50 _ _ ?_
    simp
    have e : i = xss.length := by omega
    subst e
    simp at hz
    subst hz
    refine ⟨by simp, ?_⟩
    simp

end Go.Sm
