/- Lists of numbers, and lists of these: are they alike, are they marked. -/
import Derived.Test.YtihinogdolhjcaaSnE
namespace Go.Sm
open Go.RowKit

/-! ### eqInt64S -/

theorem eqInt64S_ok (xs ys : List Int) (hl : xs.length < 4611686018427387904) :
    CallOK Go.Proofs.Try.prog 18 [.one (vInts xs), .one (vInts ys)] (.one (bo (decide (xs = ys)))) := by
  have hF := fnOk 26 [.tmp 4]
  refine callOK hF 50 Go.Proofs.Try.func18 rfl rfl rfl (by decide) (by simp) rfl ?_
  intro w0 hw
  have S := @vc_sound w0 _ hF ⟨.one (bo (decide (xs = ys))), []⟩ Go.Proofs.Try.f18 rfl (by simp) 50
  simp
  refine ⟨fun hne => ?_, fun he => ?_⟩
  · intro e; subst e; exact hne rfl
  · refine J.loop hw (fun i : Nat => ⟨[(0, .c (.d (vInts xs))), (1, .c (.d (vInts ys))), (5, .c (.d (i64 i)))], []⟩)
      (fun i => i ≤ xs.length ∧ xs.take i = ys.take i) (fun i => xs.length - i) 0 (by simp) (by simp) ?_
    rintro i ⟨hi, ht⟩
    apply S
    simp
    refine ⟨fun hlt => ?_, fun hge => ?_⟩
    · refine J.dr hF mixed 8 [[], [], [0, 1], [0, 1, 2], [], [], [4, 5], [4, 5, 6], [0, 1, 2, 3, 4, 5, 6, 7]]
        [[17, 18, 19, 20, 21, 22, 23, 24], [17, 18, 19, 20, 21, 22, 23, 24], [19, 20, 21, 22, 23, 24], [20, 21, 22, 23, 24], [17, 18, 19, 20, 21, 22, 23, 24], [17, 18, 19, 20, 21, 22, 23, 24], [17, 18, 19, 20, 23, 24], [17, 18, 19, 20, 24]] (by decide) ?_
      simp
      refine ⟨hlt, fun a ha => ⟨by omega, fun b hb => ?_⟩⟩
      apply S
      simp
      refine ⟨fun hne e => ?_, fun e => ?_⟩
      · subst e; rw [ha] at hb; exact hne (Option.some.inj hb)
      · subst e
        refine Nxt.mk (i + 1) ⟨hlt, ?_⟩ (by simp [wrapS hlt hl]) (by omega)
        rw [List.take_add_one, List.take_add_one, ht, ha, hb]
    · have h1 : xs = xs.take i := by rw [List.take_of_length_le (by omega)]
      have h2 : ys = ys.take i := by rw [List.take_of_length_le (by omega)]
      rw [h1, h2, ht]

/-! ### eqInt64SS -/

theorem eqInt64SS_ok (xs ys : List (List Int)) (hl : xs.length < 4611686018427387904) (hls : ∀ x ∈ xs, x.length < 4611686018427387904) :
    CallOK Go.Proofs.Try.prog 51 [.one (vIntss xs), .one (vIntss ys)] (.one (bo (decide (xs = ys)))) := by
  have hF := fnOk 27 [.tmp 4]
  refine callOK hF 50 Go.Proofs.Try.func51 rfl rfl rfl (by decide) (by simp) rfl ?_
  intro w0 hw
  have S := @vc_sound w0 _ hF ⟨.one (bo (decide (xs = ys))), []⟩ Go.Proofs.Try.f51 rfl (by simp) 50
  simp
  refine ⟨fun hne => ?_, fun he => ?_⟩
  · intro e; subst e; exact hne rfl
  · refine J.loop hw (fun i : Nat => ⟨[(0, .c (.d (vIntss xs))), (1, .c (.d (vIntss ys))), (5, .c (.d (i64 i)))], []⟩)
      (fun i => i ≤ xs.length ∧ xs.take i = ys.take i) (fun i => xs.length - i) 0 (by simp) (by simp) ?_
    rintro i ⟨hi, ht⟩
    apply S
    simp
    refine ⟨fun hlt => ?_, fun hge => ?_⟩
    · refine J.dr hF mixed 8 [[], [], [0, 1], [0, 1, 2], [], [], [4, 5], [4, 5, 6], [0, 1, 2, 3, 4, 5, 6, 7], [0, 1, 2, 3, 4, 5, 6, 7, 8]]
        [[17, 18, 19, 20, 21, 22, 23, 24], [17, 18, 19, 20, 21, 22, 23, 24], [19, 20, 21, 22, 23, 24], [20, 21, 22, 23, 24], [17, 18, 19, 20, 21, 22, 23, 24], [17, 18, 19, 20, 21, 22, 23, 24], [17, 18, 19, 20, 23, 24], [17, 18, 19, 20, 24]] (by decide) ?_
      simp
      refine ⟨hlt, fun a ha => ⟨by omega, fun b hb => ?_⟩⟩
      apply S
      simp
      refine CallW.ok (by decide) (by simp) (eqInt64S_ok a b (hls a (List.mem_of_getElem? ha))) (by simp) ?_
      apply S
      simp
      refine ⟨fun hne e => ?_, fun e => ?_⟩
      · subst e; rw [ha] at hb; exact hne (Option.some.inj hb)
      · subst e
        refine Nxt.mk (i + 1) ⟨hlt, ?_⟩ (by simp [wrapS hlt hl]) (by omega)
        rw [List.take_add_one, List.take_add_one, ht, ha, hb]
    · have h1 : xs = xs.take i := by rw [List.take_of_length_le (by omega)]
      have h2 : ys = ys.take i := by rw [List.take_of_length_le (by omega)]
      rw [h1, h2, ht]

/-! ### marks -/

/-- The numbers from k on. -/
def markL : Nat → Int → List Int
  | 0, _ => []
  | n + 1, k => k :: markL n (k + 1)

theorem markL_length : ∀ (n : Nat) (k : Int), (markL n k).length = n
  | 0, _ => rfl
  | n + 1, k => by simp [markL, markL_length n]
theorem markL_succ : ∀ (n : Nat) (k : Int), markL (n + 1) k = markL n k ++ [k + n]
  | 0, k => by simp [markL]
  | n + 1, k => by
    have e : k + 1 + (n : Int) = k + ((n + 1 : Nat) : Int) := by omega
    rw [markL, markL_succ n (k + 1), markL, List.cons_append, e]
theorem markL_get {n : Nat} {k : Int} {i : Nat} {x : Int} (h : (markL n k)[i]? = some x) : x = k + i := by
  induction n generalizing k i with
  | zero => simp [markL] at h
  | succ n ih =>
    cases i with
    | zero => simp [markL] at h; omega
    | succ i => have := ih (k := k + 1) (i := i) (by simpa [markL] using h); omega

theorem heldInt64S_ok (xs : List Int) (k : Int) (hx : xs = markL xs.length k) (hl : xs.length < 4611686018427387904) (hk : 0 ≤ k) (hk2 : k + xs.length < 4611686018427387904) :
    CallOK Go.Proofs.Try.prog 20 [.one (vInts xs), .one (i64 k)] (.one (i64 (k + xs.length))) := by
  have hF := fnOk 21 [.tmp 4]
  refine callOK hF 50 Go.Proofs.Try.func20 rfl rfl rfl (by decide) (by simp) rfl ?_
  intro w0 hw
  have S := @vc_sound w0 _ hF ⟨.one (i64 (k + xs.length)), []⟩ Go.Proofs.Try.f20 rfl (by simp) 50
  simp
  refine J.loop hw (fun i : Nat => ⟨[(0, .c (.d (vInts xs))), (1, .c (.d (i64 (k + i)))), (5, .c (.d (i64 i)))], []⟩)
    (fun i => i ≤ xs.length) (fun i => xs.length - i) 0 (by simp) (by simp) ?_
  intro i hi
  apply S
  simp
  refine ⟨fun hlt => ⟨hlt, fun a ha => ⟨fun hne => ?_, fun he => ?_⟩⟩, fun hge => ?_⟩
  · rw [hx] at ha; exact absurd (markL_get ha) hne
  · have h2 : IntKind.i64.wrap (k + i + 1) = k + (i + 1 : Nat) := by rw [wrap64] <;> omega
    exact Nxt.mk (i + 1) hlt (by simp [wrapS hlt hl, h2]) (by omega)
  · omega

theorem markInt64S_ok (xs : List Int) (k : Int) (hl : xs.length < 4611686018427387904) (hk : 0 ≤ k) (hk2 : k + xs.length < 4611686018427387904) :
    CallX Go.Proofs.Try.prog 19 [.one (oInts xs), .one (i64 k)] ⟨.one (i64 (k + xs.length)), [(0, oInts (markL xs.length k))]⟩ := by
  have hF := fnOk 19 [.tmp 4]
  refine callX hF 50 Go.Proofs.Try.func19 rfl rfl rfl (by decide) (by simp) rfl (by simp) (by simp [ownAt]) ?_
  intro w0 hw hfix
  have S := @vc_sound w0 _ hF ⟨.one (i64 (k + xs.length)), [(0, oInts (markL xs.length k))]⟩ Go.Proofs.Try.f19 rfl hfix 50
  simp
  refine J.loop hw (fun p : Nat × List Int => ⟨[(0, .c (.ob 0)), (1, .c (.d (i64 (k + p.1)))), (5, .c (.d (i64 p.1)))], [(0, .arr 2 1 (ints p.2))]⟩)
    (fun p => p.1 ≤ xs.length ∧ p.2.length = xs.length ∧ p.2.take p.1 = markL p.1 k) (fun p => xs.length - p.1) (0, xs) (by simp [markL]) (by simp) ?_
  rintro ⟨i, zs⟩ ⟨hi, hlen, htk⟩
  simp only at hi hlen htk
  apply S
  simp
  refine ⟨fun hlt => ⟨hlt, ?_⟩, fun hge => ?_⟩
  · have h2 : IntKind.i64.wrap (k + i + 1) = k + (i + 1 : Nat) := by rw [wrap64] <;> omega
    refine Nxt.mk (i + 1, zs.set i (k + i)) ⟨by show i + 1 ≤ _; omega, by simpa using hlen, ?_⟩ (by simp [wrapS (i := i) (n := xs.length) (by omega) hl, h2, List.map_set]) (by show xs.length - (i + 1) < xs.length - i; omega)
    show (zs.set i (k + i)).take (i + 1) = markL (i + 1) k
    rw [List.take_add_one, List.take_set_of_le (Nat.le_refl i), htk, markL_succ]
    simp [show i < zs.length by omega]
  · have : zs = markL xs.length k := by
      have e : i = xs.length := by omega
      rw [e, ← hlen, List.take_length] at htk
      rw [htk, hlen]
    refine ⟨by omega, by rw [this]⟩

end Go.Sm
