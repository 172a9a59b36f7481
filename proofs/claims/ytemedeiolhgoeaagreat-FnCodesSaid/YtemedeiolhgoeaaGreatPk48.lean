/- Towards the rows of this seat: what the functions do, as contracts over plain data. -/
import Derived.Test.YtemedeiolhgoeaaGreatPk47
import Derived.Test.YtemedeiolhgoeaaGreatPk3
namespace Go.Sm
open Go.RowKit

/-- A source that is whole. -/
def SOK (bs : List UInt8) (x : Int × Int) : Prop := (0 ≤ x.1 ∧ x.1 ≤ bs.length) ∧ 0 ≤ x.2 ∧ x.2 < 18446744073709551616
/-- The hash behind a draw. -/
def hashN (h : Int) : Int := IntKind.u64.wrap (IntKind.u64.wrap (h * 6364136223846793005) + 1442695040888963407)
def bitsN (h : Int) : Int := IntKind.i64.wrap (IntKind.u64.wrap (((h.fdiv (2 ^ min 33 IntKind.u64.bits) % 2 ^ IntKind.u64.bits).toNat &&& 16777215 % 2 ^ IntKind.u64.bits : Nat) : Int))
theorem u64_range (x : Int) : 0 ≤ IntKind.u64.wrap x ∧ IntKind.u64.wrap x < 18446744073709551616 := by
  have e : IntKind.u64.wrap x = x % 18446744073709551616 := rfl
  rw [e]
  omega
theorem bitsN_range (h : Int) : 0 ≤ bitsN h ∧ bitsN h ≤ 16777215 := by
  have h1 : (((h.fdiv (2 ^ min 33 IntKind.u64.bits) % 2 ^ IntKind.u64.bits).toNat &&& 16777215 % 2 ^ IntKind.u64.bits : Nat)) ≤ 16777215 := Nat.le_trans Nat.and_le_right (by decide)
  unfold bitsN
  generalize ((h.fdiv (2 ^ min 33 IntKind.u64.bits) % 2 ^ IntKind.u64.bits).toNat &&& 16777215 % 2 ^ IntKind.u64.bits : Nat) = m at h1
  have e : IntKind.u64.wrap (m : Int) = m := by
    have : IntKind.u64.wrap (m : Int) = (m : Int) % 18446744073709551616 := rfl
    rw [this]; omega
  rw [e, wrap64 (by omega) (by omega)]
  omega
def byteN (bs : List UInt8) (i : Int) : Int := if i < bs.length then (((bs[i.toNat]?).getD 0).toNat : Int) else 0
/-- A draw: the number, and the source behind it. -/
def nextN (bs : List UInt8) (x : Int × Int) (n : Int) : Int × (Int × Int) :=
  if n < 1 then (0, x) else ((bitsN (hashN x.2) + byteN bs x.1) % n, (if x.1 < bs.length then x.1 + 1 else x.1, hashN x.2))
theorem nextN_ok {bs : List UInt8} {x : Int × Int} {n : Int} (h : SOK bs x) : SOK bs (nextN bs x n).2 ∧ 0 ≤ (nextN bs x n).1 ∧ (1 ≤ n → (nextN bs x n).1 < n) ∧ (n < 1 → (nextN bs x n).1 = 0) := by
  unfold nextN
  by_cases hn : n < 1
  · rw [if_pos hn]
    exact ⟨h, by omega, fun h => by omega, fun _ => rfl⟩
  · rw [if_neg hn]
    obtain ⟨⟨h1, h2⟩, h3⟩ := h
    refine ⟨⟨?_, u64_range _⟩, Int.emod_nonneg _ (by omega), fun _ => Int.emod_lt_of_pos _ (by omega), fun h => absurd h hn⟩
    by_cases hx : x.1 < bs.length
    · simp only [if_pos hx]; omega
    · simp only [if_neg hx]; omega

theorem next_ok (bs : List UInt8) (x : Int × Int) (n : Int) (hx : SOK bs x) (hl : bs.length ≤ 1048576) : CallS Go.Proofs.Tryz.prog 102 bs x [.one (i64 n)] (fun _ : Unit => True) (fun _ => .one (i64 (nextN bs x n).1)) (fun _ => (nextN bs x n).2) := by
  have hF := fnOk 58 [.tmp 4]
  refine callS hF 60 Go.Proofs.Tryz.func102 rfl rfl rfl (by decide) (by simp) rfl (by simp [D.isOwn]) ?_
  intro w1 g c hs
  have hw := srcBase_ok w1 g
  have S := @vc_soundQ (srcBase w1 g) _ hF (srcPost Go.Proofs.Tryz.prog Go.Proofs.Tryz.f102 w1 g c (fun _ : Unit => True) (fun _ => .one (i64 (nextN bs x n).1)) (fun _ => (nextN bs x n).2)) (RetS _ _ c (fun _ : Unit => True) (fun _ => .one (i64 (nextN bs x n).1)) (fun _ => (nextN bs x n).2)) (fun s a w β R h => ⟨srcRet hF.T R h _ rfl, srcRet hF.T R h _ rfl⟩)
  obtain ⟨⟨x1, x2⟩, x3, x4⟩ := hx
  by_cases hn : n < 1
  · have e : nextN bs x n = (0, x) := by unfold nextN; rw [if_pos hn]
    rw [e] at S ⊢
    simp [hn]
  · have h1 := bitsN_range (hashN x.2)
    have hb : hashN x.2 = IntKind.u64.wrap (IntKind.u64.wrap (x.2 * 6364136223846793005) + 1442695040888963407) := rfl
    have hbt : bitsN (hashN x.2) = IntKind.i64.wrap (IntKind.u64.wrap ((((hashN x.2).fdiv (2 ^ min 33 IntKind.u64.bits) % 2 ^ IntKind.u64.bits).toNat &&& 16777215 % 2 ^ IntKind.u64.bits : Nat) : Int)) := rfl
    by_cases hlt : x.1 < bs.length
    · obtain ⟨b, hbb⟩ : ∃ b, bs[x.1.toNat]? = some b := ⟨bs[x.1.toNat]'(by omega), List.getElem?_eq_getElem (by omega)⟩
      have e : nextN bs x n = ((bitsN (hashN x.2) + (b.toNat : Int)) % n, (x.1 + 1, hashN x.2)) := by
        unfold nextN byteN
        rw [if_neg hn, if_pos hlt, if_pos hlt, hbb]; rfl
      rw [e] at S ⊢
      simp [hn]
      rw [← hb]
      rw [← hbt]
      generalize bitsN (hashN x.2) = B at *
      generalize hashN x.2 = H at *
      refine J.drV [(7, .c (.d (vB bs)))] hF mixed 9 [[], [0], [0, 1], [0, 1, 2], [], [4], [4, 5], [4, 5, 6], [4, 5, 6, 7], [0, 1, 2, 3, 4, 5, 6, 7, 8]] [[24, 25, 26, 27, 28, 29, 30, 31, 32], [25, 26, 27, 28, 29, 30, 31, 32], [26, 27, 28, 29, 30, 31, 32], [27, 28, 29, 30, 31, 32], [24, 25, 26, 27, 28, 29, 30, 31, 32], [24, 25, 26, 27, 29, 30, 31, 32], [24, 25, 26, 27, 30, 31, 32], [24, 25, 26, 27, 31, 32], [24, 25, 26, 27, 32]] (by decide) ?_
      simp
      refine ⟨ConvW.src hs, ?_⟩
      refine S 60 _ _ ?_
      simp [hlt]
      refine J.drV [(4, .c (.d (vB bs)))] hF mixed 12 [[], [], [1], [1, 2], [1, 2, 3], [], [5], [5, 6], [5, 6, 7], [1, 2, 3, 4, 5, 6, 7, 8], [1, 2, 3, 4, 5, 6, 7, 8, 9], [1, 2, 3, 4, 5, 6, 7, 8, 9, 10], [0, 1, 2, 3, 4, 5, 6, 7, 8, 9, 10, 11], [0, 1, 2, 3, 4, 5, 6, 7, 8, 9, 10, 11, 12]] [[34, 35, 36, 37, 38, 39, 40, 41, 42, 43, 44, 45], [34, 35, 36, 37, 38, 39, 40, 41, 42, 43, 44, 45], [34, 36, 37, 38, 39, 40, 41, 42, 43, 44, 45], [34, 37, 38, 39, 40, 41, 42, 43, 44, 45], [34, 38, 39, 40, 41, 42, 43, 44, 45], [34, 35, 36, 37, 38, 39, 40, 41, 42, 43, 44, 45], [34, 35, 36, 37, 38, 40, 41, 42, 43, 44, 45], [34, 35, 36, 37, 38, 41, 42, 43, 44, 45], [34, 35, 36, 37, 38, 42, 43, 44, 45], [34, 43, 44, 45], [34, 44, 45], [34, 45]] (by decide) ?_
      simp
      refine ⟨ConvW.src hs, ⟨x1, hlt⟩, fun b' hb' => ?_⟩
      obtain rfl := Option.some.inj (hbb.symm.trans hb')
      have hb8 : (b.toNat : Int) < 256 := by have := b.toNat_lt; omega
      have w1' : IntKind.i64.wrap (b.toNat : Int) = b.toNat := wrap64 (by omega) (by omega)
      have w2 : IntKind.i64.wrap (B + (b.toNat : Int)) = B + b.toNat := wrap64 (by omega) (by omega)
      have w3 : IntKind.i64.wrap (x.1 + 1) = x.1 + 1 := wrap64 (by omega) (by omega)
      refine S 60 _ _ ?_
      simp [w1', w2, w3]
      exact ⟨by omega, Int.tmod_eq_emod_of_nonneg (by omega)⟩
    · have e : nextN bs x n = (bitsN (hashN x.2) % n, (x.1, hashN x.2)) := by
        unfold nextN byteN
        rw [if_neg hn, if_neg hlt, if_neg hlt, Int.add_zero]
      rw [e] at S ⊢
      simp [hn]
      rw [← hb]
      rw [← hbt]
      generalize bitsN (hashN x.2) = B at *
      generalize hashN x.2 = H at *
      refine J.drV [(7, .c (.d (vB bs)))] hF mixed 9 [[], [0], [0, 1], [0, 1, 2], [], [4], [4, 5], [4, 5, 6], [4, 5, 6, 7], [0, 1, 2, 3, 4, 5, 6, 7, 8]] [[24, 25, 26, 27, 28, 29, 30, 31, 32], [25, 26, 27, 28, 29, 30, 31, 32], [26, 27, 28, 29, 30, 31, 32], [27, 28, 29, 30, 31, 32], [24, 25, 26, 27, 28, 29, 30, 31, 32], [24, 25, 26, 27, 29, 30, 31, 32], [24, 25, 26, 27, 30, 31, 32], [24, 25, 26, 27, 31, 32], [24, 25, 26, 27, 32]] (by decide) ?_
      simp
      refine ⟨ConvW.src hs, ?_⟩
      refine S 60 _ _ ?_
      simp [hlt]
      exact ⟨by omega, Int.tmod_eq_emod_of_nonneg (by omega)⟩
end Go.Sm

namespace Go.Sm
open Go.RowKit

def hashS (H : Int) (b : UInt8) : Int := IntKind.u64.wrap (IntKind.u64.wrap (IntKind.u64.wrap (H * 1099511628211) + IntKind.u64.wrap (b.toNat : Int)) + 101)
/-- The source that a code makes. -/
def fromH (bs : List UInt8) (i : Nat) : Int := (bs.take i).foldl hashS (IntKind.u64.wrap (12851 + IntKind.u64.wrap bs.length))
def fromN (bs : List UInt8) : Int × Int := (0, fromH bs 4096)
theorem fromH_range (bs : List UInt8) : ∀ i, 0 ≤ fromH bs i ∧ fromH bs i < 18446744073709551616 := by
  intro i
  unfold fromH
  generalize bs.take i = l
  have h : ∀ (l : List UInt8) (H : Int), 0 ≤ H ∧ H < 18446744073709551616 → 0 ≤ l.foldl hashS H ∧ l.foldl hashS H < 18446744073709551616 := by
    intro l
    induction l with
    | nil => exact fun H h => h
    | cons b l ih => exact fun H _ => ih _ (u64_range _)
  exact h l _ (u64_range _)
theorem fromN_ok (bs : List UInt8) : SOK bs (fromN bs) := ⟨⟨Int.le_refl _, by show (0 : Int) ≤ _; omega⟩, fromH_range bs _⟩
theorem fromH_step {bs : List UInt8} {i : Nat} {b : UInt8} (h : bs[i]? = some b) : hashS (fromH bs i) b = fromH bs (i + 1) := by
  unfold fromH
  rw [List.take_add_one, h]
  simp
theorem fromH_all {bs : List UInt8} {i j : Nat} (h : bs.length ≤ i) (hj : bs.length ≤ j) : fromH bs i = fromH bs j := by
  unfold fromH
  rw [List.take_of_length_le h, List.take_of_length_le hj]

theorem from_ok (bs : List UInt8) (hl : bs.length ≤ 1048576) : CallN Go.Proofs.Tryz.prog 91 bs (fun y => y = fromN bs) := by
  have hF := fnOk 38 [.tmp 2]
  refine callN hF 4 Go.Proofs.Tryz.func91 rfl rfl rfl (by decide) (by decide) ?_
  intro w1 c hs
  have hw := newBase_ok w1
  have S := @vc_soundQ (newBase w1) _ hF (newPost Go.Proofs.Tryz.prog Go.Proofs.Tryz.f91 w1 c (fun y => y = fromN bs)) (RetN _ c (fun y => y = fromN bs)) (fun s a w β R h => ⟨newRet R h _ rfl, newRet R h _ rfl⟩)
  simp
  refine S 4 _ _ ?_
  simp
  refine J.asView hs (d := 6) (by rfl) ?_
  refine J.asView hs (d := 0) (by rfl) ?_
  refine S 60 _ _ ?_
  simp
  refine J.loop hw (fun i : Nat => ⟨[(0, .c (.d (vB bs))), (3, .c (.ref 64003 0)), (4, .c (.d (i64 i)))], [(64003, .var [.d (.v c), .d (i64 0), .d (u64D (fromH bs i))])]⟩)
    (fun i => i ≤ bs.length ∧ i ≤ 4096) (fun i => bs.length - i) 0 (by simp) (by simp [fromH]) ?_
  rintro i ⟨hi, hi4⟩
  refine S 12 _ _ ?_
  simp
  unfold Later
  refine ⟨fun hlt => ?_, fun hge => ?_⟩
  · by_cases h4 : (i : Int) < 4096
    · refine S 60 _ _ ?_
      simp [h4]
      refine J.dr hF mixed 13 [[], [], [1], [1, 2], [1, 2, 3], [1, 2, 3, 4], [], [], [6, 7], [6, 7, 8], [6, 7, 8, 9], [1, 2, 3, 4, 5, 6, 7, 8, 9, 10], [1, 2, 3, 4, 5, 6, 7, 8, 9, 10, 11], [0, 1, 2, 3, 4, 5, 6, 7, 8, 9, 10, 11, 12], [0, 1, 2, 3, 4, 5, 6, 7, 8, 9, 10, 11, 12, 13], [0, 1, 2, 3, 4, 5, 6, 7, 8, 9, 10, 11, 12, 13, 14]] [[22, 23, 24, 25, 26, 27, 28, 29, 30, 31, 32, 33, 34], [22, 23, 24, 25, 26, 27, 28, 29, 30, 31, 32, 33, 34], [22, 24, 25, 26, 27, 28, 29, 30, 31, 32, 33, 34], [22, 25, 26, 27, 28, 29, 30, 31, 32, 33, 34], [22, 26, 27, 28, 29, 30, 31, 32, 33, 34], [22, 27, 28, 29, 30, 31, 32, 33, 34], [22, 23, 24, 25, 26, 27, 28, 29, 30, 31, 32, 33, 34], [22, 23, 24, 25, 26, 27, 28, 29, 30, 31, 32, 33, 34], [22, 23, 24, 25, 26, 27, 30, 31, 32, 33, 34], [22, 23, 24, 25, 26, 27, 31, 32, 33, 34], [22, 23, 24, 25, 26, 27, 32, 33, 34], [22, 33, 34], [22, 34]] (by decide) ?_
      simp
      refine ⟨hlt, fun b' hb' => ?_⟩
      have hst := fromH_step hb'
      unfold hashS at hst
      refine S 60 _ _ ?_
      simp
      exact Nxt.mk (i + 1) ⟨hlt, by omega⟩ (by simp [wrapS (i := i) (n := bs.length) hlt (by omega), hst]) (by omega)
    · have : i = 4096 := by omega
      subst this
      refine S 60 _ _ ?_
      simp
      exact ⟨rfl, rfl⟩
  · have he : (0, fromH bs i) = fromN bs := by unfold fromN; rw [fromH_all (i := i) (j := 4096) hge (by omega)]
    refine S 60 _ _ ?_
    simp
    exact ⟨congrArg Prod.fst he, congrArg Prod.snd he⟩

/-- One of some numbers. -/
def pickN (bs : List UInt8) (x : Int × Int) (l : List Int) : Int × (Int × Int) := (gt l (nextN bs x l.length).1.toNat, (nextN bs x l.length).2)

theorem pick_ok (bs : List UInt8) (x : Int × Int) (l : List Int) (hx : SOK bs x) (hl : bs.length ≤ 1048576) (h1 : l ≠ []) (h2 : l.length ≤ 1048576) : CallS Go.Proofs.Tryz.prog 104 bs x [.one (vInts l)] (fun _ : Unit => True) (fun _ => .one (i64 (pickN bs x l).1)) (fun _ => (pickN bs x l).2) := by
  have hF := fnOk 12 [.tmp 4]
  refine callS hF 60 Go.Proofs.Tryz.func104 rfl rfl rfl (by decide) (by simp) rfl (by simp [D.isOwn]) ?_
  intro w1 g c hs
  have hw := srcBase_ok w1 g
  have S := @vc_soundQ (srcBase w1 g) _ hF (srcPost Go.Proofs.Tryz.prog Go.Proofs.Tryz.f104 w1 g c (fun _ : Unit => True) (fun _ => .one (i64 (pickN bs x l).1)) (fun _ => (pickN bs x l).2)) (RetS _ _ c (fun _ : Unit => True) (fun _ => .one (i64 (pickN bs x l).1)) (fun _ => (pickN bs x l).2)) (fun s a w β R h => ⟨srcRet hF.T R h _ rfl, srcRet hF.T R h _ rfl⟩)
  have c1 := next_ok bs x l.length hx hl
  obtain ⟨n1, n2, n3, _⟩ := nextN_ok (n := l.length) hx
  unfold pickN at S ⊢
  have h0 : 1 ≤ (l.length : Int) := by have := List.length_pos_iff.2 h1; omega
  have hg : l[(nextN bs x l.length).1.toNat]? = some (gt l (nextN bs x l.length).1.toNat) := by
    have hlt : (nextN bs x l.length).1.toNat < l.length := by have := n3 h0; omega
    unfold gt
    rw [List.getD_eq_getElem?_getD, List.getElem?_eq_getElem hlt]; rfl
  generalize nextN bs x l.length = y at *
  generalize gt l y.1.toNat = v at hg S ⊢
  simp
  refine CallW.src hs (by decide) (by rfl) (by simp) c1 (fun _ => by simp) (fun _ _ => S 60 _ _ ?_)
  simp
  exact ⟨⟨n2, n3 h0⟩, fun a ha => Option.some.inj (ha.symm.trans hg)⟩

/-- A prime. -/
def primeN (bs : List UInt8) (x : Int × Int) : Int × (Int × Int) := pickN bs x [2, 3, 5, 5, 7, 7, 11, 13]
theorem pickN_ok {bs : List UInt8} {x : Int × Int} {l : List Int} (h : SOK bs x) (h1 : l ≠ []) : SOK bs (pickN bs x l).2 ∧ (pickN bs x l).1 ∈ l := by
  obtain ⟨n1, n2, n3, _⟩ := nextN_ok (n := l.length) h
  have h0 : 1 ≤ (l.length : Int) := by have := List.length_pos_iff.2 h1; omega
  refine ⟨n1, ?_⟩
  have hlt : (nextN bs x l.length).1.toNat < l.length := by have := n3 h0; omega
  show gt l (nextN bs x l.length).1.toNat ∈ l
  unfold gt
  rw [List.getD_eq_getElem?_getD, List.getElem?_eq_getElem hlt]
  exact List.getElem_mem hlt

theorem drawPrime_ok (bs : List UInt8) (x : Int × Int) (hx : SOK bs x) (hl : bs.length ≤ 1048576) : CallS Go.Proofs.Tryz.prog 101 bs x [] (fun _ : Unit => True) (fun _ => .one (i64 (primeN bs x).1)) (fun _ => (primeN bs x).2) := by
  have hF := fnOk 6 [.tmp 2]
  refine callS hF 60 Go.Proofs.Tryz.func101 rfl rfl rfl (by decide) (by simp) rfl (by simp [D.isOwn]) ?_
  intro w1 g c hs
  have hw := srcBase_ok w1 g
  have S := @vc_soundQ (srcBase w1 g) _ hF (srcPost Go.Proofs.Tryz.prog Go.Proofs.Tryz.f101 w1 g c (fun _ : Unit => True) (fun _ => .one (i64 (primeN bs x).1)) (fun _ => (primeN bs x).2)) (RetS _ _ c (fun _ : Unit => True) (fun _ => .one (i64 (primeN bs x).1)) (fun _ => (primeN bs x).2)) (fun s a w β R h => ⟨srcRet hF.T R h _ rfl, srcRet hF.T R h _ rfl⟩)
  have c1 := pick_ok bs x [2, 3, 5, 5, 7, 7, 11, 13] hx hl (by simp) (by simp)
  unfold primeN at S ⊢
  generalize pickN bs x [2, 3, 5, 5, 7, 7, 11, 13] = y at *
  simp
  refine CallW.src hs (by decide) (by rfl) (by simp) c1 (fun _ => by simp) (fun _ _ => S 60 _ _ ?_)
  simp
theorem primeN_ok {bs : List UInt8} {x : Int × Int} (h : SOK bs x) : SOK bs (primeN bs x).2 ∧ Pr (primeN bs x).1 := by
  obtain ⟨h1, h2⟩ := pickN_ok (l := [2, 3, 5, 5, 7, 7, 11, 13]) h (by simp)
  refine ⟨h1, ?_⟩
  show Pr (pickN bs x [2, 3, 5, 5, 7, 7, 11, 13]).1
  generalize (pickN bs x [2, 3, 5, 5, 7, 7, 11, 13]).1 = v at h2
  unfold Pr
  simp at h2
  omega

/-- A number near a range. -/
def nearN (bs : List UInt8) (x : Int × Int) (m : Int) : Int × (Int × Int) :=
  if (nextN bs x 14).1 = 0 then pickN bs (nextN bs x 14).2 [-1, m + 1, 1099511627776, -4611686018427387904] else nextN bs (nextN bs x 14).2 (m + 1)
theorem nearN_ok {bs : List UInt8} {x : Int × Int} {m : Int} (h : SOK bs x) : SOK bs (nearN bs x m).2 ∧ ((nearN bs x m).1 ∈ [-1, m + 1, 1099511627776, -4611686018427387904] ∨ 0 ≤ (nearN bs x m).1 ∧ ((nearN bs x m).1 ≤ m ∨ (nearN bs x m).1 = 0)) := by
  obtain ⟨n1, _⟩ := nextN_ok (n := 14) h
  unfold nearN
  split
  · obtain ⟨h1, h2⟩ := pickN_ok (l := [-1, m + 1, 1099511627776, -4611686018427387904]) n1 (by simp)
    exact ⟨h1, .inl h2⟩
  · obtain ⟨h1, h2, h3, h4⟩ := nextN_ok (n := m + 1) n1
    refine ⟨h1, .inr ⟨h2, ?_⟩⟩
    by_cases hm : 1 ≤ m + 1
    · have := h3 hm; omega
    · exact .inr (h4 (by omega))

theorem near_ok (bs : List UInt8) (x : Int × Int) (m : Int) (hx : SOK bs x) (hl : bs.length ≤ 1048576) (hm : 0 ≤ m) (hm2 : m ≤ 1000000000000) : CallS Go.Proofs.Tryz.prog 178 bs x [.one (i64 m)] (fun _ : Unit => True) (fun _ => .one (i64 (nearN bs x m).1)) (fun _ => (nearN bs x m).2) := by
  have hF := fnOk 17 [.tmp 4]
  refine callS hF 60 Go.Proofs.Tryz.func178 rfl rfl rfl (by decide) (by simp) rfl (by simp [D.isOwn]) ?_
  intro w1 g c hs
  have hw := srcBase_ok w1 g
  have S := @vc_soundQ (srcBase w1 g) _ hF (srcPost Go.Proofs.Tryz.prog Go.Proofs.Tryz.f178 w1 g c (fun _ : Unit => True) (fun _ => .one (i64 (nearN bs x m).1)) (fun _ => (nearN bs x m).2)) (RetS _ _ c (fun _ : Unit => True) (fun _ => .one (i64 (nearN bs x m).1)) (fun _ => (nearN bs x m).2)) (fun s a w β R h => ⟨srcRet hF.T R h _ rfl, srcRet hF.T R h _ rfl⟩)
  have c1 := next_ok bs x 14 hx hl
  obtain ⟨n1, _⟩ := nextN_ok (n := 14) hx
  have c2 := pick_ok bs (nextN bs x 14).2 [-1, m + 1, 1099511627776, -4611686018427387904] n1 hl (by simp) (by simp)
  have c3 := next_ok bs (nextN bs x 14).2 (m + 1) n1 hl
  have w1' : IntKind.i64.wrap (m + 1) = m + 1 := wrap64 (by omega) (by omega)
  unfold nearN at S ⊢
  generalize nextN bs x 14 = y at *
  generalize pickN bs y.2 [-1, m + 1, 1099511627776, -4611686018427387904] = z at *
  generalize nextN bs y.2 (m + 1) = u at *
  by_cases h0 : y.1 = 0
  · rw [if_pos h0] at S ⊢
    simp
    refine CallW.src hs (by decide) (by rfl) (by simp) c1 (fun _ => by simp) (fun _ _ => S 60 _ _ ?_)
    simp [h0, w1']
    refine CallW.src hs (by decide) (by rfl) (by simp) c2 (fun _ => by simp) (fun _ _ => S 60 _ _ ?_)
    simp
  · rw [if_neg h0] at S ⊢
    simp
    refine CallW.src hs (by decide) (by rfl) (by simp) c1 (fun _ => by simp) (fun _ _ => S 60 _ _ ?_)
    simp [h0, w1']
    refine CallW.src hs (by decide) (by rfl) (by simp) c3 (fun _ => by simp) (fun _ _ => S 60 _ _ ?_)
    simp
end Go.Sm
