/- Towards the rows of this seat: what the functions do, as contracts over plain data. -/
import Derived.Test.YtemedeiolhgoeaaGreatPk48
import Derived.Test.YtemedeiolhgoeaaGreatPk10
import Derived.Test.YtemedeiolhgoeaaGreatPk47
import Derived.Test.YtemedeiolhgoeaaGreatPk2
import Derived.Test.YtemedeiolhgoeaaGreatPk3
namespace Go.Sm
open Go.RowKit

def rowD (bs : List UInt8) (p : Int) : Nat → List Int → Int × Int → List Int × (Int × Int)
  | 0, r, x => (r, x)
  | n + 1, r, x => rowD bs p n (r ++ [(nextN bs x p).1 * (nextN bs (nextN bs x p).2 2).1]) (nextN bs (nextN bs x p).2 2).2
def rowsD (bs : List UInt8) (p : Int) (n : Nat) : Nat → List (List Int) → Int × Int → List (List Int) × (Int × Int)
  | 0, L, x => (L, x)
  | k + 1, L, x => rowsD bs p n k (L ++ [(rowD bs p n [] x).1]) (rowD bs p n [] x).2
def drawRowsD (bs : List UInt8) (p : Int) (n : Nat) (x : Int × Int) : List (List Int) × (Int × Int) :=
  rowsD bs p n (nextN bs x (min (n : Int) 4 + 1)).1.toNat [] (nextN bs x (min (n : Int) 4 + 1)).2

theorem next2 {bs : List UInt8} {x : Int × Int} {p : Int} (hx : SOK bs x) (hp : 1 ≤ p) : SOK bs (nextN bs (nextN bs x p).2 2).2 ∧ 0 ≤ (nextN bs x p).1 * (nextN bs (nextN bs x p).2 2).1 ∧ (nextN bs x p).1 * (nextN bs (nextN bs x p).2 2).1 < p := by
  obtain ⟨a1, a2, a3, _⟩ := nextN_ok (n := p) hx
  obtain ⟨b1, b2, b3, _⟩ := nextN_ok (n := 2) a1
  have a3 := a3 hp
  have b3 := b3 (by omega)
  refine ⟨b1, ?_⟩
  have : (nextN bs (nextN bs x p).2 2).1 = 0 ∨ (nextN bs (nextN bs x p).2 2).1 = 1 := by omega
  rcases this with h | h <;> rw [h] <;> omega
theorem rowD_ok {bs : List UInt8} {p : Int} (hp : 1 ≤ p) : ∀ (n : Nat) {r : List Int} {x : Int × Int}, SOK bs x → (∀ v ∈ r, 0 ≤ v ∧ v < p) → SOK bs (rowD bs p n r x).2 ∧ RowOk p (r.length + n) (rowD bs p n r x).1
  | 0, r, x, hx, hr => ⟨hx, rfl, hr⟩
  | n + 1, r, x, hx, hr => by
    obtain ⟨h1, h2⟩ := next2 hx hp
    have := rowD_ok hp n (r := r ++ [(nextN bs x p).1 * (nextN bs (nextN bs x p).2 2).1]) h1 (fun v hv => by
      rcases List.mem_append.1 hv with h | h
      · exact hr v h
      · simp only [List.mem_singleton] at h; rw [h]; exact h2)
    rw [List.length_append, List.length_singleton, show r.length + 1 + n = r.length + (n + 1) by omega] at this
    exact this
theorem rowsD_ok {bs : List UInt8} {p : Int} (hp : 1 ≤ p) {n : Nat} : ∀ (k : Nat) {L : List (List Int)} {x : Int × Int}, SOK bs x → (∀ r ∈ L, RowOk p n r) → SOK bs (rowsD bs p n k L x).2 ∧ (rowsD bs p n k L x).1.length = L.length + k ∧ ∀ r ∈ (rowsD bs p n k L x).1, RowOk p n r
  | 0, L, x, hx, hL => ⟨hx, rfl, hL⟩
  | k + 1, L, x, hx, hL => by
    have h0 := rowD_ok hp n (r := []) hx (fun _ h => nomatch h)
    rw [List.length_nil, Nat.zero_add] at h0
    have := rowsD_ok hp k (L := L ++ [(rowD bs p n [] x).1]) h0.1 (fun r hr => by
      rcases List.mem_append.1 hr with h | h
      · exact hL r h
      · simp only [List.mem_singleton] at h; rw [h]; exact h0.2)
    rw [List.length_append, List.length_singleton, show L.length + 1 + k = L.length + (k + 1) by omega] at this
    exact this
theorem drawRowsD_ok {bs : List UInt8} {p : Int} {n : Nat} {x : Int × Int} (hx : SOK bs x) (hp : 1 ≤ p) : SOK bs (drawRowsD bs p n x).2 ∧ (drawRowsD bs p n x).1.length ≤ 4 ∧ ∀ r ∈ (drawRowsD bs p n x).1, RowOk p n r := by
  obtain ⟨a1, a2, a3, _⟩ := nextN_ok (n := min (n : Int) 4 + 1) hx
  have a3 := a3 (by omega)
  obtain ⟨b1, b2, b3⟩ := rowsD_ok hp (n := n) (nextN bs x (min (n : Int) 4 + 1)).1.toNat (L := []) a1 (fun _ h => nomatch h)
  refine ⟨b1, ?_, b3⟩
  have b2 : (drawRowsD bs p n x).1.length = 0 + (nextN bs x (min (n : Int) 4 + 1)).1.toNat := b2
  rw [b2]; omega

set_option maxHeartbeats 1000000 in
theorem l10DrawRows_ok (bs : List UInt8) (x : Int × Int) (p : Int) (n : Nat) (hx : SOK bs x) (hl : bs.length ≤ 1048576) (hp : 1 ≤ p ∧ p ≤ 13) (hn : n ≤ 1000) : CallS Go.Proofs.Tryz.prog 103 bs x [.one (i64 p), .one (i64 n)] (fun _ : Unit => True) (fun _ => .one (oIntss (drawRowsD bs p n x).1)) (fun _ => (drawRowsD bs p n x).2) := by
  have hF := fnOk 41 [.tmp 6]
  refine callS hF 60 Go.Proofs.Tryz.func103 rfl rfl rfl (by decide) (by simp) rfl (by simp [D.isOwn]) ?_
  intro w1 g c hs
  have hw := srcBase_ok w1 g
  have S := @vc_soundQ (srcBase w1 g) _ hF (srcPost Go.Proofs.Tryz.prog Go.Proofs.Tryz.f103 w1 g c (fun _ : Unit => True) (fun _ => .one (oIntss (drawRowsD bs p n x).1)) (fun _ => (drawRowsD bs p n x).2)) (RetS _ _ c (fun _ : Unit => True) (fun _ => .one (oIntss (drawRowsD bs p n x).1)) (fun _ => (drawRowsD bs p n x).2)) (fun s a w β R h => ⟨srcRet hF.T R h _ rfl, srcRet hF.T R h _ rfl⟩)
  have c1 := next_ok bs x (min (n : Int) 4 + 1) hx hl
  obtain ⟨n1, n2, n3, _⟩ := nextN_ok (n := min (n : Int) 4 + 1) hx
  have n3 := n3 (by omega)
  have hdr : drawRowsD bs p n x = rowsD bs p n (nextN bs x (min (n : Int) 4 + 1)).1.toNat [] (nextN bs x (min (n : Int) 4 + 1)).2 := rfl
  have hwm : IntKind.i64.wrap ((if (4 : Int) < (n : Int) then 4 else (n : Int)) + 1) = min (n : Int) 4 + 1 := by
    have : (if (4 : Int) < (n : Int) then 4 else (n : Int)) = min (n : Int) 4 := by split <;> omega
    rw [this]; exact wrap64 (by omega) (by omega)
  generalize drawRowsD bs p n x = R at hdr S ⊢
  generalize nextN bs x (min (n : Int) 4 + 1) = z at *
  obtain ⟨v, y⟩ := z
  simp only at c1 n1 n2 n3 hdr
  obtain ⟨K, rfl⟩ : ∃ K : Nat, v = K := ⟨v.toNat, by omega⟩
  rw [Int.toNat_natCast] at hdr
  simp [hwm]
  refine CallW.src hs (by decide) (by rfl) (by simp) c1 (fun _ => by simp) (fun _ _ => S 60 _ _ ?_)
  simp
  refine J.loop hw (fun q : Nat × List (List Int) × (Int × Int) => ⟨[(0, .c (.ref 0 0)), (1, .c (.d (i64 p))), (2, .c (.d (i64 n))), (7, .c (.ob 64007)), (8, .c (.d (i64 q.1)))],
      [(0, .var (srcCs c q.2.2)), (64007, .arr 43 1 (q.2.1.map fun xs => [oInts xs]))]⟩)
    (fun q => q.1 ≤ K ∧ q.2.1.length + q.1 = K ∧ SOK bs q.2.2 ∧ R = rowsD bs p n q.1 q.2.1 q.2.2) (fun q => q.1) (K, [], y) ⟨Nat.le_refl _, by simp, n1, hdr⟩ (by simp) ?_
  rintro ⟨k, L, x1⟩ ⟨hk, hkL, hx1, hR⟩
  simp only at hk hkL hx1 hR
  refine S 12 _ _ ?_
  simp
  unfold Later
  refine ⟨fun hk0 => ?_, fun hk0 => ?_⟩
  · obtain ⟨k, rfl⟩ : ∃ j, k = j + 1 := ⟨k - 1, by omega⟩
    have hwk : IntKind.i64.wrap (k : Int) = k := wrap64 (by omega) (by omega)
    rw [rowsD] at hR
    generalize hr1 : rowD bs p n [] x1 = r1 at hR
    refine S 60 _ _ ?_
    simp
    refine J.loop hw (fun q : Nat × List Int × (Int × Int) => ⟨[(0, .c (.ref 0 0)), (1, .c (.d (i64 p))), (2, .c (.d (i64 n))), (7, .c (.ob 64007)), (8, .c (.d (i64 ((k : Int) + 1)))), (9, .c (.ob 64009)), (10, .c (.d (i64 q.1)))],
        [(0, .var (srcCs c q.2.2)), (64007, .arr 43 1 (L.map fun xs => [oInts xs])), (64009, .arr 2 1 (ints q.2.1))]⟩)
      (fun q => q.1 ≤ n ∧ q.2.1.length = q.1 ∧ SOK bs q.2.2 ∧ rowD bs p (n - q.1) q.2.1 q.2.2 = r1) (fun q => n - q.1) (0, [], x1) ⟨by simp, rfl, hx1, hr1⟩ (by simp) ?_
    rintro ⟨i, r, x2⟩ ⟨hi, hri, hx2, hr⟩
    simp only at hi hri hx2 hr
    refine S 12 _ _ ?_
    simp
    unfold Later
    refine ⟨fun hlt => ?_, fun hge => ?_⟩
    · have c2 := next_ok bs x2 p hx2 hl
      obtain ⟨a1, a2, a3, _⟩ := nextN_ok (n := p) hx2
      have c3 := next_ok bs (nextN bs x2 p).2 2 a1 hl
      obtain ⟨b1, b2⟩ := next2 hx2 hp.1
      rw [show n - i = (n - (i + 1)) + 1 by omega, rowD] at hr
      generalize nextN bs x2 p = A at *
      obtain ⟨va, xa⟩ := A
      simp only at a1 a2 a3 b1 b2 c2 c3 hr
      generalize nextN bs xa 2 = B at *
      obtain ⟨vb, xb⟩ := B
      simp only at b1 b2 c3 hr
      have hwv : IntKind.i64.wrap (va * vb) = va * vb := wrap64 (by omega) (by omega)
      refine S 60 _ _ ?_
      simp
      refine CallW.src hs (by decide) (by rfl) (by simp) c2 (fun _ => by simp) (fun _ _ => S 60 _ _ ?_)
      simp
      refine CallW.src hs (by decide) (by rfl) (by simp) c3 (fun _ => by simp) (fun _ _ => S 60 _ _ ?_)
      simp [hwv]
      refine ⟨by omega, Nxt.mk (i + 1, r ++ [va * vb], xb) ⟨hlt, by simp [hri], b1, hr⟩ (by simp [wrapS (i := i) (n := n) hlt (by omega)]) (by simp only; omega)⟩
    · have : i = n := by omega
      subst this
      rw [Nat.sub_self, rowD] at hr
      subst hr
      refine S 60 _ _ ?_
      simp
      refine BsW.move hF (e := 43) (es := [[oInts r]]) (ks := [64009]) (by decide) rfl rfl rfl (by simp) (by simp) rfl (by decide) (by decide) (by simp) ?_
      refine S 60 _ _ ?_
      simp
      exact ⟨by omega, Nxt.mk (k, L ++ [r], x2) ⟨by simp only; omega, by simp; omega, hx2, hR⟩ (by simp [hwk]) (by simp only; omega)⟩
  · subst hk0
    rw [rowsD] at hR
    subst hR
    refine S 60 _ _ ?_
    simp
end Go.Sm

namespace Go.Sm
open Go.RowKit

/-- A code that is drawn. -/
structure Cd where
  p : Int
  l : Int
  rows : List (List Int)
abbrev Cd.o (c : Cd) : RV := oCode c.p c.l c.rows
abbrev Cd.v (c : Cd) : RV := vCode c.p c.l c.rows
def namN (v : Int) : ByteArray := if v = 0 then sRepeat else if v = 1 then sEven else if v = 2 then sAll else sZero
theorem namN_some (p : Int) (n : Nat) (v : Int) : ∃ E, namE p n (namN v) = some E := by
  unfold namN
  split
  · exact ⟨_, rfl⟩
  · split
    · exact ⟨_, rfl⟩
    · split
      · exact ⟨_, rfl⟩
      · exact ⟨_, rfl⟩
def lenD (bs : List UInt8) (x : Int × Int) : Int × (Int × Int) := pickN bs (nearN bs x 10).2 [1, 2, 3, 4, 4, 5, 6, (nearN bs x 10).1]
def cutD (v : Int) : Int := min (max v 1) 11
def dOf (bs : List UInt8) (x : Int × Int) (p : Int) : Cd × (Int × Int) :=
  if (nextN bs (lenD bs x).2 4).1 = 0 then
    (⟨p, cutD (lenD bs x).1, (namE p (cutD (lenD bs x).1).toNat (namN (nextN bs (nextN bs (lenD bs x).2 4).2 4).1)).getD []⟩, (nextN bs (nextN bs (lenD bs x).2 4).2 4).2)
  else (⟨p, cutD (lenD bs x).1, echL p (drawRowsD bs p (cutD (lenD bs x).1).toNat (nextN bs (lenD bs x).2 4).2).1⟩, (drawRowsD bs p (cutD (lenD bs x).1).toNat (nextN bs (lenD bs x).2 4).2).2)
/-- A code for a prime, of length 11 at most. -/
def CdOk (c : Cd) : Prop := Pr c.p ∧ (1 ≤ c.l ∧ c.l ≤ 11) ∧ c.rows.length ≤ 100 ∧ ∀ r ∈ c.rows, RowOk c.p c.l.toNat r
theorem lenD_ok {bs : List UInt8} {x : Int × Int} (hx : SOK bs x) : SOK bs (lenD bs x).2 := by
  obtain ⟨h1, _⟩ := nearN_ok (m := 10) hx
  exact (pickN_ok h1 (by simp)).1
theorem dual_len {p : Int} {n : Nat} (hp : Pr p) {rows : List (List Int)} (hr : ∀ r ∈ rows, RowOk p n r) : (dualL p n rows).length ≤ n := by
  have hpp := prPos hp
  obtain ⟨-, k3, -⟩ := dual_rows hp hr
  have h0 := (ech_facts hp k3).1
  have h1 := kerP_length rows.length (echL p (longs (colsR n rows).length 0 (colsR n rows)))
  have h2 := (ech_facts hp (longs_row (p := p) (m := (colsR n rows).length) (i := 0) hpp.1 (colsR_row (by omega) hr))).1
  rw [longs_length, colsR_length] at h2
  unfold kerP at h1
  unfold dualL
  unfold kerS at h0 ⊢
  rw [colsR_length] at h1 h0 ⊢
  omega
theorem namE_rows {p : Int} {n : Nat} (hp : Pr p) {s : ByteArray} {E : List (List Int)} (hn : n ≤ 100) (h : namE p n s = some E) : E.length ≤ 100 ∧ ∀ r ∈ E, RowOk p n r := by
  have hpp := prPos hp
  have h1 := ech_facts hp (one_rows hpp.1 n)
  have hk : ∀ {rows : List (List Int)}, (∀ r ∈ rows, RowOk p n r) → (dualL p n rows).length ≤ 100 ∧ ∀ r ∈ dualL p n rows, RowOk p n r := fun {rows} hr =>
    ⟨Nat.le_trans (dual_len hp hr) hn, (ech_facts hp (dual_rows hp hr).2.1).2⟩
  unfold namE at h
  split at h
  · simp only [Option.some.injEq] at h; subst h
    exact ⟨by have := h1.1; simp at this; omega, h1.2⟩
  · split at h
    · simp only [Option.some.injEq] at h; subst h
      exact hk h1.2
    · split at h
      · simp only [Option.some.injEq] at h; subst h
        have := ech_facts hp (unitsL_row hpp.1 n)
        exact ⟨by have h3 : (unitsL n).length = n := (by simp [unitsL]); omega, this.2⟩
      · split at h
        · simp only [Option.some.injEq] at h; subst h
          exact ⟨by simp, fun _ h => nomatch h⟩
        · cases h
theorem cutD_range (v : Int) : 1 ≤ cutD v ∧ cutD v ≤ 11 := by unfold cutD; omega
theorem dOf_ok {bs : List UInt8} {x : Int × Int} {p : Int} (hx : SOK bs x) (hp : Pr p) : SOK bs (dOf bs x p).2 ∧ CdOk (dOf bs x p).1 := by
  have hpp := prPos hp
  have h1 := lenD_ok hx
  have h2 := cutD_range (lenD bs x).1
  obtain ⟨a1, _⟩ := nextN_ok (n := 4) h1
  obtain ⟨b1, _⟩ := nextN_ok (n := 4) a1
  unfold dOf
  split
  · refine ⟨b1, hp, h2, ?_⟩
    obtain ⟨E, hE⟩ := namN_some p (cutD (lenD bs x).1).toNat (nextN bs (nextN bs (lenD bs x).2 4).2 4).1
    simp only [hE, Option.getD_some]
    exact namE_rows hp (by omega) hE
  · obtain ⟨r1, r2, r3⟩ := drawRowsD_ok (n := (cutD (lenD bs x).1).toNat) a1 (show 1 ≤ p by omega)
    refine ⟨r1, hp, h2, ?_⟩
    have := ech_facts hp r3
    exact ⟨by simp only; omega, this.2⟩

set_option maxHeartbeats 1000000 in
theorem l10DrawOf_ok (bs : List UInt8) (x : Int × Int) (p : Int) (hx : SOK bs x) (hl : bs.length ≤ 1048576) (hp : Pr p) : CallS Go.Proofs.Tryz.prog 118 bs x [.one (i64 p)] (fun _ : Unit => True) (fun _ => oCode (dOf bs x p).1.p (dOf bs x p).1.l (dOf bs x p).1.rows) (fun _ => (dOf bs x p).2) := by
  have hF := fnOk 38 [.cell 4 26]
  refine callS hF 60 Go.Proofs.Tryz.func118 rfl rfl rfl (by decide) (by simp) rfl (by simp [D.isOwn]) ?_
  intro w1 g c hs
  have hw := srcBase_ok w1 g
  have S := @vc_soundQ (srcBase w1 g) _ hF (srcPost Go.Proofs.Tryz.prog Go.Proofs.Tryz.f118 w1 g c (fun _ : Unit => True) (fun _ => oCode (dOf bs x p).1.p (dOf bs x p).1.l (dOf bs x p).1.rows) (fun _ => (dOf bs x p).2)) (RetS _ _ c (fun _ : Unit => True) (fun _ => oCode (dOf bs x p).1.p (dOf bs x p).1.l (dOf bs x p).1.rows) (fun _ => (dOf bs x p).2)) (fun s a w β R h => ⟨srcRet hF.T R h _ rfl, srcRet hF.T R h _ rfl⟩)
  have hpp := prPos hp
  have c1 := near_ok bs x 10 hx hl (by omega) (by omega)
  have s1 := (nearN_ok (m := 10) hx).1
  have c2 := pick_ok bs (nearN bs x 10).2 [1, 2, 3, 4, 4, 5, 6, (nearN bs x 10).1] s1 hl (by simp) (by simp)
  have s2 := lenD_ok hx
  have c3 := next_ok bs (lenD bs x).2 4 s2 hl
  obtain ⟨s3, t1, t2, _⟩ := nextN_ok (n := 4) s2
  have c4 := next_ok bs (nextN bs (lenD bs x).2 4).2 4 s3 hl
  obtain ⟨s4, t3, t4, _⟩ := nextN_ok (n := 4) s3
  have hn := cutD_range (lenD bs x).1
  obtain ⟨n, hn'⟩ : ∃ n : Nat, cutD (lenD bs x).1 = n := ⟨(cutD (lenD bs x).1).toNat, by omega⟩
  have c5 := l10DrawRows_ok bs (nextN bs (lenD bs x).2 4).2 p n s3 hl (by omega) (by omega)
  obtain ⟨r1, r2, r3⟩ := drawRowsD_ok (n := n) s3 (show 1 ≤ p by omega)
  have c6 := l10OfN_ok p n (drawRowsD bs p n (nextN bs (lenD bs x).2 4).2).1 hp (by omega) (by omega) r3
  have c7 := fun v => l10Named_ok (namN v) p n hp (by omega) (by omega)
  have e1 : pickN bs (nearN bs x 10).2 [1, 2, 3, 4, 4, 5, 6, (nearN bs x 10).1] = lenD bs x := rfl
  rw [e1] at c2
  have hm : (if (11 : Int) < (if (lenD bs x).1 < 1 then 1 else (lenD bs x).1) then 11 else (if (lenD bs x).1 < 1 then 1 else (lenD bs x).1)) = n := by
    rw [← hn']; unfold cutD; split <;> split <;> omega
  by_cases h0 : (nextN bs (lenD bs x).2 4).1 = 0
  · have e2 : dOf bs x p = (⟨p, n, (namE p n (namN (nextN bs (nextN bs (lenD bs x).2 4).2 4).1)).getD []⟩, (nextN bs (nextN bs (lenD bs x).2 4).2 4).2) := by unfold dOf; rw [if_pos h0, hn', Int.toNat_natCast]
    rw [e2] at S ⊢
    generalize lenD bs x = ld at *
    generalize nextN bs ld.2 4 = A at *
    generalize nextN bs A.2 4 = B at *
    have c7 := c7 B.1
    obtain ⟨E, hE⟩ := namN_some p n B.1
    simp only [hE, namB, Option.getD_some] at c7 S ⊢
    generalize nearN bs x 10 = nr at *
    have hv : B.1 = 0 ∨ B.1 = 1 ∨ B.1 = 2 ∨ B.1 = 3 := by omega
    have c7' : ∀ (v : Int) (q : ByteArray), B.1 = v → namN v = q → CallOK Proofs.Tryz.prog 121 [.one (st q), .one (i64 p), .one (i64 n)] (.tup [(true, [i64 p, i64 n, oIntss E]), (false, [bo true])]) := fun v q h1 h2 => by rw [← h2, ← h1]; exact c7
    simp
    refine CallW.src hs (by decide) (by rfl) (by simp) c1 (fun _ => by simp) (fun _ _ => S 60 _ _ ?_)
    simp
    refine CallW.src hs (by decide) (by rfl) (by simp) c2 (fun _ => by simp) (fun _ _ => S 60 _ _ ?_)
    simp [hm]
    refine CallW.src hs (by decide) (by rfl) (by simp) c3 (fun _ => by simp) (fun _ _ => S 60 _ _ ?_)
    simp [h0]
    refine CallW.src hs (by decide) (by rfl) (by simp) c4 (fun _ => by simp) (fun _ _ => S 60 _ _ ?_)
    rcases hv with hv | hv | hv | hv
    all_goals
      simp [hv]
      have c7 := c7' _ _ hv rfl
      refine CallW.ok (by decide) (by simp; rfl) c7 (by simp) (S 60 _ _ ?_)
      simp
  · have e2 : dOf bs x p = (⟨p, n, echL p (drawRowsD bs p n (nextN bs (lenD bs x).2 4).2).1⟩, (drawRowsD bs p n (nextN bs (lenD bs x).2 4).2).2) := by unfold dOf; rw [if_neg h0, hn', Int.toNat_natCast]
    rw [e2] at S ⊢
    generalize lenD bs x = ld at *
    generalize nextN bs ld.2 4 = A at *
    generalize drawRowsD bs p n A.2 = B at *
    generalize echL p B.1 = E at *
    generalize nearN bs x 10 = nr at *
    simp
    refine CallW.src hs (by decide) (by rfl) (by simp) c1 (fun _ => by simp) (fun _ _ => S 60 _ _ ?_)
    simp
    refine CallW.src hs (by decide) (by rfl) (by simp) c2 (fun _ => by simp) (fun _ _ => S 60 _ _ ?_)
    simp [hm]
    refine CallW.src hs (by decide) (by rfl) (by simp) c3 (fun _ => by simp) (fun _ _ => S 60 _ _ ?_)
    simp [h0]
    refine CallW.src hs (by decide) (by rfl) (by simp) c5 (fun _ => by simp) (fun _ _ => S 60 _ _ ?_)
    simp
    refine CallW.ok (by decide) (by simp) c6 (by simp) (S 60 _ _ ?_)
    simp
end Go.Sm

namespace Go.Sm
open Go.RowKit

def zerosL (l : Int) : List Int := List.replicate l.toNat 0
/-- What may be changed at a code. -/
def spD (bs : List UInt8) (c : Cd) (d : Int × (Int × Int)) : Cd × (Int × Int) :=
  if d.1 = 0 then (⟨c.p, (pickN bs d.2 [0, 11, c.l + 1]).1, c.rows⟩, (pickN bs d.2 [0, 11, c.l + 1]).2)
  else if d.1 = 1 then (⟨(pickN bs d.2 [0, 4, 2]).1, c.l, c.rows⟩, (pickN bs d.2 [0, 4, 2]).2)
  else if d.1 = 2 then (⟨c.p, c.l, zerosL c.l :: c.rows⟩, d.2)
  else if d.1 = 3 then (match c.rows with
    | [] => (c, d.2)
    | r :: L => (⟨c.p, c.l, r.set (nextN bs d.2 r.length).1.toNat (nextN bs (nextN bs d.2 r.length).2 3).1 :: L⟩, (nextN bs (nextN bs d.2 r.length).2 3).2))
  else (c, d.2)
def prD (bs : List UInt8) (x : Int × Int) : Int × (Int × Int) := pickN bs (primeN bs x).2 [2, 2, 3, 3, 5, (primeN bs x).1]
def dCode (bs : List UInt8) (x : Int × Int) : Cd × (Int × Int) := spD bs (dOf bs (prD bs x).2 (prD bs x).1).1 (nextN bs (dOf bs (prD bs x).2 (prD bs x).1).2 40)
/-- Something of the size of a code. -/
def CdS (c : Cd) : Prop := c.rows.length ≤ 101 ∧ (∀ r ∈ c.rows, r.length ≤ 11) ∧ (0 ≤ c.p ∧ c.p ≤ 13) ∧ 0 ≤ c.l ∧ c.l ≤ 12
theorem prD_ok {bs : List UInt8} {x : Int × Int} (hx : SOK bs x) : SOK bs (prD bs x).2 ∧ Pr (prD bs x).1 := by
  obtain ⟨h1, h2⟩ := primeN_ok hx
  obtain ⟨h3, h4⟩ := pickN_ok (l := [2, 2, 3, 3, 5, (primeN bs x).1]) h1 (by simp)
  refine ⟨h3, ?_⟩
  show Pr (pickN bs (primeN bs x).2 [2, 2, 3, 3, 5, (primeN bs x).1]).1
  generalize (pickN bs (primeN bs x).2 [2, 2, 3, 3, 5, (primeN bs x).1]).1 = v at h4
  unfold Pr at h2 ⊢
  simp at h4
  omega
theorem CdOk.s {c : Cd} (h : CdOk c) : CdS c := by
  obtain ⟨h1, h2, h3, h4⟩ := h
  have := prPos h1
  exact ⟨by omega, fun r hr => by rw [(h4 r hr).1]; omega, by omega, by omega⟩
theorem spD_ok {bs : List UInt8} {c : Cd} {d : Int × (Int × Int)} (hc : CdOk c) (hd : SOK bs d.2) : SOK bs (spD bs c d).2 ∧ CdS (spD bs c d).1 := by
  obtain ⟨s1, s2, s3, s4⟩ := hc.s
  unfold spD
  split
  · obtain ⟨h3, h4⟩ := pickN_ok (l := [0, 11, c.l + 1]) hd (by simp)
    refine ⟨h3, s1, s2, s3, ?_⟩
    generalize (pickN bs d.2 [0, 11, c.l + 1]).1 = v at h4
    have := hc.2.1
    simp at h4
    simp only
    omega
  · split
    · obtain ⟨h3, h4⟩ := pickN_ok (l := [0, 4, 2]) hd (by simp)
      refine ⟨h3, s1, s2, ?_, s4⟩
      generalize (pickN bs d.2 [0, 4, 2]).1 = v at h4
      simp at h4
      simp only
      omega
    · split
      · refine ⟨hd, by have := hc.2.2.1; simp only [List.length_cons]; omega, fun r hr => ?_, s3, s4⟩
        rcases List.mem_cons.1 hr with rfl | h
        · have := hc.2.1; simp only [zerosL, List.length_replicate]; omega
        · exact s2 r h
      · split
        · split
          · exact ⟨hd, hc.s⟩
          · rename_i r L e
            obtain ⟨a1, _⟩ := nextN_ok (n := r.length) hd
            obtain ⟨b1, _⟩ := nextN_ok (n := 3) a1
            rw [e] at s1 s2
            refine ⟨b1, s1, fun q hq => ?_, s3, s4⟩
            rcases List.mem_cons.1 hq with rfl | h
            · rw [List.length_set]; exact s2 r (List.mem_cons_self ..)
            · exact s2 q (List.mem_cons_of_mem _ h)
        · exact ⟨hd, hc.s⟩
theorem dCode_ok {bs : List UInt8} {x : Int × Int} (hx : SOK bs x) : SOK bs (dCode bs x).2 ∧ CdS (dCode bs x).1 := by
  obtain ⟨h1, h2⟩ := prD_ok hx
  obtain ⟨h3, h4⟩ := dOf_ok h1 h2
  exact spD_ok h4 (nextN_ok h3).1

set_option maxHeartbeats 1000000 in
theorem l10Draw_ok (bs : List UInt8) (x : Int × Int) (hx : SOK bs x) (hl : bs.length ≤ 1048576) : CallS Go.Proofs.Tryz.prog 90 bs x [] (fun _ : Unit => True) (fun _ => oCode (dCode bs x).1.p (dCode bs x).1.l (dCode bs x).1.rows) (fun _ => (dCode bs x).2) := by
  have hF := fnOk 66 [.cell 2 26]
  refine callS hF 60 Go.Proofs.Tryz.func90 rfl rfl rfl (by decide) (by simp) rfl (by simp [D.isOwn]) ?_
  intro w1 g c hs
  have hw := srcBase_ok w1 g
  have S := @vc_soundQ (srcBase w1 g) _ hF (srcPost Go.Proofs.Tryz.prog Go.Proofs.Tryz.f90 w1 g c (fun _ : Unit => True) (fun _ => oCode (dCode bs x).1.p (dCode bs x).1.l (dCode bs x).1.rows) (fun _ => (dCode bs x).2)) (RetS _ _ c (fun _ : Unit => True) (fun _ => oCode (dCode bs x).1.p (dCode bs x).1.l (dCode bs x).1.rows) (fun _ => (dCode bs x).2)) (fun s a w β R h => ⟨srcRet hF.T R h _ rfl, srcRet hF.T R h _ rfl⟩)
  have s1 := (primeN_ok hx).1
  have c1 := drawPrime_ok bs x hx hl
  have c2 := pick_ok bs (primeN bs x).2 [2, 2, 3, 3, 5, (primeN bs x).1] s1 hl (by simp) (by simp)
  obtain ⟨s2, hp⟩ := prD_ok hx
  have c3 := l10DrawOf_ok bs (prD bs x).2 (prD bs x).1 s2 hl hp
  obtain ⟨s3, hc⟩ := dOf_ok s2 hp
  have c4 := next_ok bs (dOf bs (prD bs x).2 (prD bs x).1).2 40 s3 hl
  obtain ⟨s4, v1, v2, _⟩ := nextN_ok (n := 40) s3
  have e0 : dCode bs x = spD bs (dOf bs (prD bs x).2 (prD bs x).1).1 (nextN bs (dOf bs (prD bs x).2 (prD bs x).1).2 40) := rfl
  have e1 : pickN bs (primeN bs x).2 [2, 2, 3, 3, 5, (primeN bs x).1] = prD bs x := rfl
  rw [e1] at c2
  rw [e0] at S ⊢
  generalize prD bs x = pr at *
  generalize primeN bs x = pm at *
  generalize dOf bs pr.2 pr.1 = C at *
  generalize nextN bs C.2 40 = D at *
  obtain ⟨⟨p, l, rows⟩, x3⟩ := C
  obtain ⟨dv, x4⟩ := D
  simp only at c3 c4 hc s3 s4 v1 v2 S ⊢
  obtain ⟨p1, p2, p3, p4⟩ := hc
  simp only at p1 p2 p3 p4
  have hpp := prPos p1
  have hwl : IntKind.i64.wrap (l + 1) = l + 1 := wrap64 (by omega) (by omega)
  simp
  refine CallW.src hs (by decide) (by rfl) (by simp) c1 (fun _ => by simp) (fun _ _ => S 60 _ _ ?_)
  simp
  refine CallW.src hs (by decide) (by rfl) (by simp) c2 (fun _ => by simp) (fun _ _ => S 60 _ _ ?_)
  simp
  refine CallW.src hs (by decide) (by rfl) (by simp) c3 (fun _ => by simp) (fun _ _ => S 60 _ _ ?_)
  simp
  refine CallW.src hs (by decide) (by rfl) (by simp) c4 (fun _ => by simp) (fun _ _ => ?_)
  by_cases h0 : dv = 0
  · subst h0
    have c5 := pick_ok bs x4 [0, 11, l + 1] s4 hl (by simp) (by simp)
    have e2 : spD bs ⟨p, l, rows⟩ (0, x4) = (⟨p, (pickN bs x4 [0, 11, l + 1]).1, rows⟩, (pickN bs x4 [0, 11, l + 1]).2) := rfl
    rw [e2] at S ⊢
    generalize pickN bs x4 [0, 11, l + 1] = z at *
    refine S 60 _ _ ?_
    simp [hwl]
    refine CallW.src hs (by decide) (by rfl) (by simp) c5 (fun _ => by simp) (fun _ _ => S 60 _ _ ?_)
    simp
  · by_cases h1 : dv = 1
    · subst h1
      have c5 := pick_ok bs x4 [0, 4, 2] s4 hl (by simp) (by simp)
      have e2 : spD bs ⟨p, l, rows⟩ (1, x4) = (⟨(pickN bs x4 [0, 4, 2]).1, l, rows⟩, (pickN bs x4 [0, 4, 2]).2) := rfl
      rw [e2] at S ⊢
      generalize pickN bs x4 [0, 4, 2] = z at *
      refine S 60 _ _ ?_
      simp
      refine CallW.src hs (by decide) (by rfl) (by simp) c5 (fun _ => by simp) (fun _ _ => S 60 _ _ ?_)
      simp
    · by_cases h2 : dv = 2
      · subst h2
        have e2 : spD bs ⟨p, l, rows⟩ (2, x4) = (⟨p, l, zerosL l :: rows⟩, x4) := rfl
        rw [e2] at S ⊢
        refine S 60 _ _ ?_
        simp
        refine J.dr3 hF mixed 6 [[], [0], [0, 1], [0, 1, 2], [], [4], [0, 1, 2, 3, 4, 5], [0, 1, 2, 3, 4, 5, 6], [0, 1, 2, 3, 4, 5, 6, 7]] [[31, 32, 33, 34, 35, 36], [32, 33, 34, 35, 36], [33, 34, 35, 36], [34, 35, 36], [31, 32, 33, 34, 35, 36], [31, 32, 33, 34, 36]] [[], [], [], [2112], [], []] [[], [], [], [], [2112], [2112]] [] [] (by decide) ?_
        simp
        refine ⟨by omega, DrB3.move hF (e := 43) (es := [[oInts (zerosL l)]]) (ks := [2112]) (by rfl) (by decide) rfl rfl rfl (by simp [zerosL]) (by simp) rfl (by decide) (by decide) (by simp) (by simp) ?_⟩
        simp
        have hall : rows.all (fun _ => false) = decide (rows = []) := by cases rows <;> simp
        by_cases hr0 : rows = []
        · subst hr0
          refine S 60 _ _ ?_
          simp
        · rw [decide_eq_false hr0] at hall
          refine S 60 _ _ ?_
          simp [hall]
          omega
      · by_cases h3 : dv = 3
        · subst h3
          cases rows with
          | nil =>
            have e2 : spD bs ⟨p, l, []⟩ (3, x4) = (⟨p, l, []⟩, x4) := rfl
            rw [e2] at S ⊢
            refine S 60 _ _ ?_
            simp
          | cons r L =>
            obtain ⟨rl, hrl⟩ : ∃ n : Nat, r.length = n := ⟨_, rfl⟩
            have hr0 := p4 r (List.mem_cons_self ..)
            have c5 := next_ok bs x4 r.length s4 hl
            obtain ⟨s5, u1, u2, _⟩ := nextN_ok (n := r.length) s4
            have c6 := next_ok bs (nextN bs x4 r.length).2 3 s5 hl
            have c7 := l01Own_ok r (by rw [hr0.1]; omega)
            have e2 : spD bs ⟨p, l, r :: L⟩ (3, x4) = (⟨p, l, r.set (nextN bs x4 r.length).1.toNat (nextN bs (nextN bs x4 r.length).2 3).1 :: L⟩, (nextN bs (nextN bs x4 r.length).2 3).2) := rfl
            rw [e2] at S ⊢
            have u2 := u2 (by rw [hr0.1]; omega)
            generalize nextN bs x4 r.length = A at *
            generalize nextN bs A.2 3 = B at *
            refine S 60 _ _ ?_
            simp
            refine CallW.ok (by decide) (by simp) c7 (by simp) (S 60 _ _ ?_)
            simp
            refine CallW.src hs (by decide) (by rfl) (by simp) c5 (fun _ => by simp) (fun _ _ => S 60 _ _ ?_)
            simp
            refine CallW.src hs (by decide) (by rfl) (by simp) c6 (fun _ => by simp) (fun _ _ => S 60 _ _ ?_)
            simp
            have e3 : (List.map (fun i => [D.v (Value.int IntKind.i64 i)]) r).set A.fst.toNat [i64 B.fst] = ints (r.set A.fst.toNat B.fst) := by simp
            rw [e3]
            generalize r.set A.fst.toNat B.fst = r' at *
            refine ⟨⟨u1, u2⟩, by omega, ?_⟩
            refine BsW.move hF (e := 43) (es := [[oInts r']]) (ks := [3136]) (by decide) rfl rfl rfl (by simp) (by simp) rfl (by decide) (by decide) (by simp) ?_
            refine S 60 _ _ ?_
            simp
            have p3 : L.length + 1 ≤ 100 := p3
            refine ⟨by omega, OpW.appWin (e := 43) (e3 := 43) (t := 24) (k1 := 3776) (k3 := 706) (lo := 1) (n := L.length) (xs := [[oInts r']]) (ys := [oInts r] :: L.map fun xs => [oInts xs]) rfl rfl rfl rfl rfl (by decide) hF.T rfl rfl rfl rfl (by simp) (by simp) (by simp) (by simp) (by decide) (by simp) (by simp; omega) (by simp; omega) (S 60 _ _ ?_)⟩
            have htk : List.take L.length (L.map fun xs => [oInts xs]) = L.map fun xs => [oInts xs] := List.take_of_length_le (by simp)
            simp [htk]
        · have e2 : spD bs ⟨p, l, rows⟩ (dv, x4) = (⟨p, l, rows⟩, x4) := by unfold spD; rw [if_neg h0, if_neg h1, if_neg h2, if_neg h3]
          rw [e2] at S ⊢
          refine S 60 _ _ ?_
          simp [h0, h1, h2, h3]
end Go.Sm
