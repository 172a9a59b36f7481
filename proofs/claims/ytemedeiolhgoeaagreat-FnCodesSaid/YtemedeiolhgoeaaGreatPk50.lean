/- Towards the rows of this seat: what the functions do, as contracts over plain data. -/
import Derived.Test.YtemedeiolhgoeaaGreatPk49
import Derived.Test.YtemedeiolhgoeaaGreatPk47
namespace Go.Sm
open Go.RowKit

def drawC (bs : List UInt8) : Cd := (dCode bs (fromN bs)).1
theorem drawC_ok (bs : List UInt8) : CdS (drawC bs) := (dCode_ok (fromN_ok bs)).2

theorem DrawDualCode_ok (bs : List UInt8) (hl : bs.length ≤ 1048576) : CallOK Go.Proofs.Tryz.prog 8 [.one (vB bs)] (oCode (drawC bs).p (drawC bs).l (drawC bs).rows) := by
  have hF := fnOk 6 [.cell 2 26]
  refine callOK hF 60 Go.Proofs.Tryz.func8 rfl rfl rfl (by decide) (by simp) rfl ?_
  intro w0 hw
  have S := @vc_sound w0 _ hF ⟨(oCode (drawC bs).p (drawC bs).l (drawC bs).rows), []⟩ Go.Proofs.Tryz.f8 rfl (by simp)
  have c1 := from_ok bs hl
  have c2 := l10Draw_ok bs (fromN bs) (fromN_ok bs) hl
  unfold drawC at S ⊢
  generalize dCode bs (fromN bs) = C at *
  obtain ⟨⟨p, l, rows⟩, x⟩ := C
  simp only at c2 S ⊢
  simp
  refine CallW.newS (by decide) c1 (by simp) fun c y hs hy => ?_
  subst hy
  refine S 60 _ _ ?_
  simp
  refine CallW.src hs (by decide) (by rfl) (by simp) c2 (fun _ => by simp) (fun _ _ => S 60 _ _ ?_)
  simp

theorem DrawExtendCode_ok (bs : List UInt8) (hl : bs.length ≤ 1048576) : CallOK Go.Proofs.Tryz.prog 22 [.one (vB bs)] (oCode (drawC bs).p (drawC bs).l (drawC bs).rows) := by
  have hF := fnOk 6 [.cell 2 26]
  refine callOK hF 60 Go.Proofs.Tryz.func22 rfl rfl rfl (by decide) (by simp) rfl ?_
  intro w0 hw
  have S := @vc_sound w0 _ hF ⟨(oCode (drawC bs).p (drawC bs).l (drawC bs).rows), []⟩ Go.Proofs.Tryz.f22 rfl (by simp)
  have c1 := from_ok bs hl
  have c2 := l10Draw_ok bs (fromN bs) (fromN_ok bs) hl
  unfold drawC at S ⊢
  generalize dCode bs (fromN bs) = C at *
  obtain ⟨⟨p, l, rows⟩, x⟩ := C
  simp only at c2 S ⊢
  simp
  refine CallW.newS (by decide) c1 (by simp) fun c y hs hy => ?_
  subst hy
  refine S 60 _ _ ?_
  simp
  refine CallW.src hs (by decide) (by rfl) (by simp) c2 (fun _ => by simp) (fun _ _ => S 60 _ _ ?_)
  simp

/-- A code and the number of a letter. -/
def punD (bs : List UInt8) : Cd × Int :=
  let a := dCode bs (fromN bs)
  let b := nextN bs a.2 16
  (a.1, (nextN bs b.2 (max a.1.l 1 + b.1.tdiv 15)).1)
theorem punD_ok (bs : List UInt8) : CdS (punD bs).1 ∧ 0 ≤ (punD bs).2 ∧ (punD bs).2 ≤ 12 := by
  obtain ⟨h1, h2⟩ := dCode_ok (fromN_ok bs)
  obtain ⟨h3, h4, h5, _⟩ := nextN_ok (n := 16) h1
  obtain ⟨h6, h7, h8, h9⟩ := nextN_ok (n := max (dCode bs (fromN bs)).1.l 1 + (nextN bs (dCode bs (fromN bs)).2 16).1.tdiv 15) h3
  have h5 := h5 (by omega)
  refine ⟨h2, h7, ?_⟩
  have hd : (nextN bs (dCode bs (fromN bs)).2 16).1.tdiv 15 ≤ 1 := by
    rw [Int.tdiv_eq_ediv_of_nonneg h4]; omega
  have h10 := h2.2.2.2
  show (nextN bs _ _).1 ≤ 12
  by_cases h : 1 ≤ max (dCode bs (fromN bs)).1.l 1 + (nextN bs (dCode bs (fromN bs)).2 16).1.tdiv 15
  · have := h8 h; omega
  · have := h9 (by omega); omega

set_option maxHeartbeats 1000000 in
theorem DrawPunctureCode_ok (bs : List UInt8) (hl : bs.length ≤ 1048576) : CallOK Go.Proofs.Tryz.prog 108 [.one (vB bs)] (.tup [(true, [i64 (punD bs).1.p, i64 (punD bs).1.l, oIntss (punD bs).1.rows]), (false, [i64 (punD bs).2])]) := by
  have hF := fnOk 20 [.cell 2 26, .tmp 3]
  refine callOK hF 60 Go.Proofs.Tryz.func108 rfl rfl rfl (by decide) (by simp) rfl ?_
  intro w0 hw
  have S := @vc_sound w0 _ hF ⟨(.tup [(true, [i64 (punD bs).1.p, i64 (punD bs).1.l, oIntss (punD bs).1.rows]), (false, [i64 (punD bs).2])]), []⟩ Go.Proofs.Tryz.f108 rfl (by simp)
  have c1 := from_ok bs hl
  have c2 := l10Draw_ok bs (fromN bs) (fromN_ok bs) hl
  obtain ⟨h1, h2⟩ := dCode_ok (fromN_ok bs)
  have c3 := next_ok bs (dCode bs (fromN bs)).2 16 h1 hl
  obtain ⟨h3, h4, h5, _⟩ := nextN_ok (n := 16) h1
  have h5 := h5 (by omega)
  have e : punD bs = ((dCode bs (fromN bs)).1, (nextN bs (nextN bs (dCode bs (fromN bs)).2 16).2 (max (dCode bs (fromN bs)).1.l 1 + (nextN bs (dCode bs (fromN bs)).2 16).1.tdiv 15)).1) := rfl
  have c4 := next_ok bs (nextN bs (dCode bs (fromN bs)).2 16).2 (max (dCode bs (fromN bs)).1.l 1 + (nextN bs (dCode bs (fromN bs)).2 16).1.tdiv 15) h3 hl
  rw [e] at S ⊢
  generalize dCode bs (fromN bs) = C at *
  obtain ⟨⟨p, l, rows⟩, x⟩ := C
  generalize nextN bs x 16 = B at *
  obtain ⟨bv, y⟩ := B
  have h10 := h2.2.2.2
  simp only at c2 c3 c4 h1 h3 h4 h5 h10 S ⊢
  have hd : 0 ≤ bv.tdiv 15 ∧ bv.tdiv 15 ≤ 1 := by
    rw [Int.tdiv_eq_ediv_of_nonneg h4]; omega
  have hm : (if l < 1 then 1 else l) = max l 1 := by split <;> omega
  have hw1 : IntKind.i64.wrap (bv.tdiv 15) = bv.tdiv 15 := wrap64 (by omega) (by omega)
  have hw2 : IntKind.i64.wrap (max l 1 + bv.tdiv 15) = max l 1 + bv.tdiv 15 := wrap64 (by omega) (by omega)
  generalize nextN bs y (max l 1 + bv.tdiv 15) = D at *
  simp
  refine CallW.newS (by decide) c1 (by simp) fun c y hs hy => ?_
  subst hy
  refine S 60 _ _ ?_
  simp
  refine CallW.src hs (by decide) (by rfl) (by simp) c2 (fun _ => by simp) (fun _ _ => S 60 _ _ ?_)
  simp
  refine J.dr4 hF mixed 10 [[], [], [], [2], [2, 3], [], [5], [5, 6], [2, 3, 4, 5, 6, 7], [1, 2, 3, 4, 5, 6, 7, 8], [0, 1, 2, 3, 4, 5, 6, 7, 8, 9], [0, 1, 2, 3, 4, 5, 6, 7, 8, 9, 10]] [[10, 11, 12, 13, 14, 15, 16, 17, 18, 19], [10, 11, 12, 13, 14, 15, 16, 17, 18, 19], [10, 11, 12, 13, 14, 15, 16, 17, 18, 19], [10, 11, 13, 14, 15, 16, 17, 18, 19], [10, 11, 14, 15, 16, 17, 18, 19], [10, 11, 12, 13, 14, 15, 16, 17, 18, 19], [10, 11, 12, 13, 14, 16, 17, 18, 19], [10, 11, 12, 13, 14, 17, 18, 19], [10, 11, 18, 19], [10, 19]] [[], [], [], [], [], [], [448], [], [], [448]] [[448, 448], [448], [448], [448], [448], [], [], [], [], []] [] [] (by decide) ?_
  simp
  refine DrC4.src hF hs (by decide) (by rfl) (by rfl) (by simp) c3 (by simp) (by simp) (by simp) ?_
  simp [hm, hw1, hw2]
  refine DrC4.src hF hs (by decide) (by rfl) (by rfl) (by simp) c4 (by simp) (by simp) (by simp) ?_
  simp
  refine S 60 _ _ ?_
  simp

theorem DrawShortenCode_ok (bs : List UInt8) (hl : bs.length ≤ 1048576) : CallOK Go.Proofs.Tryz.prog 17 [.one (vB bs)] (.tup [(true, [i64 (punD bs).1.p, i64 (punD bs).1.l, oIntss (punD bs).1.rows]), (false, [i64 (punD bs).2])]) := by
  have hF := fnOk 8 [.cell 2 26, .tmp 3]
  refine callOK hF 60 Go.Proofs.Tryz.func17 rfl rfl rfl (by decide) (by simp) rfl ?_
  intro w0 hw
  have S := @vc_sound w0 _ hF ⟨(.tup [(true, [i64 (punD bs).1.p, i64 (punD bs).1.l, oIntss (punD bs).1.rows]), (false, [i64 (punD bs).2])]), []⟩ Go.Proofs.Tryz.f17 rfl (by simp)
  have c1 := DrawPunctureCode_ok bs hl
  generalize punD bs = C at *
  obtain ⟨⟨p, l, rows⟩, x⟩ := C
  simp only at c1 S ⊢
  simp
  refine CallW.ok (by decide) (by simp) c1 (by simp) (S 60 _ _ ?_)
  simp
end Go.Sm

namespace Go.Sm
open Go.RowKit

/-- A prime, a length and rows. -/
def rowsOfD (bs : List UInt8) : Cd × (Int × Int) :=
  let a := primeN bs (fromN bs)
  let b := nextN bs a.2 8
  let r := drawRowsD bs a.1 (1 + b.1).toNat b.2
  (⟨a.1, 1 + b.1, r.1⟩, r.2)
def codeOfD (bs : List UInt8) : Cd :=
  let c := (rowsOfD bs).1
  let d := nextN bs (rowsOfD bs).2 24
  if d.1 = 0 then ⟨(pickN bs d.2 [0, 4]).1, c.l, c.rows⟩ else if d.1 = 1 then ⟨c.p, (pickN bs d.2 [0, 11, c.l + 1]).1, c.rows⟩ else if d.1 = 2 then ⟨c.p, c.l, c.rows ++ [[c.p]]⟩ else c
theorem codeOfD_ok (bs : List UInt8) : (codeOfD bs).rows.length ≤ 5 ∧ ∀ r ∈ (codeOfD bs).rows, r.length ≤ 11 := by
  obtain ⟨a1, a2⟩ := primeN_ok (fromN_ok bs)
  have hpp := prPos a2
  obtain ⟨b1, b2, b3, _⟩ := nextN_ok (n := 8) a1
  have b3 := b3 (by omega)
  obtain ⟨r1, r2, r3⟩ := drawRowsD_ok (n := (1 + (nextN bs (primeN bs (fromN bs)).2 8).1).toNat) b1 (show 1 ≤ (primeN bs (fromN bs)).1 by omega)
  have h : (rowsOfD bs).1.rows.length ≤ 4 ∧ ∀ r ∈ (rowsOfD bs).1.rows, r.length ≤ 11 := ⟨r2, fun r hr => by rw [(r3 r hr).1]; omega⟩
  unfold codeOfD
  simp only
  generalize (rowsOfD bs).1 = c at h ⊢
  have h' : c.rows.length ≤ 5 ∧ ∀ r ∈ c.rows, r.length ≤ 11 := ⟨by omega, h.2⟩
  split
  · exact h'
  · split
    · exact h'
    · split
      · refine ⟨by simp; omega, fun r hr => ?_⟩
        rcases List.mem_append.1 hr with h3 | h3
        · exact h.2 r h3
        · simp only [List.mem_singleton] at h3; rw [h3]; simp
      · exact h'

set_option maxHeartbeats 1000000 in
theorem DrawCodeOf_ok (bs : List UInt8) (hl : bs.length ≤ 1048576) : CallOK Go.Proofs.Tryz.prog 14 [.one (vB bs)] (.tup [(false, [i64 (codeOfD bs).p]), (false, [i64 (codeOfD bs).l]), (false, [oIntss (codeOfD bs).rows])]) := by
  have hF := fnOk 44 [.tmp 2, .tmp 3, .tmp 4]
  refine callOK hF 60 Go.Proofs.Tryz.func14 rfl rfl rfl (by decide) (by simp) rfl ?_
  intro w0 hw
  have S := @vc_sound w0 _ hF ⟨(.tup [(false, [i64 (codeOfD bs).p]), (false, [i64 (codeOfD bs).l]), (false, [oIntss (codeOfD bs).rows])]), []⟩ Go.Proofs.Tryz.f14 rfl (by simp)
  have c1 := from_ok bs hl
  have c2 := drawPrime_ok bs (fromN bs) (fromN_ok bs) hl
  obtain ⟨a1, a2⟩ := primeN_ok (fromN_ok bs)
  have hpp := prPos a2
  have c3 := next_ok bs (primeN bs (fromN bs)).2 8 a1 hl
  obtain ⟨b1, b2, b3, _⟩ := nextN_ok (n := 8) a1
  have b3 := b3 (by omega)
  have e : codeOfD bs = (let c := (rowsOfD bs).1
    let d := nextN bs (rowsOfD bs).2 24
    if d.1 = 0 then ⟨(pickN bs d.2 [0, 4]).1, c.l, c.rows⟩ else if d.1 = 1 then ⟨c.p, (pickN bs d.2 [0, 11, c.l + 1]).1, c.rows⟩ else if d.1 = 2 then ⟨c.p, c.l, c.rows ++ [[c.p]]⟩ else c) := rfl
  have e1 : rowsOfD bs = (⟨(primeN bs (fromN bs)).1, 1 + (nextN bs (primeN bs (fromN bs)).2 8).1, (drawRowsD bs (primeN bs (fromN bs)).1 (1 + (nextN bs (primeN bs (fromN bs)).2 8).1).toNat (nextN bs (primeN bs (fromN bs)).2 8).2).1⟩, (drawRowsD bs (primeN bs (fromN bs)).1 (1 + (nextN bs (primeN bs (fromN bs)).2 8).1).toNat (nextN bs (primeN bs (fromN bs)).2 8).2).2) := rfl
  rw [e1] at e
  clear e1
  generalize primeN bs (fromN bs) = A at *
  obtain ⟨p, y⟩ := A
  generalize nextN bs y 8 = B at *
  obtain ⟨n0, z⟩ := B
  simp only at a1 a2 hpp c2 c3 b1 b2 b3 e
  obtain ⟨n, hn⟩ : ∃ n : Nat, 1 + n0 = n := ⟨(1 + n0).toNat, by omega⟩
  have hw0 : IntKind.i64.wrap (1 + n0) = n := by rw [hn]; exact wrap64 (by omega) (by omega)
  rw [hn, Int.toNat_natCast] at e
  have c4 := l10DrawRows_ok bs z p n b1 hl (by omega) (by omega)
  obtain ⟨r1, r2, r3⟩ := drawRowsD_ok (n := n) b1 (show 1 ≤ p by omega)
  generalize drawRowsD bs p n z = R at *
  obtain ⟨rows, u⟩ := R
  simp only at c4 r1 r2 r3 e
  have c5 := next_ok bs u 24 r1 hl
  obtain ⟨d1, d2, d3, _⟩ := nextN_ok (n := 24) r1
  generalize nextN bs u 24 = D at *
  obtain ⟨d, q⟩ := D
  simp only at c5 d1 d2 d3 e
  have c6 := pick_ok bs q [0, 4] d1 hl (by simp) (by simp)
  have c7 := pick_ok bs q [0, 11, (n : Int) + 1] d1 hl (by simp) (by simp)
  have hw1 : IntKind.i64.wrap ((n : Int) + 1) = n + 1 := wrap64 (by omega) (by omega)
  generalize pickN bs q [0, 4] = G at *
  generalize pickN bs q [0, 11, (n : Int) + 1] = H at *
  simp
  refine CallW.newS (by decide) c1 (by simp) fun c y hs hy => ?_
  subst hy
  refine S 60 _ _ ?_
  simp
  refine CallW.src hs (by decide) (by rfl) (by simp) c2 (fun _ => by simp) (fun _ _ => S 60 _ _ ?_)
  simp
  refine CallW.src hs (by decide) (by rfl) (by simp) c3 (fun _ => by simp) (fun _ _ => S 60 _ _ ?_)
  simp [hw0]
  refine CallW.src hs (by decide) (by rfl) (by simp) c4 (fun _ => by simp) (fun _ _ => S 60 _ _ ?_)
  simp
  refine CallW.src hs (by decide) (by rfl) (by simp) c5 (fun _ => by simp) (fun _ _ => ?_)
  by_cases h0 : d = 0
  · rw [if_pos h0] at e
    rw [e] at S ⊢
    refine S 60 _ _ ?_
    simp [h0]
    refine CallW.src hs (by decide) (by rfl) (by simp) c6 (fun _ => by simp) (fun _ _ => S 60 _ _ ?_)
    simp
  · rw [if_neg h0] at e
    by_cases h1 : d = 1
    · rw [if_pos h1] at e
      rw [e] at S ⊢
      refine S 60 _ _ ?_
      simp [h1, hw1]
      refine CallW.src hs (by decide) (by rfl) (by simp) c7 (fun _ => by simp) (fun _ _ => S 60 _ _ ?_)
      simp
    · rw [if_neg h1] at e
      by_cases h2 : d = 2
      · rw [if_pos h2] at e
        rw [e] at S ⊢
        refine S 60 _ _ ?_
        simp [h2]
        refine BsW.move hF (e := 43) (es := [[oInts [p]]]) (ks := [2432]) (by decide) rfl rfl rfl (by simp) (by simp) rfl (by decide) (by decide) (by simp) ?_
        refine S 60 _ _ ?_
        simp
        omega
      · rw [if_neg h2] at e
        rw [e] at S ⊢
        refine S 60 _ _ ?_
        simp [h0, h1, h2]

def addD (bs : List UInt8) : Cd × Cd :=
  let a := dCode bs (fromN bs)
  let b := nextN bs a.2 12
  (a.1, if Pr a.1.p then (if b.1 = 0 then (dCode bs b.2).1 else (dOf bs b.2 a.1.p).1) else (dCode bs a.2).1)
theorem addD_ok (bs : List UInt8) : CdS (addD bs).1 ∧ CdS (addD bs).2 := by
  obtain ⟨h1, h2⟩ := dCode_ok (fromN_ok bs)
  obtain ⟨h3, _⟩ := nextN_ok (n := 12) h1
  refine ⟨h2, ?_⟩
  unfold addD
  simp only
  split
  · rename_i hp
    split
    · exact (dCode_ok h3).2
    · exact (dOf_ok h3 hp).2.s
  · exact (dCode_ok h1).2

set_option maxHeartbeats 1000000 in
theorem DrawAddCodes_ok (bs : List UInt8) (hl : bs.length ≤ 1048576) : CallOK Go.Proofs.Tryz.prog 25 [.one (vB bs)] (.tup [(true, [i64 (addD bs).1.p, i64 (addD bs).1.l, oIntss (addD bs).1.rows]), (true, [i64 (addD bs).2.p, i64 (addD bs).2.l, oIntss (addD bs).2.rows])]) := by
  have hF := fnOk 27 [.cell 2 26, .cell 3 26]
  refine callOK hF 60 Go.Proofs.Tryz.func25 rfl rfl rfl (by decide) (by simp) rfl ?_
  intro w0 hw
  have S := @vc_sound w0 _ hF ⟨(.tup [(true, [i64 (addD bs).1.p, i64 (addD bs).1.l, oIntss (addD bs).1.rows]), (true, [i64 (addD bs).2.p, i64 (addD bs).2.l, oIntss (addD bs).2.rows])]), []⟩ Go.Proofs.Tryz.f25 rfl (by simp)
  have c1 := from_ok bs hl
  have c2 := l10Draw_ok bs (fromN bs) (fromN_ok bs) hl
  obtain ⟨h1, h2⟩ := dCode_ok (fromN_ok bs)
  have c3 := next_ok bs (dCode bs (fromN bs)).2 12 h1 hl
  obtain ⟨h3, h4, h5, _⟩ := nextN_ok (n := 12) h1
  have e : addD bs = ((dCode bs (fromN bs)).1, if Pr (dCode bs (fromN bs)).1.p then (if (nextN bs (dCode bs (fromN bs)).2 12).1 = 0 then (dCode bs (nextN bs (dCode bs (fromN bs)).2 12).2).1 else (dOf bs (nextN bs (dCode bs (fromN bs)).2 12).2 (dCode bs (fromN bs)).1.p).1) else (dCode bs (dCode bs (fromN bs)).2).1) := rfl
  have c4 := l01Prime_ok (dCode bs (fromN bs)).1.p
  have c5 := l10Draw_ok bs (dCode bs (fromN bs)).2 h1 hl
  have c6 := l10Draw_ok bs (nextN bs (dCode bs (fromN bs)).2 12).2 h3 hl
  have c7 := l10DrawOf_ok bs (nextN bs (dCode bs (fromN bs)).2 12).2 (dCode bs (fromN bs)).1.p h3 hl
  generalize dCode bs (fromN bs) = C at *
  obtain ⟨⟨p, l, rows⟩, x⟩ := C
  generalize nextN bs x 12 = B at *
  obtain ⟨bv, y⟩ := B
  simp only at c2 c3 c4 c5 c6 c7 h1 h3 h4 h5 e
  by_cases hp : Pr p
  · rw [decide_eq_true hp] at c4
    rw [if_pos hp] at e
    have c7 := c7 hp
    by_cases h0 : bv = 0
    · rw [if_pos h0] at e
      rw [e] at S ⊢
      generalize dCode bs y = D at *
      obtain ⟨⟨p2, l2, rows2⟩, x2⟩ := D
      simp only at c6 S ⊢
      simp
      refine CallW.newS (by decide) c1 (by simp) fun c y hs hy => ?_
      subst hy
      refine S 60 _ _ ?_
      simp
      refine CallW.src hs (by decide) (by rfl) (by simp) c2 (fun _ => by simp) (fun _ _ => S 60 _ _ ?_)
      simp
      refine CallW.ok (by decide) (by simp) c4 (by simp) (S 60 _ _ ?_)
      simp
      refine CallW.src hs (by decide) (by rfl) (by simp) c3 (fun _ => by simp) (fun _ _ => S 60 _ _ ?_)
      simp [h0]
      refine J.dr4 hF mixed 3 [[], [], [1], [0, 1, 2], [0, 1, 2, 3]] [[19, 20, 21], [19, 20, 21], [19, 21]] [[], [], [448]] [[448], [], []] [] [] (by decide) ?_
      simp
      refine DrC4.src hF hs (by decide) (by rfl) (by rfl) (by simp) c6 (by simp) (by simp) (by simp) ?_
      simp
      refine S 60 _ _ ?_
      simp
    · rw [if_neg h0] at e
      rw [e] at S ⊢
      generalize dOf bs y p = D at *
      obtain ⟨⟨p2, l2, rows2⟩, x2⟩ := D
      simp only at c7 S ⊢
      simp
      refine CallW.newS (by decide) c1 (by simp) fun c y hs hy => ?_
      subst hy
      refine S 60 _ _ ?_
      simp
      refine CallW.src hs (by decide) (by rfl) (by simp) c2 (fun _ => by simp) (fun _ _ => S 60 _ _ ?_)
      simp
      refine CallW.ok (by decide) (by simp) c4 (by simp) (S 60 _ _ ?_)
      simp
      refine CallW.src hs (by decide) (by rfl) (by simp) c3 (fun _ => by simp) (fun _ _ => S 60 _ _ ?_)
      simp [h0]
      refine J.dr4 hF mixed 5 [[], [], [], [2], [1, 2, 3], [0, 1, 2, 3, 4], [0, 1, 2, 3, 4, 5]] [[22, 23, 24, 25, 26], [22, 23, 24, 25, 26], [22, 23, 24, 25, 26], [22, 23, 25, 26], [22, 26]] [[], [], [], [], [448]] [[448], [], [], [], []] [] [] (by decide) ?_
      simp
      refine DrC4.src hF hs (by decide) (by rfl) (by rfl) (by simp) c7 (by simp) (by simp) (by simp) ?_
      simp
      refine S 60 _ _ ?_
      simp
  · rw [decide_eq_false hp] at c4
    rw [if_neg hp] at e
    rw [e] at S ⊢
    generalize dCode bs x = D at *
    obtain ⟨⟨p2, l2, rows2⟩, x2⟩ := D
    simp only at c5 S ⊢
    simp
    refine CallW.newS (by decide) c1 (by simp) fun c y hs hy => ?_
    subst hy
    refine S 60 _ _ ?_
    simp
    refine CallW.src hs (by decide) (by rfl) (by simp) c2 (fun _ => by simp) (fun _ _ => S 60 _ _ ?_)
    simp
    refine CallW.ok (by decide) (by simp) c4 (by simp) (S 60 _ _ ?_)
    simp
    refine J.dr4 hF mixed 3 [[], [], [1], [0, 1, 2], [0, 1, 2, 3]] [[19, 20, 21], [19, 20, 21], [19, 21]] [[], [], [448]] [[448], [], []] [] [] (by decide) ?_
    simp
    refine DrC4.src hF hs (by decide) (by rfl) (by rfl) (by simp) c5 (by simp) (by simp) (by simp) ?_
    simp
    refine S 60 _ _ ?_
    simp
end Go.Sm

namespace Go.Sm
open Go.RowKit

def sGolay : ByteArray := ⟨#[103, 111, 108, 97, 121]⟩
def namG (v : Int) : ByteArray := if v = 0 then sRepeat else if v = 1 then sEven else if v = 2 then sAll else if v = 3 then sZero else sGolay
theorem namG_size (v : Int) : (namG v).size ≤ 1048576 := by
  unfold namG sRepeat sEven sAll sZero sGolay
  split
  · decide
  · split
    · decide
    · split
      · decide
      · split <;> decide
def nmD (bs : List UInt8) : Int × Int × Int :=
  let a := nextN bs (fromN bs) 5
  let b := primeN bs a.2
  let c := primeN bs b.2
  let d := primeN bs c.2
  let e := pickN bs d.2 [b.1, c.1, d.1, 4]
  (a.1, e.1, (nextN bs e.2 12).1)

set_option maxHeartbeats 1000000 in
theorem DrawNamedCode_ok (bs : List UInt8) (hl : bs.length ≤ 1048576) : CallOK Go.Proofs.Tryz.prog 28 [.one (vB bs)] (.tup [(false, [st (namG (nmD bs).1)]), (false, [i64 (nmD bs).2.1]), (false, [i64 (nmD bs).2.2])]) := by
  have hF := fnOk 24 [.tmp 2, .tmp 3, .tmp 4]
  refine callOK hF 60 Go.Proofs.Tryz.func28 rfl rfl rfl (by decide) (by simp) rfl ?_
  intro w0 hw
  have S := @vc_sound w0 _ hF ⟨(.tup [(false, [st (namG (nmD bs).1)]), (false, [i64 (nmD bs).2.1]), (false, [i64 (nmD bs).2.2])]), []⟩ Go.Proofs.Tryz.f28 rfl (by simp)
  have c1 := from_ok bs hl
  have c2 := next_ok bs (fromN bs) 5 (fromN_ok bs) hl
  obtain ⟨a1, a2, a3, _⟩ := nextN_ok (n := 5) (fromN_ok bs)
  have a3 := a3 (by omega)
  have e : nmD bs = ((nextN bs (fromN bs) 5).1, (pickN bs (primeN bs (primeN bs (primeN bs (nextN bs (fromN bs) 5).2).2).2).2 [(primeN bs (nextN bs (fromN bs) 5).2).1, (primeN bs (primeN bs (nextN bs (fromN bs) 5).2).2).1, (primeN bs (primeN bs (primeN bs (nextN bs (fromN bs) 5).2).2).2).1, 4]).1, (nextN bs (pickN bs (primeN bs (primeN bs (primeN bs (nextN bs (fromN bs) 5).2).2).2).2 [(primeN bs (nextN bs (fromN bs) 5).2).1, (primeN bs (primeN bs (nextN bs (fromN bs) 5).2).2).1, (primeN bs (primeN bs (primeN bs (nextN bs (fromN bs) 5).2).2).2).1, 4]).2 12).1) := rfl
  generalize nmD bs = R at *
  subst e
  generalize nextN bs (fromN bs) 5 = A at *
  obtain ⟨av, x1⟩ := A
  simp only at c2 a1 a2 a3 S ⊢
  have c3 := drawPrime_ok bs x1 a1 hl
  obtain ⟨b1, _⟩ := primeN_ok a1
  generalize primeN bs x1 = B at *
  obtain ⟨bv, x2⟩ := B
  simp only at c3 b1 S ⊢
  have c4 := drawPrime_ok bs x2 b1 hl
  obtain ⟨d1, _⟩ := primeN_ok b1
  generalize primeN bs x2 = C at *
  obtain ⟨cv, x3⟩ := C
  simp only at c4 d1 S ⊢
  have c5 := drawPrime_ok bs x3 d1 hl
  obtain ⟨e1, _⟩ := primeN_ok d1
  generalize primeN bs x3 = D at *
  obtain ⟨dv, x4⟩ := D
  simp only at c5 e1 S ⊢
  have c6 := pick_ok bs x4 [bv, cv, dv, 4] e1 hl (by simp) (by simp)
  obtain ⟨f1, _⟩ := pickN_ok (l := [bv, cv, dv, 4]) e1 (by simp)
  generalize pickN bs x4 [bv, cv, dv, 4] = G at *
  obtain ⟨gv, x5⟩ := G
  simp only at c6 f1 S ⊢
  have c7 := next_ok bs x5 12 f1 hl
  generalize nextN bs x5 12 = H at *
  have hv : av = 0 ∨ av = 1 ∨ av = 2 ∨ av = 3 ∨ av = 4 := by omega
  simp
  refine CallW.newS (by decide) c1 (by simp) fun c y hs hy => ?_
  subst hy
  refine S 60 _ _ ?_
  simp
  refine J.dr4 hF mixed 16 [[], [], [1], [0, 1, 2], [0, 1, 2, 3], [], [], [1, 2, 6], [], [1, 2, 6, 7, 8], [], [1, 2, 6, 7, 8, 9, 10], [1, 2, 6, 7, 8, 9, 10, 11], [1, 2, 5, 6, 7, 8, 9, 10, 11, 12], [], [1, 2, 5, 6, 7, 8, 9, 10, 11, 12, 13, 14], [0, 1, 2, 3, 4, 5, 6, 7, 8, 9, 10, 11, 12, 13, 14, 15], [0, 1, 2, 3, 4, 5, 6, 7, 8, 9, 10, 11, 12, 13, 14, 15, 16], [0, 1, 2, 3, 4, 5, 6, 7, 8, 9, 10, 11, 12, 13, 14, 15, 16, 17]] [[8, 9, 10, 11, 12, 13, 14, 15, 16, 17, 18, 19, 20, 21, 22, 23], [8, 9, 10, 11, 12, 13, 14, 15, 16, 17, 18, 19, 20, 21, 22, 23], [8, 10, 11, 12, 13, 14, 15, 16, 17, 18, 19, 20, 21, 22, 23], [11, 12, 13, 14, 15, 16, 17, 18, 19, 20, 21, 22, 23], [12, 13, 14, 15, 16, 17, 18, 19, 20, 21, 22, 23], [8, 9, 10, 11, 12, 13, 14, 15, 16, 17, 18, 19, 20, 21, 22, 23], [8, 9, 10, 11, 12, 13, 14, 15, 16, 17, 18, 19, 20, 21, 22, 23], [8, 11, 12, 13, 15, 16, 17, 18, 19, 20, 21, 22, 23], [8, 9, 10, 11, 12, 13, 14, 15, 16, 17, 18, 19, 20, 21, 22, 23], [8, 11, 12, 13, 17, 18, 19, 20, 21, 22, 23], [8, 9, 10, 11, 12, 13, 14, 15, 16, 17, 18, 19, 20, 21, 22, 23], [8, 11, 12, 13, 19, 20, 21, 22, 23], [8, 11, 12, 13, 20, 21, 22, 23], [8, 11, 12, 21, 22, 23], [8, 9, 10, 11, 12, 13, 14, 15, 16, 17, 18, 19, 20, 21, 22, 23], [8, 11, 12, 23]] [[], [], [448], [], [], [], [], [448], [], [448], [], [448], [], [448], [], [448]] [[448, 448, 448, 448, 448, 448], [], [], [448, 448, 448, 448, 448], [448, 448, 448, 448, 448], [448, 448, 448, 448], [448], [], [448, 448], [], [448, 448, 448], [], [], [], [448, 448, 448, 448, 448], []] [] [] (by decide) ?_
  simp
  refine DrC4.src hF hs (by decide) (by rfl) (by rfl) (by simp) c2 (by simp) (by simp) (by simp) ?_
  simp
  refine ⟨⟨a2, a3⟩, a3, fun e he => ?_⟩
  obtain rfl : e = [D.v (Value.string (namG av))] := by
    rcases hv with rfl | rfl | rfl | rfl | rfl <;> exact (Option.some.inj he).symm
  clear he hv
  generalize namG av = nm at *
  simp
  refine DrC4.src hF hs (by decide) (by rfl) (by rfl) (by simp) c3 (by simp) (by simp) (by simp) ?_
  simp
  refine DrC4.src hF hs (by decide) (by rfl) (by rfl) (by simp) c4 (by simp) (by simp) (by simp) ?_
  simp
  refine DrC4.src hF hs (by decide) (by rfl) (by rfl) (by simp) c5 (by simp) (by simp) (by simp) ?_
  simp
  refine DrC4.src hF hs (by decide) (by rfl) (by rfl) (by simp) c6 (by simp) (by simp) (by simp) ?_
  simp
  refine DrC4.src hF hs (by decide) (by rfl) (by rfl) (by simp) c7 (by simp) (by simp) (by simp) ?_
  simp
  refine S 60 _ _ ?_
  simp

def selfE (v : Int) : Cd := if v = 0 then ⟨2, 4, echL 2 [[1, 1, 0, 0], [0, 0, 1, 1]]⟩ else if v = 1 then ⟨5, 2, echL 5 [[1, 2]]⟩ else if v = 2 then ⟨2, 2, echL 2 [[1, 1]]⟩ else ⟨13, 2, echL 13 [[1, 5]]⟩
def selfD (bs : List UInt8) : Cd :=
  let a := nextN bs (fromN bs) 3
  if a.1 = 0 then selfE (nextN bs a.2 4).1 else (dCode bs a.2).1
theorem selfE_ok (v : Int) : CdS (selfE v) := by
  have h1 := ech_facts (p := 2) (n := 4) (rows := [[1, 1, 0, 0], [0, 0, 1, 1]]) (by unfold Pr; omega) (by unfold RowOk; simp)
  have h2 := ech_facts (p := 5) (n := 2) (rows := [[1, 2]]) (by unfold Pr; omega) (by unfold RowOk; simp)
  have h3 := ech_facts (p := 2) (n := 2) (rows := [[1, 1]]) (by unfold Pr; omega) (by unfold RowOk; simp)
  have h4 := ech_facts (p := 13) (n := 2) (rows := [[1, 5]]) (by unfold Pr; omega) (by unfold RowOk; simp)
  simp only [List.length_cons, List.length_nil] at h1 h2 h3 h4
  unfold selfE
  split
  · exact ⟨by simp only; omega, fun r hr => by rw [(h1.2 r hr).1]; omega, by simp, by simp⟩
  · split
    · exact ⟨by simp only; omega, fun r hr => by rw [(h2.2 r hr).1]; omega, by simp, by simp⟩
    · split
      · exact ⟨by simp only; omega, fun r hr => by rw [(h3.2 r hr).1]; omega, by simp, by simp⟩
      · exact ⟨by simp only; omega, fun r hr => by rw [(h4.2 r hr).1]; omega, by simp, by simp⟩
theorem selfD_ok (bs : List UInt8) : CdS (selfD bs) := by
  unfold selfD
  simp only
  split
  · exact selfE_ok _
  · exact (dCode_ok (nextN_ok (n := 3) (fromN_ok bs)).1).2

set_option maxHeartbeats 1000000 in
theorem DrawIsSelfDual_ok (bs : List UInt8) (hl : bs.length ≤ 1048576) : CallOK Go.Proofs.Tryz.prog 34 [.one (vB bs)] (oCode (selfD bs).p (selfD bs).l (selfD bs).rows) := by
  have hF := fnOk 28 [.cell 2 26]
  refine callOK hF 60 Go.Proofs.Tryz.func34 rfl rfl rfl (by decide) (by simp) rfl ?_
  intro w0 hw
  have S := @vc_sound w0 _ hF ⟨(oCode (selfD bs).p (selfD bs).l (selfD bs).rows), []⟩ Go.Proofs.Tryz.f34 rfl (by simp)
  have c1 := from_ok bs hl
  have c2 := next_ok bs (fromN bs) 3 (fromN_ok bs) hl
  obtain ⟨a1, a2, a3, _⟩ := nextN_ok (n := 3) (fromN_ok bs)
  have e : selfD bs = (if (nextN bs (fromN bs) 3).1 = 0 then selfE (nextN bs (nextN bs (fromN bs) 3).2 4).1 else (dCode bs (nextN bs (fromN bs) 3).2).1) := rfl
  generalize nextN bs (fromN bs) 3 = A at *
  obtain ⟨av, x1⟩ := A
  simp only at c2 a1 a2 a3 e
  by_cases h0 : av = 0
  · rw [if_pos h0] at e
    have c3 := next_ok bs x1 4 a1 hl
    obtain ⟨b1, b2, b3, _⟩ := nextN_ok (n := 4) a1
    have b3 := b3 (by omega)
    rw [e] at S ⊢
    have d1 := l10OfN_ok 2 4 [[1, 1, 0, 0], [0, 0, 1, 1]] (by unfold Pr; omega) (by omega) (by simp) (by unfold RowOk; simp)
    have d2 := l10OfN_ok 5 2 [[1, 2]] (by unfold Pr; omega) (by omega) (by simp) (by unfold RowOk; simp)
    have d3 := l10OfN_ok 2 2 [[1, 1]] (by unfold Pr; omega) (by omega) (by simp) (by unfold RowOk; simp)
    have d4 := l10OfN_ok 13 2 [[1, 5]] (by unfold Pr; omega) (by omega) (by simp) (by unfold RowOk; simp)
    have e1 : ∀ v, selfE v = if v = 0 then ⟨2, 4, echL 2 [[1, 1, 0, 0], [0, 0, 1, 1]]⟩ else if v = 1 then ⟨5, 2, echL 5 [[1, 2]]⟩ else if v = 2 then ⟨2, 2, echL 2 [[1, 1]]⟩ else ⟨13, 2, echL 13 [[1, 5]]⟩ := fun _ => rfl
    generalize echL 2 [[1, 1, 0, 0], [0, 0, 1, 1]] = E1 at *
    generalize echL 5 [[1, 2]] = E2 at *
    generalize echL 2 [[1, 1]] = E3 at *
    generalize echL 13 [[1, 5]] = E4 at *
    generalize nextN bs x1 4 = B at *
    obtain ⟨v, x2⟩ := B
    simp only at c3 b1 b2 b3 S ⊢
    have hv : v = 0 ∨ v = 1 ∨ v = 2 ∨ v = 3 := by omega
    simp
    refine CallW.newS (by decide) c1 (by simp) fun c y hs hy => ?_
    subst hy
    refine S 60 _ _ ?_
    simp
    refine CallW.src hs (by decide) (by rfl) (by simp) c2 (fun _ => by simp) (fun _ _ => S 60 _ _ ?_)
    simp [h0]
    refine BsW.move hF (e := 43) (es := [[oInts [1, 1, 0, 0]], [oInts [0, 0, 1, 1]]]) (ks := [576, 640]) (by decide) rfl rfl rfl (by simp) (by simp) rfl (by decide) (by decide) (by simp) ?_
    refine S 60 _ _ ?_
    simp
    refine CallW.ok (by decide) (by simp) d1 (by simp) (S 60 _ _ ?_)
    simp
    refine BsW.move hF (e := 43) (es := [[oInts [1, 2]]]) (ks := [832]) (by decide) rfl rfl rfl (by simp) (by simp) rfl (by decide) (by decide) (by simp) ?_
    refine S 60 _ _ ?_
    simp
    refine CallW.ok (by decide) (by simp) d2 (by simp) (S 60 _ _ ?_)
    simp
    refine BsW.move hF (e := 43) (es := [[oInts [1, 1]]]) (ks := [1024]) (by decide) rfl rfl rfl (by simp) (by simp) rfl (by decide) (by decide) (by simp) ?_
    refine S 60 _ _ ?_
    simp
    refine CallW.ok (by decide) (by simp) d3 (by simp) (S 60 _ _ ?_)
    simp
    refine BsW.move hF (e := 43) (es := [[oInts [1, 5]]]) (ks := [1216]) (by decide) rfl rfl rfl (by simp) (by simp) rfl (by decide) (by decide) (by simp) ?_
    refine S 60 _ _ ?_
    simp
    refine CallW.ok (by decide) (by simp) d4 (by simp) (S 60 _ _ ?_)
    simp
    refine CallW.src hs (by decide) (by rfl) (by simp) c3 (fun _ => by simp) (fun _ _ => ?_)
    rw [e1] at S
    rw [e1]
    rcases hv with rfl | rfl | rfl | rfl
    all_goals
      refine S 60 _ _ ?_
      simp
      refine OpW.index (cs := [.d (i64 2), .d (i64 4), .ob 770, .d (i64 5), .d (i64 2), .ob 962, .d (i64 2), .d (i64 2), .ob 1154, .d (i64 13), .d (i64 2), .ob 1346]) rfl rfl (by decide) hF.T rfl rfl rfl rfl (by rfl) (by rfl) (by omega) (S 60 _ _ ?_)
      simp
  · rw [if_neg h0] at e
    have c3 := l10Draw_ok bs x1 a1 hl
    rw [e] at S ⊢
    generalize dCode bs x1 = C at *
    obtain ⟨⟨p, l, rows⟩, x⟩ := C
    simp only at c3 S ⊢
    simp
    refine CallW.newS (by decide) c1 (by simp) fun c y hs hy => ?_
    subst hy
    refine S 60 _ _ ?_
    simp
    refine CallW.src hs (by decide) (by rfl) (by simp) c2 (fun _ => by simp) (fun _ _ => S 60 _ _ ?_)
    simp [h0]
    refine CallW.src hs (by decide) (by rfl) (by simp) c3 (fun _ => by simp) (fun _ _ => S 60 _ _ ?_)
    simp
end Go.Sm

namespace Go.Sm
open Go.RowKit

def mixJ (q k : Int) (r : List Int) : Nat → List Int → List Int
  | 0, w => w
  | j + 1, w => (mixJ q k r j w).set j (IntKind.i64.wrap (gt (mixJ q k r j w) j + IntKind.i64.wrap (k * gt r j)) % q)
@[simp] theorem mixJ_length (q k : Int) (r : List Int) : ∀ (j : Nat) (w : List Int), (mixJ q k r j w).length = w.length
  | 0, w => rfl
  | j + 1, w => by rw [mixJ, List.length_set, mixJ_length q k r j w]
def stepW (bs : List UInt8) (q : Int) (s : List Int × (Int × Int)) (r : List Int) : List Int × (Int × Int) := (mixJ q (nextN bs s.2 3).1 r (min s.1.length r.length) s.1, (nextN bs s.2 3).2)
def foldW (bs : List UInt8) (q : Int) (rows : List (List Int)) (s : List Int × (Int × Int)) : List Int × (Int × Int) := rows.foldl (stepW bs q) s
theorem foldW_ok {bs : List UInt8} {q : Int} : ∀ (rows : List (List Int)) (s : List Int × (Int × Int)), SOK bs s.2 → (foldW bs q rows s).1.length = s.1.length ∧ SOK bs (foldW bs q rows s).2
  | [], s, h => ⟨rfl, h⟩
  | r :: L, s, h => by
    have := foldW_ok (q := q) L (stepW bs q s r) (nextN_ok (n := 3) h).1
    rw [show (stepW bs q s r).1.length = s.1.length from mixJ_length _ _ _ _ _] at this
    exact this
def endW (bs : List UInt8) (s : List Int × (Int × Int)) : List Int :=
  if 0 < s.1.length ∧ (nextN bs s.2 3).1 = 0 then s.1.set (nextN bs (nextN bs s.2 3).2 s.1.length).1.toNat (nextN bs (nextN bs (nextN bs s.2 3).2 s.1.length).2 4).1 else s.1
def len12 (l : Int) : Nat := (min (max l 0) 12).toNat
def wordD (bs : List UInt8) : Cd × List Int :=
  ((dCode bs (fromN bs)).1, endW bs (foldW bs (max (dCode bs (fromN bs)).1.p 2) (dCode bs (fromN bs)).1.rows (List.replicate (len12 (dCode bs (fromN bs)).1.l) 0, (dCode bs (fromN bs)).2)))
theorem wordD_ok (bs : List UInt8) : CdS (wordD bs).1 ∧ (wordD bs).2.length ≤ 12 := by
  obtain ⟨h1, h2⟩ := dCode_ok (fromN_ok bs)
  refine ⟨h2, ?_⟩
  have h3 := foldW_ok (q := max (dCode bs (fromN bs)).1.p 2) (dCode bs (fromN bs)).1.rows (List.replicate (len12 (dCode bs (fromN bs)).1.l) 0, (dCode bs (fromN bs)).2) h1
  have h4 : (wordD bs).2.length = (foldW bs (max (dCode bs (fromN bs)).1.p 2) (dCode bs (fromN bs)).1.rows (List.replicate (len12 (dCode bs (fromN bs)).1.l) 0, (dCode bs (fromN bs)).2)).1.length := by
    unfold wordD endW
    simp only
    split
    · rw [List.length_set]
    · rfl
  rw [h4, h3.1, List.length_replicate]
  unfold len12
  omega

set_option maxHeartbeats 2000000 in
theorem DrawIsWordOf_ok (bs : List UInt8) (hl : bs.length ≤ 1048576) : CallOK Go.Proofs.Tryz.prog 31 [.one (vB bs)] (.tup [(true, [i64 (wordD bs).1.p, i64 (wordD bs).1.l, oIntss (wordD bs).1.rows]), (false, [oInts (wordD bs).2])]) := by
  have hF := fnOk 84 [.cell 2 26, .tmp 3]
  refine callOK hF 60 Go.Proofs.Tryz.func31 rfl rfl rfl (by decide) (by simp) rfl ?_
  intro w0 hw
  have S := @vc_sound w0 _ hF ⟨(.tup [(true, [i64 (wordD bs).1.p, i64 (wordD bs).1.l, oIntss (wordD bs).1.rows]), (false, [oInts (wordD bs).2])]), []⟩ Go.Proofs.Tryz.f31 rfl (by simp)
  have c1 := from_ok bs hl
  have c2 := l10Draw_ok bs (fromN bs) (fromN_ok bs) hl
  obtain ⟨h1, h2⟩ := dCode_ok (fromN_ok bs)
  have e : wordD bs = ((dCode bs (fromN bs)).1, endW bs (foldW bs (max (dCode bs (fromN bs)).1.p 2) (dCode bs (fromN bs)).1.rows (List.replicate (len12 (dCode bs (fromN bs)).1.l) 0, (dCode bs (fromN bs)).2))) := rfl
  rw [e] at S ⊢
  generalize dCode bs (fromN bs) = C at *
  obtain ⟨⟨p, l, rows⟩, x⟩ := C
  simp only at c2 h1 S ⊢
  obtain ⟨d1, d2, d3, d4⟩ := h2
  simp only at d1 d2 d3 d4
  have hq1 : 2 ≤ max p 2 ∧ max p 2 ≤ 13 := by omega
  have hq : (if p < 2 then 2 else p) = max p 2 := by split <;> omega
  generalize max p 2 = q at *
  obtain ⟨n, hn⟩ : ∃ n : Nat, len12 l = n := ⟨_, rfl⟩
  have hln : (if (12 : Int) < (if l < 0 then 0 else l) then 12 else (if l < 0 then 0 else l)) = n := by
    rw [← hn]; unfold len12; split <;> split <;> omega
  have hn12 : n ≤ 12 := by rw [← hn]; unfold len12; omega
  rw [hn] at S ⊢
  have hF0 := foldW_ok (q := q) rows (List.replicate n 0, x) h1
  have hR0 : foldW bs q (rows.take rows.length) (List.replicate n 0, x) = foldW bs q rows (List.replicate n 0, x) := by rw [List.take_length]
  generalize hRR : foldW bs q rows (List.replicate n 0, x) = R at *
  simp
  refine CallW.newS (by decide) c1 (by simp) fun c y hs hy => ?_
  subst hy
  refine S 60 _ _ ?_
  simp
  refine CallW.src hs (by decide) (by rfl) (by simp) c2 (fun _ => by simp) (fun _ _ => S 60 _ _ ?_)
  simp [hln]
  refine ⟨by omega, ?_⟩
  refine J.loop hw (fun q : Nat × List Int × (Int × Int) => ⟨[(4, .c (.ref 64004 0)), (5, .c (.ref 64005 0)), (2, .c (.ref 64002 0)), (6, .c (.ob 64006)), (7, .c (.d (i64 q.1)))],
      [(64004, .var (srcCs c q.2.2)), (64005, .var [.d (i64 p), .d (i64 l), .ob 64015]), (64015, .arr 43 1 (rows.map fun xs => [oInts xs])), (64006, .arr 2 1 (ints q.2.1)), (64002, .var [.d (i64 0), .d (i64 0), .ob 64012]), (64012, .arr 43 1 [])]⟩)
    (fun t => t.1 ≤ rows.length ∧ t.2.1.length = n ∧ SOK bs t.2.2 ∧ t.2 = foldW bs q (rows.take t.1) (List.replicate n 0, x)) (fun t => rows.length - t.1) (0, List.replicate n 0, x) ⟨by simp, by simp, h1, rfl⟩ (by simp) ?_
  rintro ⟨i, w, y⟩ ⟨hi, hwl, hy, hwy⟩
  simp only at hi hwl hy hwy
  refine S 12 _ _ ?_
  simp
  unfold Later
  refine ⟨fun hlt => ?_, fun hge => ?_⟩
  · have c3 := next_ok bs y 3 hy hl
    obtain ⟨k1, k2, k3, _⟩ := nextN_ok (n := 3) hy
    obtain ⟨r, hr⟩ : ∃ r, rows[i]? = some r := ⟨rows[i], List.getElem?_eq_getElem hlt⟩
    have hrl := d2 r (List.mem_of_getElem? hr)
    have hst : foldW bs q (rows.take (i + 1)) (List.replicate n 0, x) = stepW bs q (w, y) r := by
      unfold foldW at hwy ⊢
      rw [List.take_add_one, hr]
      simp [← hwy]
    have hsw : stepW bs q (w, y) r = (mixJ q (nextN bs y 3).1 r (min w.length r.length) w, (nextN bs y 3).2) := rfl
    rw [hsw] at hst
    generalize nextN bs y 3 = K at *
    obtain ⟨k, y'⟩ := K
    simp only at c3 k1 k2 k3 hst
    refine S 60 _ _ ?_
    simp
    refine CallW.src hs (by decide) (by rfl) (by simp) c3 (fun _ => by simp) (fun _ _ => S 60 _ _ ?_)
    simp
    refine J.loop hw (fun j : Nat => ⟨[(4, .c (.ref 64004 0)), (5, .c (.ref 64005 0)), (2, .c (.ref 64002 0)), (6, .c (.ob 64006)), (7, .c (.d (i64 i))), (8, .c (.d (i64 k))), (9, .c (.d (i64 j)))],
        [(64004, .var (srcCs c y')), (64005, .var [.d (i64 p), .d (i64 l), .ob 64015]), (64015, .arr 43 1 (rows.map fun xs => [oInts xs])), (64006, .arr 2 1 (ints (mixJ q k r j w))), (64002, .var [.d (i64 0), .d (i64 0), .ob 64012]), (64012, .arr 43 1 [])]⟩)
      (fun j => j ≤ min w.length r.length) (fun j => min w.length r.length - j) 0 (by simp) (by simp [mixJ]) ?_
    intro j hj
    have hml := mixJ_length q k r j w
    generalize hmj : mixJ q k r j w = m at *
    refine S 12 _ _ ?_
    simp
    unfold Later
    refine ⟨fun hjm => ?_, fun hjm => ?_⟩
    · refine S 60 _ _ ?_
      simp
      refine ⟨hlt, ?_⟩
      unfold Later
      intro r' hr'
      obtain rfl := Option.some.inj (hr.symm.trans hr')
      refine ⟨fun hjr => ?_, fun hjr => ?_⟩
      · have g1 := gt_get (r := m) (i := j) hjm
        have g2 := gt_get (r := r) (i := j) hjr
        have hmx : mixJ q k r (j + 1) w = m.set j (IntKind.i64.wrap (gt m j + IntKind.i64.wrap (k * gt r j)) % q) := by rw [mixJ, hmj]
        have c4 := l01Mod_ok q (IntKind.i64.wrap (gt m j + IntKind.i64.wrap (k * gt r j))) (by omega) (by omega)
        generalize gt m j = u at *
        generalize gt r j = v at *
        refine J.dr hF mixed 21 [[], [], [], [2], [2, 3], [], [], [5, 6], [5, 6, 7], [], [], [10], [], [10, 11, 12], [10, 11, 12, 13], [], [10, 11, 12, 13, 14, 15], [10, 11, 12, 13, 14, 15, 16], [9, 10, 11, 12, 13, 14, 15, 16, 17], [5, 6, 7, 8, 9, 10, 11, 12, 13, 14, 15, 16, 17, 18], [2, 3, 4, 5, 6, 7, 8, 9, 10, 11, 12, 13, 14, 15, 16, 17, 18, 19], [0, 1, 2, 3, 4, 5, 6, 7, 8, 9, 10, 11, 12, 13, 14, 15, 16, 17, 18, 19, 20], [0, 1, 2, 3, 4, 5, 6, 7, 8, 9, 10, 11, 12, 13, 14, 15, 16, 17, 18, 19, 20, 21]] [[44, 45, 46, 47, 48, 49, 50, 51, 52, 53, 54, 55, 56, 57, 58, 59, 60, 61, 62, 63, 64], [44, 45, 46, 47, 48, 49, 50, 51, 52, 53, 54, 55, 56, 57, 58, 59, 60, 61, 62, 63, 64], [44, 45, 46, 47, 48, 49, 50, 51, 52, 53, 54, 55, 56, 57, 58, 59, 60, 61, 62, 63, 64], [44, 45, 47, 48, 49, 50, 51, 52, 53, 54, 55, 56, 57, 58, 59, 60, 61, 62, 63, 64], [44, 45, 48, 49, 50, 51, 52, 53, 54, 55, 56, 57, 58, 59, 60, 61, 62, 63, 64], [44, 45, 46, 47, 48, 49, 50, 51, 52, 53, 54, 55, 56, 57, 58, 59, 60, 61, 62, 63, 64], [44, 45, 46, 47, 48, 49, 50, 51, 52, 53, 54, 55, 56, 57, 58, 59, 60, 61, 62, 63, 64], [44, 45, 46, 47, 48, 51, 52, 53, 54, 55, 56, 57, 58, 59, 60, 61, 62, 63, 64], [44, 45, 46, 47, 48, 52, 53, 54, 55, 56, 57, 58, 59, 60, 61, 62, 63, 64], [44, 45, 46, 47, 48, 49, 50, 51, 52, 53, 54, 55, 56, 57, 58, 59, 60, 61, 62, 63, 64], [44, 45, 46, 47, 48, 49, 50, 51, 52, 53, 54, 55, 56, 57, 58, 59, 60, 61, 62, 63, 64], [44, 45, 46, 47, 48, 49, 50, 51, 52, 53, 55, 56, 57, 58, 59, 60, 61, 62, 63, 64], [44, 45, 46, 47, 48, 49, 50, 51, 52, 53, 54, 55, 56, 57, 58, 59, 60, 61, 62, 63, 64], [44, 45, 46, 47, 48, 49, 50, 51, 52, 53, 57, 58, 59, 60, 61, 62, 63, 64], [44, 45, 46, 47, 48, 49, 50, 51, 52, 53, 58, 59, 60, 61, 62, 63, 64], [44, 45, 46, 47, 48, 49, 50, 51, 52, 53, 54, 55, 56, 57, 58, 59, 60, 61, 62, 63, 64], [44, 45, 46, 47, 48, 49, 50, 51, 52, 53, 60, 61, 62, 63, 64], [44, 45, 46, 47, 48, 49, 50, 51, 52, 53, 61, 62, 63, 64], [44, 45, 46, 47, 48, 49, 50, 51, 52, 62, 63, 64], [44, 45, 46, 47, 48, 63, 64], [44, 45, 64]] (by decide) ?_
        simp
        refine ⟨hjm, ?_⟩
        unfold Later
        intro u' hu
        obtain rfl : u = u' := Option.some.inj (g1.symm.trans hu)
        refine ⟨hlt, ?_⟩
        intro r'' hr''
        obtain rfl := Option.some.inj (hr.symm.trans hr'')
        refine ⟨hjr, ?_⟩
        intro v' hv
        obtain rfl : v = v' := Option.some.inj (g2.symm.trans hv)
        refine DrC.ok hF (by rfl) (by simp [hq]) c4 (by simp) (by simp) ?_
        simp
        refine S 60 _ _ ?_
        simp
        refine ⟨hjm, Nxt.mk (j + 1) (by omega) (by simp [wrapS (i := j) (n := w.length) (by omega) (by omega), hmx]) (by omega)⟩
      · have hj : j = min w.length r.length := by omega
        exact Nxt.mk (i + 1, m, y') ⟨hlt, by simp only; omega, k1, by rw [hst, ← hj, hmj]⟩ (by simp [wrapS (i := i) (n := rows.length) hlt (by omega)]) (by simp only; omega)
    · have hj : j = min w.length r.length := by omega
      refine S 60 _ _ ?_
      simp
      exact Nxt.mk (i + 1, m, y') ⟨hlt, by simp only; omega, k1, by rw [hst, ← hj, hmj]⟩ (by simp [wrapS (i := i) (n := rows.length) hlt (by omega)]) (by simp only; omega)
  · have : i = rows.length := by omega
    subst this
    rw [hR0] at hwy
    subst hwy
    have hend : endW bs (w, y) = if 0 < w.length ∧ (nextN bs y 3).1 = 0 then w.set (nextN bs (nextN bs y 3).2 w.length).1.toNat (nextN bs (nextN bs (nextN bs y 3).2 w.length).2 4).1 else w := rfl
    by_cases h0 : 0 < w.length
    · have c3 := next_ok bs y 3 hy hl
      have k1 := (nextN_ok (n := 3) hy).1
      generalize nextN bs y 3 = K at *
      obtain ⟨k, y'⟩ := K
      simp only at c3 k1 hend
      have c4 := next_ok bs y' w.length k1 hl
      obtain ⟨u1, u2, u3, _⟩ := nextN_ok (n := w.length) k1
      have u3 := u3 (by omega)
      generalize nextN bs y' w.length = A at *
      obtain ⟨a, y2⟩ := A
      simp only at c4 u1 u2 u3 hend
      have c5 := next_ok bs y2 4 u1 hl
      generalize nextN bs y2 4 = B at *
      by_cases hk : k = 0
      · rw [if_pos ⟨h0, hk⟩] at hend
        rw [hend] at S ⊢
        refine S 60 _ _ ?_
        simp [h0]
        refine CallW.src hs (by decide) (by rfl) (by simp) c3 (fun _ => by simp) (fun _ _ => S 60 _ _ ?_)
        simp [hk]
        refine CallW.src hs (by decide) (by rfl) (by simp) c4 (fun _ => by simp) (fun _ _ => S 60 _ _ ?_)
        simp
        refine CallW.src hs (by decide) (by rfl) (by simp) c5 (fun _ => by simp) (fun _ _ => S 60 _ _ ?_)
        simp
        have e3 : (List.map (fun i => [D.v (Value.int IntKind.i64 i)]) w).set a.toNat [i64 B.1] = ints (w.set a.toNat B.1) := by simp
        exact ⟨⟨u2, u3⟩, by omega, by rw [e3]; generalize w.set a.toNat B.1 = w'; simp⟩
      · rw [if_neg (fun h => hk h.2)] at hend
        rw [hend] at S ⊢
        refine S 60 _ _ ?_
        simp [h0]
        refine CallW.src hs (by decide) (by rfl) (by simp) c3 (fun _ => by simp) (fun _ _ => S 60 _ _ ?_)
        simp [hk]
    · rw [if_neg (fun h => h0 h.1)] at hend
      rw [hend] at S ⊢
      refine S 60 _ _ ?_
      simp [h0]
end Go.Sm
