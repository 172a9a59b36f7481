/- Towards the rows of this seat: what the functions do, as contracts over plain data. -/
import Derived.Test.YtemedeiolhgoeaaGreatPk52
import Derived.Test.YtemedeiolhgoeaaGreatPk50
import Derived.Test.YtemedeiolhgoeaaGreatPk51
import Derived.Test.YtemedeiolhgoeaaGreatPk7
import Derived.Test.YtemedeiolhgoeaaGreatPk5
namespace Go.Sm
open Go.RowKit

theorem J.cleanC {P : Program} {N : Nat} {w0 : Base} {s : St} (hw : w0.ok64) {Q : Exit → Act → World → Prop} {k : List It} (t : St) (h : Fit (autoRn s t) s t) (hj : J P N w0 Q k t) : J P N w0 Q k s := J.fit hw h hj
def rightN : Nat → Code → Code
  | 0, c => c
  | n + 1, .seq _ b => rightN n b
  | _, c => c
def leftN : Nat → Code → Code
  | 0, .seq a _ => a
  | n + 1, .seq _ b => leftN n b
  | _, c => c
theorem J.seqc {P : Program} {N : Nat} {w0 : Base} {s : St} {Q : Exit → Act → World → Prop} {x y : Code} (h : J P N w0 Q [.code x, .inv fun s => J P N w0 Q [.code y] s] s) : J P N w0 Q [.code (.seq x y)] s := by
  intro a w β R
  refine cont_seq ?_
  have h1 := h a w β R
  simp only [cont] at h1 ⊢
  refine wp_mono h1 fun e a w h => ?_
  cases e <;> simp only [cont] at h ⊢ <;> first | exact h | skip
  obtain ⟨s, β, h2, h3⟩ := h
  have := h2 a w β h3
  simpa only [cont] using this
theorem hideS {F : Fn} {w0 : Base} {E : St → Prop} {Q : Exit → Act → World → Prop} {k : List It} {s : St} (h : ∀ Q, (∀ n k s, vc F w0 Q E n k s → J F.P F.N w0 Q k s) → J F.P F.N w0 Q k s) :
    (∀ n k s, vc F w0 Q E n k s → J F.P F.N w0 Q k s) → J F.P F.N w0 Q k s := h Q
noncomputable def RC (n : Nat) : Code := rightN n (Go.Proofs.Tryz.f3.body.getD .skip)
noncomputable def LC (n : Nat) : Code := leftN n (Go.Proofs.Tryz.f3.body.getD .skip)
theorem codeR_small (p l : Int) (rows : List (List Int)) : ∃ p' l' E e, codeR p l rows = ((p', l', E), e) ∧ E.length ≤ 100 ∧ total E ≤ 1000 ∧ ∀ r ∈ E, r.length ≤ 10 := by
  unfold codeR
  split
  · rename_i h
    exact ⟨_, _, _, _, rfl, small_ech h.1 h.2⟩
  · exact ⟨_, _, _, _, rfl, small_none⟩
theorem two_m {L : List (List Int)} (h : L.length ≤ 100 ∧ total L ≤ 1000 ∧ ∀ r ∈ L, r.length ≤ 10) : L.length ≤ 1048576 ∧ ∀ r ∈ L, r.length ≤ 1048576 := ⟨by omega, fun r hr => by have := h.2.2 r hr; omega⟩
theorem CdS.m {c : Cd} (h : CdS c) : c.rows.length ≤ 1048576 ∧ ∀ r ∈ c.rows, r.length ≤ 1048576 := ⟨by have := h.1; omega, fun r hr => by have := h.2.1 r hr; omega⟩

set_option maxHeartbeats 8000000 in
set_option maxRecDepth 8000 in
theorem FnCodes_ok (bs : List UInt8) (_ : bs.length ≤ maxLen) : CallOK Go.Proofs.Tryz.prog 3 [.one (vB bs)] (.one (bo true)) := by
  have hF := fnOk 439 [.tmp 2]
  refine callOK hF 0 Go.Proofs.Tryz.func3 rfl rfl rfl (by decide) (by simp) rfl ?_
  intro w0 hw
  have S := @vc_sound w0 _ hF ⟨(.one (bo true)), []⟩ Go.Proofs.Tryz.f3 rfl (by simp)
  have cbig := big_ok bs
  simp only [vc]
  revert S
  refine hideS ?_
  intro Q S
  by_cases hb : 4096 < bs.length
  · rw [decide_eq_true hb] at cbig
    refine S 60 _ _ ?_
    simp
    refine CallW.ok (by decide) (by simp) cbig (by simp) (S 60 _ _ ?_)
    simp
  · rw [decide_eq_false hb] at cbig
    have hl : bs.length ≤ 1048576 := by omega
    -- the first code
    have d1 := DrawDualCode_ok bs hl
    have m1 := (drawC_ok bs).m
    have d5 := DrawExtendCode_ok bs hl
    generalize drawC bs = c at *
    obtain ⟨p, l, rows⟩ := c
    simp only at d1 d5 m1
    have a1 := DualCode_ok p l rows m1.1 m1.2
    have b1 := specDualCode_ok p l rows m1.1 m1.2
    have f1 := IsCode_ok p l rows m1.1 m1.2
    have g1 := specIsCode_ok p l rows m1.1 m1.2
    obtain ⟨p1, l1, E1, e1, q1, k1⟩ := dualR_small p l rows
    have n1 := two_m k1
    rw [q1] at a1 b1
    have h1 := codes9_ok p1 l1 E1 (by omega) (fun r hr => by have := n1.2 r hr; omega)
    -- the code of rows
    have d2 := DrawCodeOf_ok bs hl
    have m2 := codeOfD_ok bs
    generalize codeOfD bs = c2 at *
    obtain ⟨p2, l2, rows2⟩ := c2
    simp only at d2 m2
    have m2 : rows2.length ≤ 1048576 ∧ ∀ r ∈ rows2, r.length ≤ 1048576 := ⟨by omega, fun r hr => by have := m2.2 r hr; omega⟩
    have a2 := CodeOf_ok p2 l2 rows2 m2.1 m2.2
    have b2 := specCodeOf_ok p2 l2 rows2 m2.1 m2.2
    obtain ⟨p2', l2', E2, e2, q2, k2⟩ := codeR_small p2 l2 rows2
    have n2 := two_m k2
    rw [q2] at a2 b2
    have h2 := codes9_ok p2' l2' E2 (by omega) (fun r hr => by have := n2.2 r hr; omega)
    -- shortened and punctured
    have d3 := DrawShortenCode_ok bs hl
    have m3 := (punD_ok bs).1.m
    generalize punD bs = c3 at *
    obtain ⟨⟨p3, l3, rows3⟩, i3⟩ := c3
    simp only at d3 m3
    have a3 := ShortenCode_ok p3 l3 rows3 i3 m3.1 m3.2
    have b3 := specShortenCode_ok p3 l3 rows3 i3 m3.1 m3.2
    obtain ⟨p3', l3', E3, e3, q3, k3⟩ := shoR_small p3 l3 rows3 i3
    have n3 := two_m k3
    rw [q3] at a3 b3
    have h3 := codes9_ok p3' l3' E3 (by omega) (fun r hr => by have := n3.2 r hr; omega)
    have a4 := PunctureCode_ok p3 l3 rows3 i3 m3.1 m3.2
    have b4 := specPunctureCode_ok p3 l3 rows3 i3 m3.1 m3.2
    obtain ⟨p4', l4', E4, e4, q4, k4⟩ := punR_small p3 l3 rows3 i3
    have n4 := two_m k4
    rw [q4] at a4 b4
    have h4 := codes9_ok p4' l4' E4 (by omega) (fun r hr => by have := n4.2 r hr; omega)
    -- extended
    have a5 := ExtendCode_ok p l rows m1.1 m1.2
    have b5 := specExtendCode_ok p l rows m1.1 m1.2
    obtain ⟨p5', l5', E5, e5, q5, k5⟩ := extCR_small p l rows
    have n5 := two_m k5
    rw [q5] at a5 b5
    have h5 := codes9_ok p5' l5' E5 (by omega) (fun r hr => by have := n5.2 r hr; omega)
    -- sums
    have d6 := DrawAddCodes_ok bs hl
    have m6 := (addD_ok bs).1.m
    have m6' := (addD_ok bs).2.m
    generalize addD bs = c6 at *
    obtain ⟨⟨p6, l6, rows6⟩, ⟨p7, l7, rows7⟩⟩ := c6
    simp only at d6 m6 m6'
    have a6 := AddCodes_ok p6 l6 rows6 p7 l7 rows7 m6.1 m6.2 m6'.1 m6'.2
    have b6 := specAddCodes_ok p6 l6 rows6 p7 l7 rows7 m6.1 m6.2 m6'.1 m6'.2
    obtain ⟨p6', l6', E6, e6, q6, k6⟩ := addCR_small p6 l6 rows6 p7 l7 rows7
    have n6 := two_m k6
    rw [q6] at a6 b6
    have h6 := codes9_ok p6' l6' E6 (by omega) (fun r hr => by have := n6.2 r hr; omega)
    -- named
    have d7 := DrawNamedCode_ok bs hl
    have m7 := namG_size (nmD bs).1
    generalize namG (nmD bs).1 = nm at *
    generalize (nmD bs).2.1 = p8 at *
    generalize (nmD bs).2.2 = l8 at *
    have a7 := NamedCode_ok nm p8 l8 m7
    have b7 := specNamedCode_ok nm p8 l8 m7
    obtain ⟨p7', l7', E7, e7, q7, k7⟩ := namR_small nm p8 l8
    have n7 := two_m k7
    rw [q7] at a7 b7
    have h7 := codes9_ok p7' l7' E7 (by omega) (fun r hr => by have := n7.2 r hr; omega)
    -- words
    have d8 := DrawIsWordOf_ok bs hl
    have m8 := (wordD_ok bs).1.m
    have m8' := (wordD_ok bs).2
    generalize wordD bs = c8 at *
    obtain ⟨⟨p9, l9, rows9⟩, wd⟩ := c8
    simp only at d8 m8 m8'
    have a8 := IsWordOf_ok p9 l9 rows9 wd m8.1 m8.2 (by omega)
    have b8 := specIsWordOf_ok p9 l9 rows9 wd m8.1 m8.2 (by omega)
    generalize wordOf p9 l9 rows9 wd = r8 at *
    obtain ⟨r8, e8⟩ := r8
    -- self dual
    have d9 := DrawIsSelfDual_ok bs hl
    have m9 := (selfD_ok bs).m
    generalize selfD bs = c9 at *
    obtain ⟨p10, l10, rows10⟩ := c9
    simp only at d9 m9
    have a9 := IsSelfDual_ok p10 l10 rows10 m9.1 m9.2
    have b9 := specIsSelfDual_ok p10 l10 rows10 m9.1 m9.2
    obtain ⟨r9, e9, q9⟩ : ∃ r e, selfR p10 l10 rows10 = (r, e) := ⟨_, _, rfl⟩
    rw [q9] at a9 b9
    have h32 : J Go.Proofs.Tryz.prog 439 w0 Q [.code (RC 32)] (⟨[(3, .c (.ref 64003 0)), (4, .c (.ref 64004 0)), (5, .c (.d (i64 e1)))], [(64003, .var [.d (i64 p), .d (i64 l), .ob 65003]), (65003, .arr 43 1 (rows.map fun xs => [oInts xs])), (64004, .var [.d (i64 p1), .d (i64 l1), .ob 65004]), (65004, .arr 43 1 (E1.map fun xs => [oInts xs]))]⟩) := by
      by_cases z1 : e1 = 0
      · subst z1
        have hg : GoodC p l rows := by
          by_cases hg : GoodC p l rows
          · exact hg
          · unfold dualR at q1; rw [if_neg hg] at q1; simp at q1
        have q1 := q1
        unfold dualR at q1
        rw [if_pos hg] at q1
        simp only [Prod.mk.injEq, and_true] at q1
        obtain ⟨rfl, rfl, hE⟩ := q1
        have aB := DualCode_ok p l E1 n1.1 n1.2
        obtain ⟨r1, r2⟩ := back_dual hg
        rw [← hE] at h1
        rw [hE] at r1 r2
        rw [r1] at aB
        have hB := codes9_ok p l rows (by have := m1.1; omega) (fun r hr => by have := m1.2 r hr; omega)
        have hwB : IntKind.i64.wrap ((rows.length : Int) + E1.length) = l := by rw [r2]; exact wrap64 (by have := hg.1.1.2; omega) (by have := hg.1.1.2; omega)
        rw [show RC 32 = (LC 32).seq (RC 33) from rfl]
        refine J.seqc ?_
        simp only [LC, leftN, Go.Proofs.Tryz.f3, Option.getD]
        refine S 60 _ _ ?_
        simp
        unfold InvW
        rw [show RC 33 = (LC 33).seq (RC 34) from rfl]
        refine J.seqc ?_
        simp only [LC, leftN, Go.Proofs.Tryz.f3, Option.getD]
        refine S 60 _ _ ?_
        simp
        refine CallW.ok (by decide) (by simp) aB (by simp) (S 60 _ _ ?_)
        simp
        unfold InvW
        rw [show RC 34 = (LC 34).seq (RC 35) from rfl]
        refine J.seqc ?_
        simp only [LC, leftN, Go.Proofs.Tryz.f3, Option.getD]
        refine S 60 _ _ ?_
        simp
        refine CallW.ok (by decide) (by simp) hB (by simp) (S 60 _ _ ?_)
        simp [hwB]
        unfold InvW
        simp only [RC, rightN, Go.Proofs.Tryz.f3, Option.getD]
        refine S 60 _ _ ?_
        simp
      · have hE : E1 = [] := by
          by_cases hg : GoodC p l rows
          · unfold dualR at q1; rw [if_pos hg] at q1; simp only [Prod.mk.injEq] at q1; exact absurd q1.2.symm z1
          · unfold dualR at q1; rw [if_neg hg] at q1; simp only [Prod.mk.injEq] at q1; exact q1.1.2.2.symm
        rw [show RC 32 = (LC 32).seq (RC 33) from rfl]
        refine J.seqc ?_
        simp only [LC, leftN, Go.Proofs.Tryz.f3, Option.getD]
        refine S 60 _ _ ?_
        simp [z1, hE]
    have h31 : J Go.Proofs.Tryz.prog 439 w0 Q [.code (RC 31)] (⟨[(3, .c (.ref 64003 0)), (4, .c (.ref 64004 0)), (5, .c (.d (i64 e1))), (10, .c (.ob 65010)), (11, .c (.ref 64011 0)), (12, .c (.d (i64 e2)))], [(64003, .var [.d (i64 p), .d (i64 l), .ob 65003]), (65003, .arr 43 1 (rows.map fun xs => [oInts xs])), (64004, .var [.d (i64 p1), .d (i64 l1), .ob 65004]), (65004, .arr 43 1 (E1.map fun xs => [oInts xs])), (65010, .arr 43 1 (rows2.map fun xs => [oInts xs])), (64011, .var [.d (i64 p2'), .d (i64 l2'), .ob 65011]), (65011, .arr 43 1 (E2.map fun xs => [oInts xs]))]⟩) := by
      by_cases z2 : e2 = 0
      · subst z2
        have hg : GoodRows p2 l2 rows2 ∧ rows2.length ≤ 100 := by
          by_cases hg : GoodRows p2 l2 rows2 ∧ rows2.length ≤ 100
          · exact hg
          · unfold codeR at q2; rw [if_neg hg] at q2; simp at q2
        unfold codeR at q2
        rw [if_pos hg] at q2
        simp only [Prod.mk.injEq, and_true] at q2
        obtain ⟨rfl, rfl, hE⟩ := q2
        have hw2 := (code_word hg.1).2
        rw [hE] at hw2
        have cok : ∀ r ∈ rows2, CallOK Go.Proofs.Tryz.prog 32 [vCode p2 l2 E2, .one (vInts r)] (wres (true, 0)) := fun r hr => by rw [← hw2 r hr]; exact IsWordOf_ok p2 l2 E2 r n2.1 n2.2 (m2.2 r hr)
        rw [show RC 31 = (LC 31).seq (RC 32) from rfl]
        refine J.seqc ?_
        simp only [LC, leftN, Go.Proofs.Tryz.f3, Option.getD]
        refine S 60 _ _ ?_
        simp
        refine J.loop hw (fun i : Nat => ⟨[(3, .c (.ref 64003 0)), (4, .c (.ref 64004 0)), (5, .c (.d (i64 e1))), (10, .c (.ob 65010)), (11, .c (.ref 64011 0)), (12, .c (.d (i64 0))), (65, .c (.d (i64 i)))], [(64003, .var [.d (i64 p), .d (i64 l), .ob 65003]), (65003, .arr 43 1 (rows.map fun xs => [oInts xs])), (64004, .var [.d (i64 p1), .d (i64 l1), .ob 65004]), (65004, .arr 43 1 (E1.map fun xs => [oInts xs])), (65010, .arr 43 1 (rows2.map fun xs => [oInts xs])), (64011, .var [.d (i64 p2), .d (i64 l2), .ob 65011]), (65011, .arr 43 1 (E2.map fun xs => [oInts xs]))]⟩) (fun i => i ≤ rows2.length) (fun i => rows2.length - i) 0 (by simp) (by simp) ?_
        intro i hi
        refine S 12 _ _ ?_
        simp
        unfold Later
        refine ⟨fun hlt => ?_, fun hge => ?_⟩
        · obtain ⟨r, hr⟩ : ∃ r, rows2[i]? = some r := ⟨rows2[i], List.getElem?_eq_getElem hlt⟩
          have cW := cok r (List.mem_of_getElem? hr)
          refine S 60 _ _ ?_
          simp
          refine J.dr hF mixed 10 [[], [], [], [1, 2], [1, 2, 3], [0, 1, 2, 3, 4], [0, 1, 2, 3, 4, 5], [0, 1, 2, 3, 4, 5, 6], [0, 1, 2, 3, 4, 5, 6], [0, 1, 2, 3, 4, 5, 6, 7], [0, 1, 2, 3, 4, 5, 6, 7, 8, 9]] [[395, 396, 397, 398, 399, 400, 394, 401, 402, 66], [395, 396, 397, 398, 399, 400, 394, 401, 402, 66], [395, 396, 397, 398, 399, 400, 394, 401, 402, 66], [395, 398, 399, 400, 394, 401, 402, 66], [395, 399, 400, 394, 401, 402, 66], [400, 394, 401, 402, 66], [394, 401, 402, 66], [401, 402, 66], [401, 402, 66], [402, 66]] (by decide) ?_
          simp
          refine ⟨hlt, ?_⟩
          unfold Later
          intro r' hr'
          obtain rfl := Option.some.inj (hr.symm.trans hr')
          refine DrC.ok hF (by rfl) (by simp) cW (by simp) (by simp) ?_
          simp
          refine S 60 _ _ ?_
          simp
          exact Nxt.mk (i + 1) hlt (by simp [wrapS (i := i) (n := rows2.length) hlt (by omega)]) (by omega)
        · unfold InvW
          exact J.cleanC hw (⟨[(3, .c (.ref 64003 0)), (4, .c (.ref 64004 0)), (5, .c (.d (i64 e1)))], [(64003, .var [.d (i64 p), .d (i64 l), .ob 65003]), (65003, .arr 43 1 (rows.map fun xs => [oInts xs])), (64004, .var [.d (i64 p1), .d (i64 l1), .ob 65004]), (65004, .arr 43 1 (E1.map fun xs => [oInts xs]))]⟩) (by simp) h32
      · skip
        rw [show RC 31 = (LC 31).seq (RC 32) from rfl]
        refine J.seqc ?_
        simp only [LC, leftN, Go.Proofs.Tryz.f3, Option.getD]
        refine S 60 _ _ ?_
        simp [z2]
        unfold InvW
        exact J.cleanC hw (⟨[(3, .c (.ref 64003 0)), (4, .c (.ref 64004 0)), (5, .c (.d (i64 e1)))], [(64003, .var [.d (i64 p), .d (i64 l), .ob 65003]), (65003, .arr 43 1 (rows.map fun xs => [oInts xs])), (64004, .var [.d (i64 p1), .d (i64 l1), .ob 65004]), (65004, .arr 43 1 (E1.map fun xs => [oInts xs]))]⟩) (by simp) h32
    have h30 : J Go.Proofs.Tryz.prog 439 w0 Q [.code (RC 30)] (⟨[(3, .c (.ref 64003 0)), (4, .c (.ref 64004 0)), (5, .c (.d (i64 e1))), (10, .c (.ob 65010)), (11, .c (.ref 64011 0)), (12, .c (.d (i64 e2))), (25, .c (.ref 64025 0)), (26, .c (.ref 64026 0)), (27, .c (.d (i64 e5)))], [(64003, .var [.d (i64 p), .d (i64 l), .ob 65003]), (65003, .arr 43 1 (rows.map fun xs => [oInts xs])), (64004, .var [.d (i64 p1), .d (i64 l1), .ob 65004]), (65004, .arr 43 1 (E1.map fun xs => [oInts xs])), (65010, .arr 43 1 (rows2.map fun xs => [oInts xs])), (64011, .var [.d (i64 p2'), .d (i64 l2'), .ob 65011]), (65011, .arr 43 1 (E2.map fun xs => [oInts xs])), (64025, .var [.d (i64 p), .d (i64 l), .ob 65025]), (65025, .arr 43 1 (rows.map fun xs => [oInts xs])), (64026, .var [.d (i64 p5'), .d (i64 l5'), .ob 65026]), (65026, .arr 43 1 (E5.map fun xs => [oInts xs]))]⟩) := by
      by_cases z5 : e5 = 0
      · subst z5
        have hg : GoodC p l rows ∧ l ≠ 10 := by
          unfold extCR at q5
          split at q5
          · rename_i hg
            split at q5
            · simp at q5
            · rename_i h; exact ⟨hg, h⟩
          · simp at q5
        unfold extCR at q5
        rw [if_pos hg.1, if_neg hg.2] at q5
        simp only [Prod.mk.injEq, and_true] at q5
        obtain ⟨rfl, rfl, hE⟩ := q5
        obtain ⟨w1, w2, w3⟩ := ext_word hg.1 hg.2
        rw [hE] at w2 w3
        generalize dualL p (l.toNat + 1) (echL p [onesL (l.toNat + 1)]) = EV at *
        have nV : EV.length ≤ 1048576 ∧ ∀ r ∈ EV, r.length ≤ 1048576 := by
          obtain ⟨_, _, EV', _, qN, kN⟩ := namR_small sEven p (l + 1)
          rw [w1] at qN
          simp only [Prod.mk.injEq] at qN
          rw [qN.1.2.2]
          exact two_m kN
        have aN := NamedCode_ok sEven p (l + 1) (by decide)
        rw [w1] at aN
        have aI := IsCode_ok p (l + 1) E5 n5.1 n5.2
        rw [decide_eq_true w2] at aI
        have hwl : IntKind.i64.wrap (l + 1) = l + 1 := wrap64 (by have := hg.1.1.1.2; omega) (by have := hg.1.1.1.2; omega)
        have cok : ∀ r ∈ E5, CallOK Go.Proofs.Tryz.prog 32 [vCode p (l + 1) EV, .one (vInts r)] (wres (true, 0)) := fun r hr => by rw [← w3 r hr]; exact IsWordOf_ok p (l + 1) EV r nV.1 nV.2 (n5.2 r hr)
        rw [show RC 30 = (LC 30).seq (RC 31) from rfl]
        refine J.seqc ?_
        simp only [LC, leftN, Go.Proofs.Tryz.f3, Option.getD]
        refine S 60 _ _ ?_
        simp [hwl]
        refine CallW.ok (by decide) (by simp; rfl) aN (by simp) (S 60 _ _ ?_)
        simp
        refine CallW.ok (by decide) (by simp) aI (by simp) (S 60 _ _ ?_)
        simp
        refine J.loop hw (fun i : Nat => ⟨[(3, .c (.ref 64003 0)), (4, .c (.ref 64004 0)), (5, .c (.d (i64 e1))), (10, .c (.ob 65010)), (11, .c (.ref 64011 0)), (12, .c (.d (i64 e2))), (25, .c (.ref 64025 0)), (26, .c (.ref 64026 0)), (27, .c (.d (i64 0))), (60, .c (.ref 64060 0)), (62, .c (.d (i64 i)))], [(64003, .var [.d (i64 p), .d (i64 l), .ob 65003]), (65003, .arr 43 1 (rows.map fun xs => [oInts xs])), (64004, .var [.d (i64 p1), .d (i64 l1), .ob 65004]), (65004, .arr 43 1 (E1.map fun xs => [oInts xs])), (65010, .arr 43 1 (rows2.map fun xs => [oInts xs])), (64011, .var [.d (i64 p2'), .d (i64 l2'), .ob 65011]), (65011, .arr 43 1 (E2.map fun xs => [oInts xs])), (64025, .var [.d (i64 p), .d (i64 l), .ob 65025]), (65025, .arr 43 1 (rows.map fun xs => [oInts xs])), (64026, .var [.d (i64 p), .d (i64 (l + 1)), .ob 65026]), (65026, .arr 43 1 (E5.map fun xs => [oInts xs])), (64060, .var [.d (i64 p), .d (i64 (l + 1)), .ob 65060]), (65060, .arr 43 1 (EV.map fun xs => [oInts xs]))]⟩) (fun i => i ≤ E5.length) (fun i => E5.length - i) 0 (by simp) (by simp) ?_
        intro i hi
        refine S 12 _ _ ?_
        simp
        unfold Later
        refine ⟨fun hlt => ?_, fun hge => ?_⟩
        · obtain ⟨r, hr⟩ : ∃ r, E5[i]? = some r := ⟨E5[i], List.getElem?_eq_getElem hlt⟩
          have cW := cok r (List.mem_of_getElem? hr)
          refine S 60 _ _ ?_
          simp
          refine J.dr hF mixed 11 [[], [], [1], [], [1, 2, 3], [1, 2, 3, 4], [0, 1, 2, 3, 4, 5], [0, 1, 2, 3, 4, 5, 6], [0, 1, 2, 3, 4, 5, 6, 7], [0, 1, 2, 3, 4, 5, 6, 7], [0, 1, 2, 3, 4, 5, 6, 7, 8], [0, 1, 2, 3, 4, 5, 6, 7, 8, 9, 10]] [[371, 372, 373, 374, 375, 376, 377, 370, 378, 379, 63], [371, 372, 373, 374, 375, 376, 377, 370, 378, 379, 63], [371, 373, 374, 375, 376, 377, 370, 378, 379, 63], [371, 372, 373, 374, 375, 376, 377, 370, 378, 379, 63], [371, 375, 376, 377, 370, 378, 379, 63], [371, 376, 377, 370, 378, 379, 63], [377, 370, 378, 379, 63], [370, 378, 379, 63], [378, 379, 63], [378, 379, 63], [379, 63]] (by decide) ?_
          simp
          refine ⟨hlt, ?_⟩
          unfold Later
          intro r' hr'
          obtain rfl := Option.some.inj (hr.symm.trans hr')
          refine DrC.ok hF (by rfl) (by simp) cW (by simp) (by simp) ?_
          simp
          refine S 60 _ _ ?_
          simp
          exact Nxt.mk (i + 1) hlt (by simp [wrapS (i := i) (n := E5.length) hlt (by omega)]) (by omega)
        · unfold InvW
          exact J.cleanC hw (⟨[(3, .c (.ref 64003 0)), (4, .c (.ref 64004 0)), (5, .c (.d (i64 e1))), (10, .c (.ob 65010)), (11, .c (.ref 64011 0)), (12, .c (.d (i64 e2)))], [(64003, .var [.d (i64 p), .d (i64 l), .ob 65003]), (65003, .arr 43 1 (rows.map fun xs => [oInts xs])), (64004, .var [.d (i64 p1), .d (i64 l1), .ob 65004]), (65004, .arr 43 1 (E1.map fun xs => [oInts xs])), (65010, .arr 43 1 (rows2.map fun xs => [oInts xs])), (64011, .var [.d (i64 p2'), .d (i64 l2'), .ob 65011]), (65011, .arr 43 1 (E2.map fun xs => [oInts xs]))]⟩) (by simp) h31
      · skip
        rw [show RC 30 = (LC 30).seq (RC 31) from rfl]
        refine J.seqc ?_
        simp only [LC, leftN, Go.Proofs.Tryz.f3, Option.getD]
        refine S 60 _ _ ?_
        simp [z5]
        unfold InvW
        exact J.cleanC hw (⟨[(3, .c (.ref 64003 0)), (4, .c (.ref 64004 0)), (5, .c (.d (i64 e1))), (10, .c (.ob 65010)), (11, .c (.ref 64011 0)), (12, .c (.d (i64 e2)))], [(64003, .var [.d (i64 p), .d (i64 l), .ob 65003]), (65003, .arr 43 1 (rows.map fun xs => [oInts xs])), (64004, .var [.d (i64 p1), .d (i64 l1), .ob 65004]), (65004, .arr 43 1 (E1.map fun xs => [oInts xs])), (65010, .arr 43 1 (rows2.map fun xs => [oInts xs])), (64011, .var [.d (i64 p2'), .d (i64 l2'), .ob 65011]), (65011, .arr 43 1 (E2.map fun xs => [oInts xs]))]⟩) (by simp) h31
    have h29 : J Go.Proofs.Tryz.prog 439 w0 Q [.code (RC 29)] (⟨[(3, .c (.ref 64003 0)), (4, .c (.ref 64004 0)), (5, .c (.d (i64 e1))), (10, .c (.ob 65010)), (11, .c (.ref 64011 0)), (12, .c (.d (i64 e2))), (15, .c (.ref 64015 0)), (16, .c (.d (i64 i3))), (17, .c (.ref 64017 0)), (18, .c (.d (i64 e3))), (25, .c (.ref 64025 0)), (26, .c (.ref 64026 0)), (27, .c (.d (i64 e5)))], [(64003, .var [.d (i64 p), .d (i64 l), .ob 65003]), (65003, .arr 43 1 (rows.map fun xs => [oInts xs])), (64004, .var [.d (i64 p1), .d (i64 l1), .ob 65004]), (65004, .arr 43 1 (E1.map fun xs => [oInts xs])), (65010, .arr 43 1 (rows2.map fun xs => [oInts xs])), (64011, .var [.d (i64 p2'), .d (i64 l2'), .ob 65011]), (65011, .arr 43 1 (E2.map fun xs => [oInts xs])), (64015, .var [.d (i64 p3), .d (i64 l3), .ob 65015]), (65015, .arr 43 1 (rows3.map fun xs => [oInts xs])), (64017, .var [.d (i64 p3'), .d (i64 l3'), .ob 65017]), (65017, .arr 43 1 (E3.map fun xs => [oInts xs])), (64025, .var [.d (i64 p), .d (i64 l), .ob 65025]), (65025, .arr 43 1 (rows.map fun xs => [oInts xs])), (64026, .var [.d (i64 p5'), .d (i64 l5'), .ob 65026]), (65026, .arr 43 1 (E5.map fun xs => [oInts xs]))]⟩) := by
      by_cases z3 : e3 = 0
      · subst z3
        have hg : placeN p3 l3 rows3 i3 = 0 := by
          unfold shoR at q3
          split at q3
          · rename_i h; exact h
          · simp only [Prod.mk.injEq] at q3; exact q3.2
        obtain ⟨ES, s1, s2, s3, s4⟩ := short_facts hg
        rw [s1] at q3
        simp only [Prod.mk.injEq, and_true] at q3
        obtain ⟨rfl, rfl, rfl⟩ := q3
        have aA := DualCode_ok p3 (l3 - 1) ES n3.1 n3.2
        have aO := DualCode_ok p3 l3 rows3 m3.1 m3.2
        have nO : (dualL p3 l3.toNat rows3).length ≤ 1048576 ∧ ∀ r ∈ dualL p3 l3.toNat rows3, r.length ≤ 1048576 := by
          obtain ⟨_, _, E, _, qN, kN⟩ := dualR_small p3 l3 rows3
          rw [s3] at qN
          simp only [Prod.mk.injEq] at qN
          rw [qN.1.2.2]
          exact two_m kN
        have aP := PunctureCode_ok p3 l3 (dualL p3 l3.toNat rows3) i3 nO.1 nO.2
        have nP : (echL p3 ((dualL p3 l3.toNat rows3).map (cutR i3.toNat))).length ≤ 1048576 ∧ ∀ r ∈ echL p3 ((dualL p3 l3.toNat rows3).map (cutR i3.toNat)), r.length ≤ 1048576 := by
          obtain ⟨_, _, E, _, qN, kN⟩ := punR_small p3 l3 (dualL p3 l3.toNat rows3) i3
          rw [s4] at qN
          simp only [Prod.mk.injEq] at qN
          rw [qN.1.2.2]
          exact two_m kN
        rw [s2] at aA
        rw [s3] at aO
        rw [s4] at aP
        generalize echL p3 ((dualL p3 l3.toNat rows3).map (cutR i3.toNat)) = EP at *
        generalize dualL p3 l3.toNat rows3 = EO at *
        have hP := codes9_ok p3 (l3 - 1) EP (by omega) (fun r hr => by have := nP.2 r hr; omega)
        rw [show RC 29 = (LC 29).seq (RC 30) from rfl]
        refine J.seqc ?_
        simp only [LC, leftN, Go.Proofs.Tryz.f3, Option.getD]
        refine S 60 _ _ ?_
        simp
        refine CallW.ok (by decide) (by simp) aA (by simp) (S 60 _ _ ?_)
        simp
        refine CallW.ok (by decide) (by simp) aO (by simp) (S 60 _ _ ?_)
        simp
        refine CallW.ok (by decide) (by simp) aP (by simp) (S 60 _ _ ?_)
        simp
        refine CallW.ok (by decide) (by simp) hP (by simp) (S 60 _ _ ?_)
        simp
        unfold InvW
        exact J.cleanC hw (⟨[(3, .c (.ref 64003 0)), (4, .c (.ref 64004 0)), (5, .c (.d (i64 e1))), (10, .c (.ob 65010)), (11, .c (.ref 64011 0)), (12, .c (.d (i64 e2))), (25, .c (.ref 64025 0)), (26, .c (.ref 64026 0)), (27, .c (.d (i64 e5)))], [(64003, .var [.d (i64 p), .d (i64 l), .ob 65003]), (65003, .arr 43 1 (rows.map fun xs => [oInts xs])), (64004, .var [.d (i64 p1), .d (i64 l1), .ob 65004]), (65004, .arr 43 1 (E1.map fun xs => [oInts xs])), (65010, .arr 43 1 (rows2.map fun xs => [oInts xs])), (64011, .var [.d (i64 p2'), .d (i64 l2'), .ob 65011]), (65011, .arr 43 1 (E2.map fun xs => [oInts xs])), (64025, .var [.d (i64 p), .d (i64 l), .ob 65025]), (65025, .arr 43 1 (rows.map fun xs => [oInts xs])), (64026, .var [.d (i64 p5'), .d (i64 l5'), .ob 65026]), (65026, .arr 43 1 (E5.map fun xs => [oInts xs]))]⟩) (by simp) h30
      · skip
        rw [show RC 29 = (LC 29).seq (RC 30) from rfl]
        refine J.seqc ?_
        simp only [LC, leftN, Go.Proofs.Tryz.f3, Option.getD]
        refine S 60 _ _ ?_
        simp [z3]
        unfold InvW
        exact J.cleanC hw (⟨[(3, .c (.ref 64003 0)), (4, .c (.ref 64004 0)), (5, .c (.d (i64 e1))), (10, .c (.ob 65010)), (11, .c (.ref 64011 0)), (12, .c (.d (i64 e2))), (25, .c (.ref 64025 0)), (26, .c (.ref 64026 0)), (27, .c (.d (i64 e5)))], [(64003, .var [.d (i64 p), .d (i64 l), .ob 65003]), (65003, .arr 43 1 (rows.map fun xs => [oInts xs])), (64004, .var [.d (i64 p1), .d (i64 l1), .ob 65004]), (65004, .arr 43 1 (E1.map fun xs => [oInts xs])), (65010, .arr 43 1 (rows2.map fun xs => [oInts xs])), (64011, .var [.d (i64 p2'), .d (i64 l2'), .ob 65011]), (65011, .arr 43 1 (E2.map fun xs => [oInts xs])), (64025, .var [.d (i64 p), .d (i64 l), .ob 65025]), (65025, .arr 43 1 (rows.map fun xs => [oInts xs])), (64026, .var [.d (i64 p5'), .d (i64 l5'), .ob 65026]), (65026, .arr 43 1 (E5.map fun xs => [oInts xs]))]⟩) (by simp) h30
    have h28 : J Go.Proofs.Tryz.prog 439 w0 Q [.code (RC 28)] (⟨[(0, .c (.d (vB bs))), (2, .c (.d (.v (.bool false)))), (3, .c (.ref 64003 0)), (4, .c (.ref 64004 0)), (5, .c (.d (i64 e1))), (10, .c (.ob 65010)), (11, .c (.ref 64011 0)), (12, .c (.d (i64 e2))), (15, .c (.ref 64015 0)), (16, .c (.d (i64 i3))), (17, .c (.ref 64017 0)), (18, .c (.d (i64 e3))), (25, .c (.ref 64025 0)), (26, .c (.ref 64026 0)), (27, .c (.d (i64 e5))), (49, .c (.ref 64049 0)), (50, .c (.d (.v (.bool r9)))), (51, .c (.d (i64 e9)))], [(64003, .var [.d (i64 p), .d (i64 l), .ob 65003]), (65003, .arr 43 1 (rows.map fun xs => [oInts xs])), (64004, .var [.d (i64 p1), .d (i64 l1), .ob 65004]), (65004, .arr 43 1 (E1.map fun xs => [oInts xs])), (65010, .arr 43 1 (rows2.map fun xs => [oInts xs])), (64011, .var [.d (i64 p2'), .d (i64 l2'), .ob 65011]), (65011, .arr 43 1 (E2.map fun xs => [oInts xs])), (64015, .var [.d (i64 p3), .d (i64 l3), .ob 65015]), (65015, .arr 43 1 (rows3.map fun xs => [oInts xs])), (64017, .var [.d (i64 p3'), .d (i64 l3'), .ob 65017]), (65017, .arr 43 1 (E3.map fun xs => [oInts xs])), (64025, .var [.d (i64 p), .d (i64 l), .ob 65025]), (65025, .arr 43 1 (rows.map fun xs => [oInts xs])), (64026, .var [.d (i64 p5'), .d (i64 l5'), .ob 65026]), (65026, .arr 43 1 (E5.map fun xs => [oInts xs])), (64049, .var [.d (i64 p10), .d (i64 l10), .ob 65049]), (65049, .arr 43 1 (rows10.map fun xs => [oInts xs]))]⟩) := by
      by_cases z9 : e9 = 0
      · subst z9
        cases r9 with
        | false =>
          rw [show RC 28 = (LC 28).seq (RC 29) from rfl]
          refine J.seqc ?_
          simp only [LC, leftN, Go.Proofs.Tryz.f3, Option.getD]
          refine S 60 _ _ ?_
          simp
          unfold InvW
          exact J.cleanC hw (⟨[(3, .c (.ref 64003 0)), (4, .c (.ref 64004 0)), (5, .c (.d (i64 e1))), (10, .c (.ob 65010)), (11, .c (.ref 64011 0)), (12, .c (.d (i64 e2))), (15, .c (.ref 64015 0)), (16, .c (.d (i64 i3))), (17, .c (.ref 64017 0)), (18, .c (.d (i64 e3))), (25, .c (.ref 64025 0)), (26, .c (.ref 64026 0)), (27, .c (.d (i64 e5)))], [(64003, .var [.d (i64 p), .d (i64 l), .ob 65003]), (65003, .arr 43 1 (rows.map fun xs => [oInts xs])), (64004, .var [.d (i64 p1), .d (i64 l1), .ob 65004]), (65004, .arr 43 1 (E1.map fun xs => [oInts xs])), (65010, .arr 43 1 (rows2.map fun xs => [oInts xs])), (64011, .var [.d (i64 p2'), .d (i64 l2'), .ob 65011]), (65011, .arr 43 1 (E2.map fun xs => [oInts xs])), (64015, .var [.d (i64 p3), .d (i64 l3), .ob 65015]), (65015, .arr 43 1 (rows3.map fun xs => [oInts xs])), (64017, .var [.d (i64 p3'), .d (i64 l3'), .ob 65017]), (65017, .arr 43 1 (E3.map fun xs => [oInts xs])), (64025, .var [.d (i64 p), .d (i64 l), .ob 65025]), (65025, .arr 43 1 (rows.map fun xs => [oInts xs])), (64026, .var [.d (i64 p5'), .d (i64 l5'), .ob 65026]), (65026, .arr 43 1 (E5.map fun xs => [oInts xs]))]⟩) (by simp) h29
        | true =>
          have hh := self_half q9
          have hwh : IntKind.i64.wrap (2 * (rows10.length : Int)) = l10 := by rw [hh]; exact wrap64 (by have := m9.1; omega) (by have := m9.1; omega)
          rw [show RC 28 = (LC 28).seq (RC 29) from rfl]
          refine J.seqc ?_
          simp only [LC, leftN, Go.Proofs.Tryz.f3, Option.getD]
          refine S 60 _ _ ?_
          simp [hwh]
          unfold InvW
          exact J.cleanC hw (⟨[(3, .c (.ref 64003 0)), (4, .c (.ref 64004 0)), (5, .c (.d (i64 e1))), (10, .c (.ob 65010)), (11, .c (.ref 64011 0)), (12, .c (.d (i64 e2))), (15, .c (.ref 64015 0)), (16, .c (.d (i64 i3))), (17, .c (.ref 64017 0)), (18, .c (.d (i64 e3))), (25, .c (.ref 64025 0)), (26, .c (.ref 64026 0)), (27, .c (.d (i64 e5)))], [(64003, .var [.d (i64 p), .d (i64 l), .ob 65003]), (65003, .arr 43 1 (rows.map fun xs => [oInts xs])), (64004, .var [.d (i64 p1), .d (i64 l1), .ob 65004]), (65004, .arr 43 1 (E1.map fun xs => [oInts xs])), (65010, .arr 43 1 (rows2.map fun xs => [oInts xs])), (64011, .var [.d (i64 p2'), .d (i64 l2'), .ob 65011]), (65011, .arr 43 1 (E2.map fun xs => [oInts xs])), (64015, .var [.d (i64 p3), .d (i64 l3), .ob 65015]), (65015, .arr 43 1 (rows3.map fun xs => [oInts xs])), (64017, .var [.d (i64 p3'), .d (i64 l3'), .ob 65017]), (65017, .arr 43 1 (E3.map fun xs => [oInts xs])), (64025, .var [.d (i64 p), .d (i64 l), .ob 65025]), (65025, .arr 43 1 (rows.map fun xs => [oInts xs])), (64026, .var [.d (i64 p5'), .d (i64 l5'), .ob 65026]), (65026, .arr 43 1 (E5.map fun xs => [oInts xs]))]⟩) (by simp) h29
      · skip
        rw [show RC 28 = (LC 28).seq (RC 29) from rfl]
        refine J.seqc ?_
        simp only [LC, leftN, Go.Proofs.Tryz.f3, Option.getD]
        refine S 60 _ _ ?_
        simp [z9]
        unfold InvW
        exact J.cleanC hw (⟨[(3, .c (.ref 64003 0)), (4, .c (.ref 64004 0)), (5, .c (.d (i64 e1))), (10, .c (.ob 65010)), (11, .c (.ref 64011 0)), (12, .c (.d (i64 e2))), (15, .c (.ref 64015 0)), (16, .c (.d (i64 i3))), (17, .c (.ref 64017 0)), (18, .c (.d (i64 e3))), (25, .c (.ref 64025 0)), (26, .c (.ref 64026 0)), (27, .c (.d (i64 e5)))], [(64003, .var [.d (i64 p), .d (i64 l), .ob 65003]), (65003, .arr 43 1 (rows.map fun xs => [oInts xs])), (64004, .var [.d (i64 p1), .d (i64 l1), .ob 65004]), (65004, .arr 43 1 (E1.map fun xs => [oInts xs])), (65010, .arr 43 1 (rows2.map fun xs => [oInts xs])), (64011, .var [.d (i64 p2'), .d (i64 l2'), .ob 65011]), (65011, .arr 43 1 (E2.map fun xs => [oInts xs])), (64015, .var [.d (i64 p3), .d (i64 l3), .ob 65015]), (65015, .arr 43 1 (rows3.map fun xs => [oInts xs])), (64017, .var [.d (i64 p3'), .d (i64 l3'), .ob 65017]), (65017, .arr 43 1 (E3.map fun xs => [oInts xs])), (64025, .var [.d (i64 p), .d (i64 l), .ob 65025]), (65025, .arr 43 1 (rows.map fun xs => [oInts xs])), (64026, .var [.d (i64 p5'), .d (i64 l5'), .ob 65026]), (65026, .arr 43 1 (E5.map fun xs => [oInts xs]))]⟩) (by simp) h29
    skip
    show J _ _ w0 _ [.code (RC 0)] _
    rw [show RC 0 = (LC 0).seq (RC 1) from rfl]
    refine J.seqc ?_
    simp only [LC, leftN, Go.Proofs.Tryz.f3, Option.getD]
    refine S 60 _ _ ?_
    simp
    unfold InvW
    rw [show RC 1 = (LC 1).seq (RC 2) from rfl]
    refine J.seqc ?_
    simp only [LC, leftN, Go.Proofs.Tryz.f3, Option.getD]
    refine S 60 _ _ ?_
    simp
    refine CallW.ok (by decide) (by simp) cbig (by simp) (S 60 _ _ ?_)
    simp
    unfold InvW
    rw [show RC 2 = (LC 2).seq (RC 3) from rfl]
    refine J.seqc ?_
    simp only [LC, leftN, Go.Proofs.Tryz.f3, Option.getD]
    refine S 60 _ _ ?_
    simp
    refine CallW.ok (by decide) (by simp) d1 (by simp) (S 60 _ _ ?_)
    simp
    unfold InvW
    rw [show RC 3 = (LC 3).seq (RC 4) from rfl]
    refine J.seqc ?_
    simp only [LC, leftN, Go.Proofs.Tryz.f3, Option.getD]
    refine S 60 _ _ ?_
    simp
    refine CallW.ok (by decide) (by simp) a1 (by simp) (S 60 _ _ ?_)
    simp
    unfold InvW
    rw [show RC 4 = (LC 4).seq (RC 5) from rfl]
    refine J.seqc ?_
    simp only [LC, leftN, Go.Proofs.Tryz.f3, Option.getD]
    refine S 60 _ _ ?_
    simp
    refine CallW.ok (by decide) (by simp) b1 (by simp) (S 60 _ _ ?_)
    simp
    refine J.dr hF mixed 13 [[], [], [0, 1], [0, 1, 2], [0, 1, 2, 3], [0, 1, 2, 3], [0, 1, 2, 3, 4, 5], [0, 1, 2, 3, 4, 5, 6], [0, 1, 2, 3, 4, 5, 6, 7], [0, 1, 2, 3, 4, 5, 6, 7, 8], [0, 1, 2, 3, 4, 5, 6, 7, 8, 9], [0, 1, 2, 3, 4, 5, 6, 7, 8, 9, 10], [0, 1, 2, 3, 4, 5, 6, 7, 8, 9], [0, 1, 2, 3, 4, 5, 6, 7, 8, 9, 10, 11, 12], [0, 1, 2, 3, 4, 5, 6, 7, 8, 9, 10, 11, 12, 13], [0, 1, 2, 3, 4, 5, 6, 7, 8, 9, 10, 11, 12, 13, 14]] [[84, 85, 86, 87, 88, 89, 90, 91, 92, 93, 94, 95, 96], [84, 85, 86, 87, 88, 89, 90, 91, 92, 93, 94, 95, 96], [86, 87, 88, 89, 90, 91, 92, 93, 94, 95, 96], [87, 88, 89, 90, 91, 92, 93, 94, 95, 96], [88, 89, 90, 91, 92, 93, 94, 95, 96], [88, 89, 90, 91, 92, 93, 94, 95, 96], [90, 91, 92, 93, 94, 95, 96], [91, 92, 93, 94, 95, 96], [92, 93, 94, 95, 96], [93, 94, 95, 96], [94, 95, 96], [95, 96], [94, 95, 96]] (by decide) ?_
    simp
    refine DrC.ok hF (by rfl) (by simp) h1 (by simp) (by simp) ?_
    simp
    refine DrC.ok hF (by rfl) (by simp) f1 (by simp) (by simp) ?_
    simp
    refine S 60 _ _ ?_
    simp
    refine CallW.ok (by decide) (by simp) g1 (by simp) (S 60 _ _ ?_)
    simp
    unfold InvW
    refine J.cleanC hw (t := ⟨[(0, .c (.d (vB bs))), (2, .c (.d (.v (.bool false)))), (3, .c (.ref 64003 0)), (4, .c (.ref 64004 0)), (5, .c (.d (i64 e1)))], [(64003, .var [.d (i64 p), .d (i64 l), .ob 65003]), (65003, .arr 43 1 (rows.map fun xs => [oInts xs])), (64004, .var [.d (i64 p1), .d (i64 l1), .ob 65004]), (65004, .arr 43 1 (E1.map fun xs => [oInts xs]))]⟩) (by simp) ?_
    rw [show RC 5 = (LC 5).seq (RC 6) from rfl]
    refine J.seqc ?_
    simp only [LC, leftN, Go.Proofs.Tryz.f3, Option.getD]
    refine S 60 _ _ ?_
    simp
    refine CallW.ok (by decide) (by simp) d2 (by simp) (S 60 _ _ ?_)
    simp
    unfold InvW
    rw [show RC 6 = (LC 6).seq (RC 7) from rfl]
    refine J.seqc ?_
    simp only [LC, leftN, Go.Proofs.Tryz.f3, Option.getD]
    refine S 60 _ _ ?_
    simp
    refine CallW.ok (by decide) (by simp) a2 (by simp) (S 60 _ _ ?_)
    simp
    unfold InvW
    rw [show RC 7 = (LC 7).seq (RC 8) from rfl]
    refine J.seqc ?_
    simp only [LC, leftN, Go.Proofs.Tryz.f3, Option.getD]
    refine S 60 _ _ ?_
    simp
    refine CallW.ok (by decide) (by simp) b2 (by simp) (S 60 _ _ ?_)
    simp
    refine CallW.ok (by decide) (by simp) h2 (by simp) (S 60 _ _ ?_)
    simp
    unfold InvW
    refine J.cleanC hw (t := ⟨[(0, .c (.d (vB bs))), (2, .c (.d (.v (.bool false)))), (3, .c (.ref 64003 0)), (4, .c (.ref 64004 0)), (5, .c (.d (i64 e1))), (10, .c (.ob 65010)), (11, .c (.ref 64011 0)), (12, .c (.d (i64 e2)))], [(64003, .var [.d (i64 p), .d (i64 l), .ob 65003]), (65003, .arr 43 1 (rows.map fun xs => [oInts xs])), (64004, .var [.d (i64 p1), .d (i64 l1), .ob 65004]), (65004, .arr 43 1 (E1.map fun xs => [oInts xs])), (65010, .arr 43 1 (rows2.map fun xs => [oInts xs])), (64011, .var [.d (i64 p2'), .d (i64 l2'), .ob 65011]), (65011, .arr 43 1 (E2.map fun xs => [oInts xs]))]⟩) (by simp) ?_
    rw [show RC 8 = (LC 8).seq (RC 9) from rfl]
    refine J.seqc ?_
    simp only [LC, leftN, Go.Proofs.Tryz.f3, Option.getD]
    refine S 60 _ _ ?_
    simp
    refine CallW.ok (by decide) (by simp) d3 (by simp) (S 60 _ _ ?_)
    simp
    unfold InvW
    rw [show RC 9 = (LC 9).seq (RC 10) from rfl]
    refine J.seqc ?_
    simp only [LC, leftN, Go.Proofs.Tryz.f3, Option.getD]
    refine S 60 _ _ ?_
    simp
    refine CallW.ok (by decide) (by simp) a3 (by simp) (S 60 _ _ ?_)
    simp
    unfold InvW
    rw [show RC 10 = (LC 10).seq (RC 11) from rfl]
    refine J.seqc ?_
    simp only [LC, leftN, Go.Proofs.Tryz.f3, Option.getD]
    refine S 60 _ _ ?_
    simp
    refine CallW.ok (by decide) (by simp) b3 (by simp) (S 60 _ _ ?_)
    simp
    refine CallW.ok (by decide) (by simp) h3 (by simp) (S 60 _ _ ?_)
    simp
    unfold InvW
    refine J.cleanC hw (t := ⟨[(0, .c (.d (vB bs))), (2, .c (.d (.v (.bool false)))), (3, .c (.ref 64003 0)), (4, .c (.ref 64004 0)), (5, .c (.d (i64 e1))), (10, .c (.ob 65010)), (11, .c (.ref 64011 0)), (12, .c (.d (i64 e2))), (15, .c (.ref 64015 0)), (16, .c (.d (i64 i3))), (17, .c (.ref 64017 0)), (18, .c (.d (i64 e3)))], [(64003, .var [.d (i64 p), .d (i64 l), .ob 65003]), (65003, .arr 43 1 (rows.map fun xs => [oInts xs])), (64004, .var [.d (i64 p1), .d (i64 l1), .ob 65004]), (65004, .arr 43 1 (E1.map fun xs => [oInts xs])), (65010, .arr 43 1 (rows2.map fun xs => [oInts xs])), (64011, .var [.d (i64 p2'), .d (i64 l2'), .ob 65011]), (65011, .arr 43 1 (E2.map fun xs => [oInts xs])), (64015, .var [.d (i64 p3), .d (i64 l3), .ob 65015]), (65015, .arr 43 1 (rows3.map fun xs => [oInts xs])), (64017, .var [.d (i64 p3'), .d (i64 l3'), .ob 65017]), (65017, .arr 43 1 (E3.map fun xs => [oInts xs]))]⟩) (by simp) ?_
    rw [show RC 11 = (LC 11).seq (RC 12) from rfl]
    refine J.seqc ?_
    simp only [LC, leftN, Go.Proofs.Tryz.f3, Option.getD]
    refine S 60 _ _ ?_
    simp
    refine CallW.ok (by decide) (by simp) a4 (by simp) (S 60 _ _ ?_)
    simp
    unfold InvW
    rw [show RC 12 = (LC 12).seq (RC 13) from rfl]
    refine J.seqc ?_
    simp only [LC, leftN, Go.Proofs.Tryz.f3, Option.getD]
    refine S 60 _ _ ?_
    simp
    refine CallW.ok (by decide) (by simp) b4 (by simp) (S 60 _ _ ?_)
    simp
    refine CallW.ok (by decide) (by simp) h4 (by simp) (S 60 _ _ ?_)
    simp
    unfold InvW
    refine J.cleanC hw (t := ⟨[(0, .c (.d (vB bs))), (2, .c (.d (.v (.bool false)))), (3, .c (.ref 64003 0)), (4, .c (.ref 64004 0)), (5, .c (.d (i64 e1))), (10, .c (.ob 65010)), (11, .c (.ref 64011 0)), (12, .c (.d (i64 e2))), (15, .c (.ref 64015 0)), (16, .c (.d (i64 i3))), (17, .c (.ref 64017 0)), (18, .c (.d (i64 e3)))], [(64003, .var [.d (i64 p), .d (i64 l), .ob 65003]), (65003, .arr 43 1 (rows.map fun xs => [oInts xs])), (64004, .var [.d (i64 p1), .d (i64 l1), .ob 65004]), (65004, .arr 43 1 (E1.map fun xs => [oInts xs])), (65010, .arr 43 1 (rows2.map fun xs => [oInts xs])), (64011, .var [.d (i64 p2'), .d (i64 l2'), .ob 65011]), (65011, .arr 43 1 (E2.map fun xs => [oInts xs])), (64015, .var [.d (i64 p3), .d (i64 l3), .ob 65015]), (65015, .arr 43 1 (rows3.map fun xs => [oInts xs])), (64017, .var [.d (i64 p3'), .d (i64 l3'), .ob 65017]), (65017, .arr 43 1 (E3.map fun xs => [oInts xs]))]⟩) (by simp) ?_
    rw [show RC 13 = (LC 13).seq (RC 14) from rfl]
    refine J.seqc ?_
    simp only [LC, leftN, Go.Proofs.Tryz.f3, Option.getD]
    refine S 60 _ _ ?_
    simp
    refine CallW.ok (by decide) (by simp) d5 (by simp) (S 60 _ _ ?_)
    simp
    unfold InvW
    rw [show RC 14 = (LC 14).seq (RC 15) from rfl]
    refine J.seqc ?_
    simp only [LC, leftN, Go.Proofs.Tryz.f3, Option.getD]
    refine S 60 _ _ ?_
    simp
    refine CallW.ok (by decide) (by simp) a5 (by simp) (S 60 _ _ ?_)
    simp
    unfold InvW
    rw [show RC 15 = (LC 15).seq (RC 16) from rfl]
    refine J.seqc ?_
    simp only [LC, leftN, Go.Proofs.Tryz.f3, Option.getD]
    refine S 60 _ _ ?_
    simp
    refine CallW.ok (by decide) (by simp) b5 (by simp) (S 60 _ _ ?_)
    simp
    refine CallW.ok (by decide) (by simp) h5 (by simp) (S 60 _ _ ?_)
    simp
    unfold InvW
    refine J.cleanC hw (t := ⟨[(0, .c (.d (vB bs))), (2, .c (.d (.v (.bool false)))), (3, .c (.ref 64003 0)), (4, .c (.ref 64004 0)), (5, .c (.d (i64 e1))), (10, .c (.ob 65010)), (11, .c (.ref 64011 0)), (12, .c (.d (i64 e2))), (15, .c (.ref 64015 0)), (16, .c (.d (i64 i3))), (17, .c (.ref 64017 0)), (18, .c (.d (i64 e3))), (25, .c (.ref 64025 0)), (26, .c (.ref 64026 0)), (27, .c (.d (i64 e5)))], [(64003, .var [.d (i64 p), .d (i64 l), .ob 65003]), (65003, .arr 43 1 (rows.map fun xs => [oInts xs])), (64004, .var [.d (i64 p1), .d (i64 l1), .ob 65004]), (65004, .arr 43 1 (E1.map fun xs => [oInts xs])), (65010, .arr 43 1 (rows2.map fun xs => [oInts xs])), (64011, .var [.d (i64 p2'), .d (i64 l2'), .ob 65011]), (65011, .arr 43 1 (E2.map fun xs => [oInts xs])), (64015, .var [.d (i64 p3), .d (i64 l3), .ob 65015]), (65015, .arr 43 1 (rows3.map fun xs => [oInts xs])), (64017, .var [.d (i64 p3'), .d (i64 l3'), .ob 65017]), (65017, .arr 43 1 (E3.map fun xs => [oInts xs])), (64025, .var [.d (i64 p), .d (i64 l), .ob 65025]), (65025, .arr 43 1 (rows.map fun xs => [oInts xs])), (64026, .var [.d (i64 p5'), .d (i64 l5'), .ob 65026]), (65026, .arr 43 1 (E5.map fun xs => [oInts xs]))]⟩) (by simp) ?_
    rw [show RC 16 = (LC 16).seq (RC 17) from rfl]
    refine J.seqc ?_
    simp only [LC, leftN, Go.Proofs.Tryz.f3, Option.getD]
    refine S 60 _ _ ?_
    simp
    refine CallW.ok (by decide) (by simp) d6 (by simp) (S 60 _ _ ?_)
    simp
    unfold InvW
    rw [show RC 17 = (LC 17).seq (RC 18) from rfl]
    refine J.seqc ?_
    simp only [LC, leftN, Go.Proofs.Tryz.f3, Option.getD]
    refine S 60 _ _ ?_
    simp
    refine CallW.ok (by decide) (by simp) a6 (by simp) (S 60 _ _ ?_)
    simp
    unfold InvW
    rw [show RC 18 = (LC 18).seq (RC 19) from rfl]
    refine J.seqc ?_
    simp only [LC, leftN, Go.Proofs.Tryz.f3, Option.getD]
    refine S 60 _ _ ?_
    simp
    refine CallW.ok (by decide) (by simp) b6 (by simp) (S 60 _ _ ?_)
    simp
    refine CallW.ok (by decide) (by simp) h6 (by simp) (S 60 _ _ ?_)
    simp
    unfold InvW
    refine J.cleanC hw (t := ⟨[(0, .c (.d (vB bs))), (2, .c (.d (.v (.bool false)))), (3, .c (.ref 64003 0)), (4, .c (.ref 64004 0)), (5, .c (.d (i64 e1))), (10, .c (.ob 65010)), (11, .c (.ref 64011 0)), (12, .c (.d (i64 e2))), (15, .c (.ref 64015 0)), (16, .c (.d (i64 i3))), (17, .c (.ref 64017 0)), (18, .c (.d (i64 e3))), (25, .c (.ref 64025 0)), (26, .c (.ref 64026 0)), (27, .c (.d (i64 e5)))], [(64003, .var [.d (i64 p), .d (i64 l), .ob 65003]), (65003, .arr 43 1 (rows.map fun xs => [oInts xs])), (64004, .var [.d (i64 p1), .d (i64 l1), .ob 65004]), (65004, .arr 43 1 (E1.map fun xs => [oInts xs])), (65010, .arr 43 1 (rows2.map fun xs => [oInts xs])), (64011, .var [.d (i64 p2'), .d (i64 l2'), .ob 65011]), (65011, .arr 43 1 (E2.map fun xs => [oInts xs])), (64015, .var [.d (i64 p3), .d (i64 l3), .ob 65015]), (65015, .arr 43 1 (rows3.map fun xs => [oInts xs])), (64017, .var [.d (i64 p3'), .d (i64 l3'), .ob 65017]), (65017, .arr 43 1 (E3.map fun xs => [oInts xs])), (64025, .var [.d (i64 p), .d (i64 l), .ob 65025]), (65025, .arr 43 1 (rows.map fun xs => [oInts xs])), (64026, .var [.d (i64 p5'), .d (i64 l5'), .ob 65026]), (65026, .arr 43 1 (E5.map fun xs => [oInts xs]))]⟩) (by simp) ?_
    rw [show RC 19 = (LC 19).seq (RC 20) from rfl]
    refine J.seqc ?_
    simp only [LC, leftN, Go.Proofs.Tryz.f3, Option.getD]
    refine S 60 _ _ ?_
    simp
    refine CallW.ok (by decide) (by simp) d7 (by simp) (S 60 _ _ ?_)
    simp
    unfold InvW
    rw [show RC 20 = (LC 20).seq (RC 21) from rfl]
    refine J.seqc ?_
    simp only [LC, leftN, Go.Proofs.Tryz.f3, Option.getD]
    refine S 60 _ _ ?_
    simp
    refine CallW.ok (by decide) (by simp) a7 (by simp) (S 60 _ _ ?_)
    simp
    unfold InvW
    rw [show RC 21 = (LC 21).seq (RC 22) from rfl]
    refine J.seqc ?_
    simp only [LC, leftN, Go.Proofs.Tryz.f3, Option.getD]
    refine S 60 _ _ ?_
    simp
    refine CallW.ok (by decide) (by simp) b7 (by simp) (S 60 _ _ ?_)
    simp
    refine CallW.ok (by decide) (by simp) h7 (by simp) (S 60 _ _ ?_)
    simp
    unfold InvW
    refine J.cleanC hw (t := ⟨[(0, .c (.d (vB bs))), (2, .c (.d (.v (.bool false)))), (3, .c (.ref 64003 0)), (4, .c (.ref 64004 0)), (5, .c (.d (i64 e1))), (10, .c (.ob 65010)), (11, .c (.ref 64011 0)), (12, .c (.d (i64 e2))), (15, .c (.ref 64015 0)), (16, .c (.d (i64 i3))), (17, .c (.ref 64017 0)), (18, .c (.d (i64 e3))), (25, .c (.ref 64025 0)), (26, .c (.ref 64026 0)), (27, .c (.d (i64 e5)))], [(64003, .var [.d (i64 p), .d (i64 l), .ob 65003]), (65003, .arr 43 1 (rows.map fun xs => [oInts xs])), (64004, .var [.d (i64 p1), .d (i64 l1), .ob 65004]), (65004, .arr 43 1 (E1.map fun xs => [oInts xs])), (65010, .arr 43 1 (rows2.map fun xs => [oInts xs])), (64011, .var [.d (i64 p2'), .d (i64 l2'), .ob 65011]), (65011, .arr 43 1 (E2.map fun xs => [oInts xs])), (64015, .var [.d (i64 p3), .d (i64 l3), .ob 65015]), (65015, .arr 43 1 (rows3.map fun xs => [oInts xs])), (64017, .var [.d (i64 p3'), .d (i64 l3'), .ob 65017]), (65017, .arr 43 1 (E3.map fun xs => [oInts xs])), (64025, .var [.d (i64 p), .d (i64 l), .ob 65025]), (65025, .arr 43 1 (rows.map fun xs => [oInts xs])), (64026, .var [.d (i64 p5'), .d (i64 l5'), .ob 65026]), (65026, .arr 43 1 (E5.map fun xs => [oInts xs]))]⟩) (by simp) ?_
    rw [show RC 22 = (LC 22).seq (RC 23) from rfl]
    refine J.seqc ?_
    simp only [LC, leftN, Go.Proofs.Tryz.f3, Option.getD]
    refine S 60 _ _ ?_
    simp
    refine CallW.ok (by decide) (by simp) d8 (by simp) (S 60 _ _ ?_)
    simp
    unfold InvW
    rw [show RC 23 = (LC 23).seq (RC 24) from rfl]
    refine J.seqc ?_
    simp only [LC, leftN, Go.Proofs.Tryz.f3, Option.getD]
    refine S 60 _ _ ?_
    simp
    refine CallW.ok (by decide) (by simp) a8 (by simp) (S 60 _ _ ?_)
    simp
    unfold InvW
    rw [show RC 24 = (LC 24).seq (RC 25) from rfl]
    refine J.seqc ?_
    simp only [LC, leftN, Go.Proofs.Tryz.f3, Option.getD]
    refine S 60 _ _ ?_
    simp
    refine CallW.ok (by decide) (by simp) b8 (by simp) (S 60 _ _ ?_)
    simp
    unfold InvW
    refine J.cleanC hw (t := ⟨[(0, .c (.d (vB bs))), (2, .c (.d (.v (.bool false)))), (3, .c (.ref 64003 0)), (4, .c (.ref 64004 0)), (5, .c (.d (i64 e1))), (10, .c (.ob 65010)), (11, .c (.ref 64011 0)), (12, .c (.d (i64 e2))), (15, .c (.ref 64015 0)), (16, .c (.d (i64 i3))), (17, .c (.ref 64017 0)), (18, .c (.d (i64 e3))), (25, .c (.ref 64025 0)), (26, .c (.ref 64026 0)), (27, .c (.d (i64 e5)))], [(64003, .var [.d (i64 p), .d (i64 l), .ob 65003]), (65003, .arr 43 1 (rows.map fun xs => [oInts xs])), (64004, .var [.d (i64 p1), .d (i64 l1), .ob 65004]), (65004, .arr 43 1 (E1.map fun xs => [oInts xs])), (65010, .arr 43 1 (rows2.map fun xs => [oInts xs])), (64011, .var [.d (i64 p2'), .d (i64 l2'), .ob 65011]), (65011, .arr 43 1 (E2.map fun xs => [oInts xs])), (64015, .var [.d (i64 p3), .d (i64 l3), .ob 65015]), (65015, .arr 43 1 (rows3.map fun xs => [oInts xs])), (64017, .var [.d (i64 p3'), .d (i64 l3'), .ob 65017]), (65017, .arr 43 1 (E3.map fun xs => [oInts xs])), (64025, .var [.d (i64 p), .d (i64 l), .ob 65025]), (65025, .arr 43 1 (rows.map fun xs => [oInts xs])), (64026, .var [.d (i64 p5'), .d (i64 l5'), .ob 65026]), (65026, .arr 43 1 (E5.map fun xs => [oInts xs]))]⟩) (by simp) ?_
    rw [show RC 25 = (LC 25).seq (RC 26) from rfl]
    refine J.seqc ?_
    simp only [LC, leftN, Go.Proofs.Tryz.f3, Option.getD]
    refine S 60 _ _ ?_
    simp
    refine CallW.ok (by decide) (by simp) d9 (by simp) (S 60 _ _ ?_)
    simp
    unfold InvW
    rw [show RC 26 = (LC 26).seq (RC 27) from rfl]
    refine J.seqc ?_
    simp only [LC, leftN, Go.Proofs.Tryz.f3, Option.getD]
    refine S 60 _ _ ?_
    simp
    refine CallW.ok (by decide) (by simp) a9 (by simp) (S 60 _ _ ?_)
    simp
    unfold InvW
    rw [show RC 27 = (LC 27).seq (RC 28) from rfl]
    refine J.seqc ?_
    simp only [LC, leftN, Go.Proofs.Tryz.f3, Option.getD]
    refine S 60 _ _ ?_
    simp
    refine CallW.ok (by decide) (by simp) b9 (by simp) (S 60 _ _ ?_)
    simp
    unfold InvW
    exact J.cleanC hw (⟨[(0, .c (.d (vB bs))), (2, .c (.d (.v (.bool false)))), (3, .c (.ref 64003 0)), (4, .c (.ref 64004 0)), (5, .c (.d (i64 e1))), (10, .c (.ob 65010)), (11, .c (.ref 64011 0)), (12, .c (.d (i64 e2))), (15, .c (.ref 64015 0)), (16, .c (.d (i64 i3))), (17, .c (.ref 64017 0)), (18, .c (.d (i64 e3))), (25, .c (.ref 64025 0)), (26, .c (.ref 64026 0)), (27, .c (.d (i64 e5))), (49, .c (.ref 64049 0)), (50, .c (.d (.v (.bool r9)))), (51, .c (.d (i64 e9)))], [(64003, .var [.d (i64 p), .d (i64 l), .ob 65003]), (65003, .arr 43 1 (rows.map fun xs => [oInts xs])), (64004, .var [.d (i64 p1), .d (i64 l1), .ob 65004]), (65004, .arr 43 1 (E1.map fun xs => [oInts xs])), (65010, .arr 43 1 (rows2.map fun xs => [oInts xs])), (64011, .var [.d (i64 p2'), .d (i64 l2'), .ob 65011]), (65011, .arr 43 1 (E2.map fun xs => [oInts xs])), (64015, .var [.d (i64 p3), .d (i64 l3), .ob 65015]), (65015, .arr 43 1 (rows3.map fun xs => [oInts xs])), (64017, .var [.d (i64 p3'), .d (i64 l3'), .ob 65017]), (65017, .arr 43 1 (E3.map fun xs => [oInts xs])), (64025, .var [.d (i64 p), .d (i64 l), .ob 65025]), (65025, .arr 43 1 (rows.map fun xs => [oInts xs])), (64026, .var [.d (i64 p5'), .d (i64 l5'), .ob 65026]), (65026, .arr 43 1 (E5.map fun xs => [oInts xs])), (64049, .var [.d (i64 p10), .d (i64 l10), .ob 65049]), (65049, .arr 43 1 (rows10.map fun xs => [oInts xs]))]⟩) (by simp) h28
end Go.Sm
