/- Towards the rows of this seat: what the functions do, as contracts over plain data. -/
import Derived.Test.YtdfihhfnnogpeaaPk27
import Derived.Test.YtdfihhfnnogpeaaPk17
namespace Go.Sm
open Go.RowKit

/-- The polynomial that tells a symmetric one. -/
noncomputable def tsQ (p : Int) (d : Nat) (ts : List Tm) : List Tm :=
  open Classical in if h : ∃ q, Can p q ∧ AllE (KOk d) q ∧ ts = subE p d q then Classical.choose h else []
theorem tsQ_ok {p : Int} {d : Nat} {ts : List Tm} (hg : GoodP p d ts) (hs : SymP p d 1 ts) : Can p (tsQ p d ts) ∧ AllE (KOk d) (tsQ p d ts) ∧ ts = subE p d (tsQ p d ts) := by
  have h := sym_told hg hs
  have e : tsQ p d ts = Classical.choose h := by unfold tsQ; exact dif_pos h
  rw [e]
  exact Classical.choose_spec h
noncomputable def tsO (p d : Int) (ts : List Tm) : (Int × Int × List Tm) × Int :=
  open Classical in if GoodP p d ts then (if SymP p d 1 ts then ((p, d, tsQ p d.toNat ts), 0) else ((0, 0, []), 5)) else ((0, 0, []), 1)
theorem tsO_yes {p d : Int} {ts : List Tm} (hg : GoodP p d ts) (hs : SymP p d 1 ts) : tsO p d ts = ((p, d, tsQ p d.toNat ts), 0) := by unfold tsO; rw [if_pos hg, if_pos hs]
theorem tsO_no {p d : Int} {ts : List Tm} (hg : GoodP p d ts) (hs : ¬ SymP p d 1 ts) : tsO p d ts = ((0, 0, []), 5) := by unfold tsO; rw [if_pos hg, if_neg hs]
theorem tsO_bad {p d : Int} {ts : List Tm} (hg : ¬ GoodP p d ts) : tsO p d ts = ((0, 0, []), 1) := by unfold tsO; rw [if_neg hg]
theorem kok_deg {d : Nat} {k : Ex} (h : KOk d k) : DegLe d 12 k := by
  obtain ⟨h1, h2, h3⟩ := h
  refine ⟨fun h => h1 (by omega), fun h => h2 (by omega), ?_⟩
  unfold Ex.deg; omega
theorem tsQ_len {p : Int} {d : Nat} {q : List Tm} (h : Can p q) (hk : AllE (KOk d) q) : q.length ≤ 455 := can_len h (hk.mono fun _ he => kok_deg he) (Nat.le_refl _)
theorem tsO_small (p d : Int) (ts : List Tm) : ∃ p' d' E e, tsO p d ts = ((p', d', E), e) ∧ E.length ≤ 1000 := by
  by_cases hg : GoodP p d ts
  · by_cases hs : SymP p d 1 ts
    · rw [tsO_yes hg hs]
      obtain ⟨N, rfl⟩ : ∃ N : Nat, d = N := ⟨d.toNat, by have := hg.2.1; omega⟩
      obtain ⟨h1, h2, _⟩ := tsQ_ok hg hs
      have := tsQ_len h1 h2
      rw [Int.toNat_natCast]
      exact ⟨_, _, _, _, rfl, by omega⟩
    · rw [tsO_no hg hs]
      exact ⟨_, _, _, _, rfl, by simp⟩
  · rw [tsO_bad hg]
    exact ⟨_, _, _, _, rfl, by simp⟩

/-- The powers, told by bytes. -/
theorem phi_bytes {d : Nat} (hd : 1 ≤ d ∧ d ≤ 3) {k e : Ex} (hk : KOk d k) (h : e = phi d k) :
    by8 ((e.a.toNat : Int) - e.b.toNat) = k.a ∧ by8 ((e.b.toNat : Int) - e.c.toNat) = k.b ∧ e.c = k.c ∧ (d = 1 → e.a = k.a) ∧ (d ≤ 2 → e.b = k.b) := by
  have hw := hk.w
  obtain ⟨h1, h2, _⟩ := hk
  rw [phi_E hd ⟨h1, h2, hw⟩] at h
  have ea : e.a.toNat = k.a.toNat + k.b.toNat + k.c.toNat := by rw [h]; show (UInt8.ofNat _).toNat = _; rw [UInt8.toNat_ofNat']; omega
  have eb : e.b.toNat = k.b.toNat + k.c.toNat := by rw [h]; show (UInt8.ofNat _).toNat = _; rw [UInt8.toNat_ofNat']; omega
  have ec : e.c.toNat = k.c.toNat := by rw [h]; show (UInt8.ofNat _).toNat = _; rw [UInt8.toNat_ofNat']; omega
  have bu : ∀ x : UInt8, by8 (x.toNat : Int) = x := fun x => by rw [by8_ofNat]; simp
  refine ⟨?_, ?_, UInt8.toNat.inj ec, fun hd1 => ?_, fun hd2 => ?_⟩
  · rw [show (e.a.toNat : Int) - e.b.toNat = k.a.toNat by omega, bu]
  · rw [show (e.b.toNat : Int) - e.c.toNat = k.b.toNat by omega, bu]
  · apply UInt8.toNat.inj
    have := h1 (by omega); have := h2 (by omega)
    rw [ea, h1 (by omega), h2 (by omega)]; rfl
  · apply UInt8.toNat.inj
    rw [eb, h2 hd2]; rfl

/-- What is left to tell, and what is told. -/
structure TS where
  q : List Tm
  l : List (Ex × Int)
structure TT where
  q : List Tm
  o : List Tm

set_option maxHeartbeats 2000000 in
set_option maxRecDepth 4000 in
theorem TellSymmetric_ok (p d : Int) (ts : List Tm) (hl : ts.length ≤ 1048576) : CallOK Go.Proofs.Try.prog 14 [pv p d ts] (presR (tsO p d ts)) := by
  have hF := fnOk 80 [.cell 2 28, .tmp 3]
  refine callOK hF 60 Go.Proofs.Try.func14 rfl rfl rfl (by decide) (by simp) rfl ?_
  intro w0 hw
  have S := @vc_sound w0 _ hF ⟨(presR (tsO p d ts)), []⟩ Go.Proofs.Try.f14 rfl (by simp)
  have c1 := IsPoly_ok p d ts hl
  by_cases hg : GoodP p d ts
  · rw [decide_eq_true hg] at c1
    have c2 := exchanges_ok p d 1 ts hg (.inl rfl)
    by_cases hs : SymP p d 1 ts
    · rw [decide_eq_true hs] at c2
      rw [tsO_yes hg hs] at S ⊢
      dsimp only at S ⊢
      have hp := hg.1
      have hpp := hp.pos
      obtain ⟨N, hN⟩ : ∃ N : Nat, (N : Int) = d := ⟨d.toNat, by have := hg.2.1; omega⟩
      have hd : 1 ≤ N ∧ N ≤ 3 := by have := hg.2.1; omega
      have hNt : d.toNat = N := by omega
      rw [hNt] at S ⊢
      obtain ⟨a1, a2, a3⟩ := tsQ_ok (d := N) (by rw [hN]; exact hg) (by rw [hN]; exact hs)
      generalize tsQ p N ts = q0 at a1 a2 a3 S ⊢
      subst a3
      have hql := tsQ_len a1 a2
      have c3 := elementaries_ok p N (by omega) (by omega) hd
      rw [hN] at c3
      have hel : ((elemsP p N).length : Int) = d := by rw [elemsP_length, hN]
      have hgood := fun y hy => elemsP_good (p := p) (d := N) hp hd y hy
      rw [hN] at hgood
      have hstep := fun (q : List Tm) (h1 : Can p q) (h2 : AllE (KOk N) q) (t : Tm) (h3 : t ∈ subE p N q) (h4 : ∀ u ∈ subE p N q, wL u.e ≤ wL t.e) => tell_step (.inl rfl) hp hd h1 h2 h3 h4
      have hxl := fun (q : List Tm) (h1 : Can p q) (h2 : AllE (KOk N) q) => can_len (subE_can (d := N) hpp.1 h1) (subE_deg hp hd h1 h2) (Nat.le_refl _)
      have hnil : ∀ q, Can p q → AllE (KOk N) q → subE p N q = [] → q = [] := fun q h1 h2 h3 => by
        apply Classical.byContradiction
        intro hne
        exact tell_ne hp hd h1 h2 hne h3
      have hpoly : ∀ l : List (Ex × Int), (l.map (·.1)).Nodup → Rest q0 [] (sget l) → ofSum p l = q0 := fun l h1 h2 => by
        obtain ⟨g1, g2⟩ := ofSum_can (p := p) (by omega) h1
        refine can_ext g1 a1 fun e => ?_
        have := coef_bound (show 0 < p by omega) a1 e
        rw [g2, h2.done e]
        exact Int.emod_eq_of_lt this.1 this.2
      simp
      refine CallW.ok (by decide) (by simp) c1 (by simp) (S 60 _ _ ?_)
      simp
      refine CallW.ok (by decide) (by simp) c2 (by simp) (S 60 _ _ ?_)
      simp
      refine J.dr3 hF mixed 7 [[], [0], [], [2], [], [0, 1], [0, 1, 2, 3, 5], [0, 1, 2, 3, 4, 5, 6]] [[21, 22, 23, 24, 25, 4, 5], [22, 23, 24, 25, 4, 5], [21, 22, 23, 24, 25, 4, 5], [21, 22, 24, 25, 4, 5], [21, 22, 23, 24, 25, 4, 5], [23, 24, 25, 4, 5], [25, 5]] [[], [], [], [], [], [], []] [[], [], [], [], [], [], []] [] [] (by decide) ?_
      simp
      refine S 60 _ _ ?_
      simp
      refine CallW.ok (by decide) (by simp) c3 (by simp) (S 60 _ _ ?_)
      simp
      refine J.locC 64 2 (by rfl) (by rfl) ?_
      refine J.loop hw (fun r : TS => ⟨[(1, .c (.ref 64001 0)), (2, .c (.ref 64002 0)), (3, .c (.d (i64 0))), (4, .c (.d (i64 p))), (5, .c (.d (i64 d))), (6, .c (.ob 64006)), (7, .c (.ob 64007))],
          [(64001, .var [.d (i64 p), .d (i64 d), .d (.vw false 4 (terms (subE p N r.q)))]), (64002, .var [.d (i64 0), .d (i64 0), .ob 64012]), (64012, .arr 57 4 []), (64006, .mp (sumM r.l)), (64007, .arr 28 3 ((elemsP p N).map pl3))]⟩)
        (fun r => Can p r.q ∧ AllE (KOk N) r.q ∧ (r.l.map (·.1)).Nodup ∧ r.l.length + r.q.length ≤ q0.length ∧ Rest q0 r.q (sget r.l)) (fun r => r.q.length) ⟨q0, []⟩ ⟨a1, a2, by simp, by simp, Rest.start q0⟩ (by simp) ?_
      rintro ⟨q, l⟩ ⟨i1, i2, i3, i4, i5⟩
      simp only at i1 i2 i3 i4 i5 ⊢
      have hx1 := hxl q i1 i2
      have hxc := subE_can (d := N) hpp.1 i1
      have c5 := isZero_ok p d (subE p N q) (by omega)
      by_cases hx : subE p N q = []
      · have hq : q = [] := hnil q i1 i2 hx
        subst hq
        have c6 := poly_ok p d l (by omega) i3 (by omega) (by omega)
        rw [hpoly l i3 i5] at c6
        rw [decide_eq_true hx] at c5
        refine S 60 _ _ ?_
        simp
        refine CallW.ok (by decide) (by simp) c5 (by simp) (S 60 _ _ ?_)
        simp
        refine CallW.ok (by decide) (by simp) c6 (by simp) (S 60 _ _ ?_)
        simp
      · rw [decide_eq_false hx] at c5
        obtain ⟨m, xs, hmt⟩ := List.exists_cons_of_ne_nil hx
        have c6 := first_ok p d m xs (by have := congrArg List.length hmt; simp at this; omega)
        rw [← hmt] at c6
        have hmem := maxT_mem xs m
        have hmax := maxT_max xs m
        rw [← hmt] at hmem hmax
        generalize maxT m xs = t at c6 hmem hmax
        obtain ⟨k, k1, k2, k3, k4, k5, k6, k7, k8, k9, _⟩ := hstep q i1 i2 t hmem hmax
        have hrest := i5.step (k := k) (by omega)
        have hcl : sget l k = 0 := by rcases i5 k with ⟨_, h⟩ | ⟨h, _⟩; exact h; omega
        obtain ⟨e1, e2, e3, e4, e5⟩ := phi_bytes hd k1 k2
        have hone : ∀ u ∈ [(⟨k, t.v⟩ : Tm)], 1 ≤ u.v ∧ u.v < p := fun u hu => by rw [List.mem_singleton] at hu; rw [hu]; exact ⟨k4, k5⟩
        have hkm : GoodP p d [⟨k, t.v⟩] := ⟨hp, hg.2.1, fun u hu => by
          rw [List.mem_singleton] at hu; rw [hu]
          have := kok_deg k1
          rw [hN] at this
          exact ⟨this.inV (Nat.le_refl _), k4, k5⟩, by simp⟩
        have c7 := monomial_ok p d k t.v (by omega) (by omega)
        rw [mono_sum (by omega), mono_one ⟨k4, k5⟩] at c7
        have c8 := substitute_ok p d d [⟨k, t.v⟩] (elemsP p N) hkm hel hgood fun u hu => by rw [List.mem_singleton] at hu; rw [hu]; exact bndE_kok hp hd k1
        have hsm := subT_lin hpp.1 (d := N) (fun _ => 0) [⟨k, t.v⟩] hone
        have hsd := subE_deg hp hd (q := [⟨k, t.v⟩]) ⟨by simp, hone⟩ (fun u hu => by rw [List.mem_singleton] at hu; rw [hu]; exact k1)
        have hsl : (subE p N [⟨k, t.v⟩]).length ≤ 455 := can_len hsm.1 hsd (Nat.le_refl _)
        rw [show subT p (elemsP p N) [⟨k, t.v⟩] = subE p N [⟨k, t.v⟩] from rfl] at c8
        have c9 := add_ok p d p d (p - 1) (subE p N q) (subE p N [⟨k, t.v⟩]) (by omega) (by omega) hxc hsm.1 (by omega) (by omega) (by omega) (by omega)
        rw [k9] at c9
        have wt : IntKind.i64.wrap (p - 1) = p - 1 := wrap64 (by omega) (by omega)
        have hput := mpPut_sum l k t.v
        have hlen := sput_length l k t.v
        have hnd := sput_nodup i3 k t.v
        have hnl : (sput l k t.v).length + (q.filter fun t => t.e ≠ k).length ≤ q0.length := by omega
        have hrest2 : Rest q0 (q.filter fun t => t.e ≠ k) (sget (sput l k t.v)) := fun e => by
          rw [sget_sput, ← k3]; exact hrest e
        generalize hq' : (q.filter fun t => t.e ≠ k) = q' at k6 k7 k8 c9 hnl hrest2
        generalize hl' : sput l k t.v = l' at hput hnd hnl hrest2
        generalize subE p N [⟨k, t.v⟩] = sm at c8 c9
        simp only [exK] at hput
        clear hstep hxl hnil hpoly hsm hsd hone hkm hrest k9
        have hd' : d = 1 ∨ d = 2 ∨ d = 3 := by omega
        have hkb : d ≤ 1 → k.b = 0 := fun h => k1.1 (by omega)
        have hkc : d ≤ 2 → k.c = 0 := fun h => k1.2.1 (by omega)
        refine S 60 _ _ ?_
        simp
        refine CallW.ok (by decide) (by simp) c5 (by simp) (S 60 _ _ ?_)
        simp
        refine CallW.ok (by decide) (by simp) c6 (by simp) (S 60 _ _ ?_)
        simp
        refine J.clean hw ⟨[(1, .c (.ref 64001 0)), (2, .c (.ref 64002 0)), (3, .c (.d (i64 0))), (4, .c (.d (i64 p))), (5, .c (.d (i64 d))), (6, .c (.ob 64006)), (7, .c (.ob 64007)), (8, .c (.ref 64008 0)), (9, .c (.ref 64009 0)), (35, .c (.d (i64 d))), (36, .c (.d (i64 0)))],
          [(64001, .var [.d (i64 p), .d (i64 d), .d (.vw false 4 (terms (subE p N q)))]), (64002, .var [.d (i64 0), .d (i64 0), .ob 64012]), (64012, .arr 57 4 []), (64006, .mp (sumM l)), (64007, .arr 28 3 ((elemsP p N).map pl3)), (64008, .var [.d (u8 t.e.a), .d (u8 t.e.b), .d (u8 t.e.c), .d (i64 t.v)]), (64009, .var [.d (u8 0), .d (u8 0), .d (u8 0)])]⟩ (by simp) ?_
        have z0 : (((0 : UInt8).toNat : Nat) : Int) = 0 := rfl
        rcases hd' with rfl | rfl | rfl
        · have hb0 := hkb (by omega)
          have hc0 := hkc (by omega)
          have f1 := e4 (by omega)
          obtain ⟨ka, kb, kc⟩ := k
          dsimp only at hb0 hc0 f1 hput
          subst hb0
          subst hc0
          rw [z0] at hput
          refine J.rounds 5 (LpW.step (S 60 _ _ ?_))
          simp
          refine LpW.inv (LpW.step (S 60 _ _ ?_))
          simp [f1, hput]
          refine J.dr hF mixed 11 [[], [], [], [], [], [4], [1, 2, 3, 4, 5], [], [1, 2, 3, 4, 5, 6, 7], [], [9], [0, 1, 2, 3, 4, 5, 6, 7, 8, 9, 10], [0, 1, 2, 3, 4, 5, 6, 7, 8, 9, 10, 11]] [[64, 65, 66, 67, 68, 69, 70, 71, 72, 73, 74], [64, 65, 66, 67, 68, 69, 70, 71, 72, 73, 74], [64, 65, 66, 67, 68, 69, 70, 71, 72, 73, 74], [64, 65, 66, 67, 68, 69, 70, 71, 72, 73, 74], [64, 65, 66, 67, 68, 69, 70, 71, 72, 73, 74], [64, 65, 66, 67, 69, 70, 71, 72, 73, 74], [64, 70, 71, 72, 73, 74], [64, 65, 66, 67, 68, 69, 70, 71, 72, 73, 74], [64, 72, 73, 74], [64, 65, 66, 67, 68, 69, 70, 71, 72, 73, 74], [64, 65, 66, 67, 68, 69, 70, 71, 72, 74]] (by decide) ?_
          simp
          refine DrC.ok hF (by rfl) (by simp) c7 (by simp) (by simp) ?_
          simp
          refine DrC.ok hF (by rfl) (by simp) c8 (by simp) (by simp) ?_
          simp [wt]
          refine S 60 _ _ ?_
          simp
          refine CallW.ok (by decide) (by simp) c9 (by simp) (S 1 _ _ ?_)
          simp
          refine J.freezeC 64001 2 4802 (by rfl) (by rfl) (by rfl) ?_
          refine S 60 _ _ ?_
          simp
          exact Nxt.mk ⟨q', l'⟩ ⟨k6, k7, hnd, hnl, hrest2⟩ (by simp) k8
        · have hc0 := hkc (by omega)
          have f1 := e5 (by omega)
          rw [f1] at e1
          obtain ⟨ka, kb, kc⟩ := k
          dsimp only at hc0 f1 e1 hput
          subst hc0
          rw [z0] at hput
          refine J.rounds 5 (LpW.step (S 60 _ _ ?_))
          simp
          refine J.dr hF mixed 8 [[], [0], [0, 1], [], [3], [], [3, 4, 5], [3, 4, 5, 6], [0, 1, 2, 3, 4, 5, 6, 7], [0, 1, 2, 3, 4, 5, 6, 7, 8], [0, 1, 2, 3, 4, 5, 6, 7, 8, 9]] [[49, 50, 51, 52, 53, 54, 55, 56], [50, 51, 52, 53, 54, 55, 56], [51, 52, 53, 54, 55, 56], [49, 50, 51, 52, 53, 54, 55, 56], [49, 50, 51, 53, 54, 55, 56], [49, 50, 51, 52, 53, 54, 55, 56], [49, 50, 51, 55, 56], [49, 50, 51, 56]] (by decide) ?_
          simp [f1]
          refine S 60 _ _ ?_
          simp [e1]
          refine LpW.inv (LpW.step (S 60 _ _ ?_))
          simp
          refine LpW.inv (LpW.step (S 60 _ _ ?_))
          simp [hput]
          refine J.dr hF mixed 11 [[], [], [], [], [], [4], [1, 2, 3, 4, 5], [], [1, 2, 3, 4, 5, 6, 7], [], [9], [0, 1, 2, 3, 4, 5, 6, 7, 8, 9, 10], [0, 1, 2, 3, 4, 5, 6, 7, 8, 9, 10, 11]] [[64, 65, 66, 67, 68, 69, 70, 71, 72, 73, 74], [64, 65, 66, 67, 68, 69, 70, 71, 72, 73, 74], [64, 65, 66, 67, 68, 69, 70, 71, 72, 73, 74], [64, 65, 66, 67, 68, 69, 70, 71, 72, 73, 74], [64, 65, 66, 67, 68, 69, 70, 71, 72, 73, 74], [64, 65, 66, 67, 69, 70, 71, 72, 73, 74], [64, 70, 71, 72, 73, 74], [64, 65, 66, 67, 68, 69, 70, 71, 72, 73, 74], [64, 72, 73, 74], [64, 65, 66, 67, 68, 69, 70, 71, 72, 73, 74], [64, 65, 66, 67, 68, 69, 70, 71, 72, 74]] (by decide) ?_
          simp
          refine DrC.ok hF (by rfl) (by simp) c7 (by simp) (by simp) ?_
          simp
          refine DrC.ok hF (by rfl) (by simp) c8 (by simp) (by simp) ?_
          simp [wt]
          refine S 60 _ _ ?_
          simp
          refine CallW.ok (by decide) (by simp) c9 (by simp) (S 1 _ _ ?_)
          simp
          refine J.freezeC 64001 2 4802 (by rfl) (by rfl) (by rfl) ?_
          refine S 60 _ _ ?_
          simp
          exact Nxt.mk ⟨q', l'⟩ ⟨k6, k7, hnd, hnl, hrest2⟩ (by simp) k8
        · have f1 := e3
          rw [f1] at e2
          refine J.rounds 5 (LpW.step (S 60 _ _ ?_))
          simp
          refine J.dr hF mixed 8 [[], [0], [0, 1], [], [3], [], [3, 4, 5], [3, 4, 5, 6], [0, 1, 2, 3, 4, 5, 6, 7], [0, 1, 2, 3, 4, 5, 6, 7, 8], [0, 1, 2, 3, 4, 5, 6, 7, 8, 9]] [[49, 50, 51, 52, 53, 54, 55, 56], [50, 51, 52, 53, 54, 55, 56], [51, 52, 53, 54, 55, 56], [49, 50, 51, 52, 53, 54, 55, 56], [49, 50, 51, 53, 54, 55, 56], [49, 50, 51, 52, 53, 54, 55, 56], [49, 50, 51, 55, 56], [49, 50, 51, 56]] (by decide) ?_
          simp [f1]
          refine S 60 _ _ ?_
          simp [e1]
          refine LpW.inv (LpW.step (S 60 _ _ ?_))
          simp
          refine J.dr hF mixed 8 [[], [0], [0, 1], [], [3], [], [3, 4, 5], [3, 4, 5, 6], [0, 1, 2, 3, 4, 5, 6, 7], [0, 1, 2, 3, 4, 5, 6, 7, 8], [0, 1, 2, 3, 4, 5, 6, 7, 8, 9]] [[49, 50, 51, 52, 53, 54, 55, 56], [50, 51, 52, 53, 54, 55, 56], [51, 52, 53, 54, 55, 56], [49, 50, 51, 52, 53, 54, 55, 56], [49, 50, 51, 53, 54, 55, 56], [49, 50, 51, 52, 53, 54, 55, 56], [49, 50, 51, 55, 56], [49, 50, 51, 56]] (by decide) ?_
          simp
          refine S 60 _ _ ?_
          simp [e2]
          refine LpW.inv (LpW.step (S 60 _ _ ?_))
          simp
          refine LpW.inv (LpW.step (S 60 _ _ ?_))
          simp [hput]
          refine J.dr hF mixed 11 [[], [], [], [], [], [4], [1, 2, 3, 4, 5], [], [1, 2, 3, 4, 5, 6, 7], [], [9], [0, 1, 2, 3, 4, 5, 6, 7, 8, 9, 10], [0, 1, 2, 3, 4, 5, 6, 7, 8, 9, 10, 11]] [[64, 65, 66, 67, 68, 69, 70, 71, 72, 73, 74], [64, 65, 66, 67, 68, 69, 70, 71, 72, 73, 74], [64, 65, 66, 67, 68, 69, 70, 71, 72, 73, 74], [64, 65, 66, 67, 68, 69, 70, 71, 72, 73, 74], [64, 65, 66, 67, 68, 69, 70, 71, 72, 73, 74], [64, 65, 66, 67, 69, 70, 71, 72, 73, 74], [64, 70, 71, 72, 73, 74], [64, 65, 66, 67, 68, 69, 70, 71, 72, 73, 74], [64, 72, 73, 74], [64, 65, 66, 67, 68, 69, 70, 71, 72, 73, 74], [64, 65, 66, 67, 68, 69, 70, 71, 72, 74]] (by decide) ?_
          simp
          refine DrC.ok hF (by rfl) (by simp) c7 (by simp) (by simp) ?_
          simp
          refine DrC.ok hF (by rfl) (by simp) c8 (by simp) (by simp) ?_
          simp [wt]
          refine S 60 _ _ ?_
          simp
          refine CallW.ok (by decide) (by simp) c9 (by simp) (S 1 _ _ ?_)
          simp
          refine J.freezeC 64001 2 4802 (by rfl) (by rfl) (by rfl) ?_
          refine S 60 _ _ ?_
          simp
          exact Nxt.mk ⟨q', l'⟩ ⟨k6, k7, hnd, hnl, hrest2⟩ (by simp) k8
    · rw [decide_eq_false hs] at c2
      rw [tsO_no hg hs] at S ⊢
      dsimp only at S ⊢
      simp
      refine CallW.ok (by decide) (by simp) c1 (by simp) (S 60 _ _ ?_)
      simp
      refine CallW.ok (by decide) (by simp) c2 (by simp) (S 60 _ _ ?_)
      simp
  · rw [decide_eq_false hg] at c1
    rw [tsO_bad hg] at S ⊢
    dsimp only at S ⊢
    simp
    refine CallW.ok (by decide) (by simp) c1 (by simp) (S 60 _ _ ?_)
    simp

end Go.Sm

namespace Go.Sm
open Go.RowKit

set_option maxHeartbeats 2000000 in
set_option maxRecDepth 4000 in
theorem specTellSymmetric_ok (p d : Int) (ts : List Tm) (hl : ts.length ≤ 1048576) : CallOK Go.Proofs.Try.prog 13 [pv p d ts] (presR (tsO p d ts)) := by
  have hF := fnOk 76 [.cell 2 28, .tmp 3]
  refine callOK hF 60 Go.Proofs.Try.func13 rfl rfl rfl (by decide) (by simp) rfl ?_
  intro w0 hw
  have S := @vc_sound w0 _ hF ⟨(presR (tsO p d ts)), []⟩ Go.Proofs.Try.f13 rfl (by simp)
  have c1 := l01Is_ok p d ts hl
  by_cases hg : GoodP p d ts
  · rw [decide_eq_true hg] at c1
    have c2 := l08Signed_ok p d 1 ts hg (.inl rfl)
    by_cases hs : SymP p d 1 ts
    · rw [decide_eq_true hs] at c2
      rw [tsO_yes hg hs] at S ⊢
      dsimp only at S ⊢
      have hp := hg.1
      have hpp := hp.pos
      obtain ⟨N, hN⟩ : ∃ N : Nat, (N : Int) = d := ⟨d.toNat, by have := hg.2.1; omega⟩
      have hd : 1 ≤ N ∧ N ≤ 3 := by have := hg.2.1; omega
      have hNt : d.toNat = N := by omega
      rw [hNt] at S ⊢
      obtain ⟨a1, a2, a3⟩ := tsQ_ok (d := N) (by rw [hN]; exact hg) (by rw [hN]; exact hs)
      generalize tsQ p N ts = q0 at a1 a2 a3 S ⊢
      subst a3
      have c3 := l01Empty_ok p d
      have hstep := fun (q : List Tm) (h1 : Can p q) (h2 : AllE (KOk N) q) (t : Tm) (h3 : t ∈ subE p N q) (h4 : ∀ u ∈ subE p N q, wG u.e ≤ wG t.e) => tell_step (.inr rfl) hp hd h1 h2 h3 h4
      have hxl := fun (q : List Tm) (h1 : Can p q) (h2 : AllE (KOk N) q) => can_len (subE_can (d := N) hpp.1 h1) (subE_deg hp hd h1 h2) (Nat.le_refl _)
      have hnil : ∀ q, Can p q → AllE (KOk N) q → subE p N q = [] → q = [] := fun q h1 h2 h3 => by
        apply Classical.byContradiction
        intro hne
        exact tell_ne hp hd h1 h2 hne h3
      have hdone : ∀ o : List Tm, Can p o → Rest q0 [] (coef o) → o = q0 := fun o h1 h2 => can_ext h1 a1 h2.done
      simp
      refine CallW.ok (by decide) (by simp) c1 (by simp) (S 60 _ _ ?_)
      simp
      refine CallW.ok (by decide) (by simp) c2 (by simp) (S 60 _ _ ?_)
      simp
      refine J.dr hF mixed 5 [[], [0], [], [2], [0, 1], [0, 1, 2, 3, 4]] [[20, 21, 22, 23, 4], [21, 22, 23, 4], [20, 21, 22, 23, 4], [20, 21, 23, 4], [22, 23, 4]] (by decide) ?_
      simp
      refine S 60 _ _ ?_
      simp
      refine CallW.ok (by decide) (by simp) c3 (by simp) (S 60 _ _ ?_)
      simp
      refine J.locC 64 2 (by rfl) (by rfl) ?_
      refine J.loop hw (fun r : TT => ⟨[(1, .c (.ref 64001 0)), (2, .c (.ref 64002 0)), (3, .c (.d (i64 0))), (4, .c (.d (i64 p))), (5, .c (.d (i64 d))), (6, .c (.ref 64006 0))],
          [(64001, .var [.d (i64 p), .d (i64 d), .d (.vw false 4 (terms (subE p N r.q)))]), (64002, .var [.d (i64 0), .d (i64 0), .ob 64012]), (64012, .arr 57 4 []), (64006, .var [.d (i64 p), .d (i64 d), .ob 64016]), (64016, .arr 57 4 (terms r.o))]⟩)
        (fun r => Can p r.q ∧ AllE (KOk N) r.q ∧ Can p r.o ∧ AllE (KOk N) r.o ∧ Rest q0 r.q (coef r.o)) (fun r => r.q.length) ⟨q0, []⟩ ⟨a1, a2, can_nil p, (fun t ht => by cases ht), Rest.start q0⟩ (by simp) ?_
      rintro ⟨q, o⟩ ⟨i1, i2, i3, i4, i5⟩
      simp only at i1 i2 i3 i4 i5 ⊢
      have hx1 := hxl q i1 i2
      have hol := tsQ_len i3 i4
      have hxc := subE_can (d := N) hpp.1 i1
      by_cases hx : subE p N q = []
      · have hq : q = [] := hnil q i1 i2 hx
        subst hq
        have ho := hdone o i3 i5
        subst ho
        rw [hx]
        refine S 60 _ _ ?_
        simp
      · have hl0 : 0 < (subE p N q).length := List.length_pos_iff.2 hx
        obtain ⟨t, hmem, hmax⟩ := max_of wG hx
        have c6 := l08First_ok p d (subE p N q) t hxc.1 hmem hmax (by omega)
        obtain ⟨k, k1, k2, k3, k4, k5, k6, k7, k8, _, k9⟩ := hstep q i1 i2 t hmem hmax
        have hrest := i5.step (k := k) (by omega)
        have hcl : coef o k = 0 := by rcases i5 k with ⟨_, h⟩ | ⟨h, _⟩; exact h; omega
        obtain ⟨e1, e2, e3, e4, e5⟩ := phi_bytes hd k1 k2
        obtain ⟨hB, hBd⟩ := powE_ok (.inl rfl : wL = wL ∨ wL = wG) hpp.1 hd k1
        have hBl := can_len hB.can hBd (Nat.le_refl _)
        have c7 := l01Put_ok p d o k t.v (by omega) (by omega) (by omega) (by omega) (by omega)
        have c8 := l08Product_ok p N k hp hd k1
        rw [hN] at c8
        have c9 := l01Plus_ok p d p d (p - t.v) (subE p N q) (powE p N k) (by omega) (by omega) hxc hB.can (by omega) (by omega) (by omega) (by omega)
        rw [k9] at c9
        have wt : IntKind.i64.wrap (p - t.v) = p - t.v := wrap64 (by omega) (by omega)
        obtain ⟨n1, n2⟩ := putT_can (show 0 < p by omega) i3 k t.v
        have n3 := putT_all (p := p) (v := t.v) i4 k1
        have hrest2 : Rest q0 (q.filter fun t => t.e ≠ k) (coef (putT p o k t.v)) := fun e => by
          rw [n2 e, hcl, Int.add_zero, Int.emod_eq_of_lt (by omega) k5, ← k3]; exact hrest e
        generalize hq' : (q.filter fun t => t.e ≠ k) = q' at k6 k7 k8 c9 hrest2
        generalize putT p o k t.v = o' at c7 n1 n3 hrest2
        generalize powE p N k = pw at c8 c9
        clear hstep hxl hnil hdone hrest k9 n2
        have hd' : d = 1 ∨ d = 2 ∨ d = 3 := by omega
        have hkb : d ≤ 1 → k.b = 0 := fun h => k1.1 (by omega)
        have hkc : d ≤ 2 → k.c = 0 := fun h => k1.2.1 (by omega)
        refine S 60 _ _ ?_
        simp
        refine ⟨fun _ => ?_, fun h => (hx h).elim⟩
        refine CallW.ok (by decide) (by simp) c6 (by simp) (S 60 _ _ ?_)
        simp
        refine J.clean hw ⟨[(1, .c (.ref 64001 0)), (2, .c (.ref 64002 0)), (3, .c (.d (i64 0))), (4, .c (.d (i64 p))), (5, .c (.d (i64 d))), (6, .c (.ref 64006 0)), (7, .c (.ref 64007 0)), (8, .c (.ref 64008 0)), (9, .c (.d (i64 0)))],
          [(64001, .var [.d (i64 p), .d (i64 d), .d (.vw false 4 (terms (subE p N q)))]), (64002, .var [.d (i64 0), .d (i64 0), .ob 64012]), (64012, .arr 57 4 []), (64006, .var [.d (i64 p), .d (i64 d), .ob 64016]), (64016, .arr 57 4 (terms o)), (64007, .var [.d (u8 t.e.a), .d (u8 t.e.b), .d (u8 t.e.c), .d (i64 t.v)]), (64008, .var [.d (u8 0), .d (u8 0), .d (u8 0)])]⟩ (by simp) ?_
        rcases hd' with rfl | rfl | rfl
        · have hb0 := hkb (by omega)
          have hc0 := hkc (by omega)
          have f1 := e4 (by omega)
          obtain ⟨ka, kb, kc⟩ := k
          dsimp only at hb0 hc0 f1
          subst hb0
          subst hc0
          refine J.rounds 5 (LpW.step (S 60 _ _ ?_))
          simp
          refine LpW.inv (LpW.step (S 60 _ _ ?_))
          simp [f1]
          refine CallW.ok (by decide) (by simp) c7 (by simp) (S 60 _ _ ?_)
          simp
          refine J.dr hF mixed 9 [[], [], [], [], [1, 2, 3], [], [], [6], [5, 6, 7], [0, 1, 2, 3, 4, 5, 6, 7, 8], [0, 1, 2, 3, 4, 5, 6, 7, 8, 9]] [[65, 66, 67, 68, 69, 70, 71, 72, 73], [65, 66, 67, 68, 69, 70, 71, 72, 73], [65, 66, 67, 68, 69, 70, 71, 72, 73], [65, 66, 67, 68, 69, 70, 71, 72, 73], [65, 69, 70, 71, 72, 73], [65, 66, 67, 68, 69, 70, 71, 72, 73], [65, 66, 67, 68, 69, 70, 71, 72, 73], [65, 66, 67, 68, 69, 70, 72, 73], [65, 66, 67, 68, 69, 73]] (by decide) ?_
          simp
          refine DrC.ok hF (by rfl) (by simp) c8 (by simp) (by simp) ?_
          simp [wt]
          refine S 60 _ _ ?_
          simp
          refine CallW.ok (by decide) (by simp) c9 (by simp) (S 1 _ _ ?_)
          simp
          refine J.freezeC 64001 2 4738 (by rfl) (by rfl) (by rfl) ?_
          refine S 60 _ _ ?_
          simp
          exact Nxt.mk ⟨q', o'⟩ ⟨k6, k7, n1, n3, hrest2⟩ (by simp) k8
        · have hc0 := hkc (by omega)
          have f1 := e5 (by omega)
          rw [f1] at e1
          obtain ⟨ka, kb, kc⟩ := k
          dsimp only at hc0 f1 e1
          subst hc0
          refine J.rounds 5 (LpW.step (S 60 _ _ ?_))
          simp
          refine J.dr hF mixed 10 [[], [], [1], [1, 2], [], [4], [], [4, 5, 6], [4, 5, 6, 7], [1, 2, 3, 4, 5, 6, 7, 8], [0, 1, 2, 3, 4, 5, 6, 7, 8, 9], [0, 1, 2, 3, 4, 5, 6, 7, 8, 9, 10]] [[49, 50, 51, 52, 53, 54, 55, 56, 57, 58], [49, 50, 51, 52, 53, 54, 55, 56, 57, 58], [49, 51, 52, 53, 54, 55, 56, 57, 58], [49, 52, 53, 54, 55, 56, 57, 58], [49, 50, 51, 52, 53, 54, 55, 56, 57, 58], [49, 50, 51, 52, 54, 55, 56, 57, 58], [49, 50, 51, 52, 53, 54, 55, 56, 57, 58], [49, 50, 51, 52, 56, 57, 58], [49, 50, 51, 52, 57, 58], [49, 58]] (by decide) ?_
          simp [e1, f1]
          refine S 60 _ _ ?_
          simp
          refine LpW.inv (LpW.step (S 60 _ _ ?_))
          simp
          refine LpW.inv (LpW.step (S 60 _ _ ?_))
          simp
          refine CallW.ok (by decide) (by simp) c7 (by simp) (S 60 _ _ ?_)
          simp
          refine J.dr hF mixed 9 [[], [], [], [], [1, 2, 3], [], [], [6], [5, 6, 7], [0, 1, 2, 3, 4, 5, 6, 7, 8], [0, 1, 2, 3, 4, 5, 6, 7, 8, 9]] [[65, 66, 67, 68, 69, 70, 71, 72, 73], [65, 66, 67, 68, 69, 70, 71, 72, 73], [65, 66, 67, 68, 69, 70, 71, 72, 73], [65, 66, 67, 68, 69, 70, 71, 72, 73], [65, 69, 70, 71, 72, 73], [65, 66, 67, 68, 69, 70, 71, 72, 73], [65, 66, 67, 68, 69, 70, 71, 72, 73], [65, 66, 67, 68, 69, 70, 72, 73], [65, 66, 67, 68, 69, 73]] (by decide) ?_
          simp
          refine DrC.ok hF (by rfl) (by simp) c8 (by simp) (by simp) ?_
          simp [wt]
          refine S 60 _ _ ?_
          simp
          refine CallW.ok (by decide) (by simp) c9 (by simp) (S 1 _ _ ?_)
          simp
          refine J.freezeC 64001 2 4738 (by rfl) (by rfl) (by rfl) ?_
          refine S 60 _ _ ?_
          simp
          exact Nxt.mk ⟨q', o'⟩ ⟨k6, k7, n1, n3, hrest2⟩ (by simp) k8
        · have f1 := e3
          rw [f1] at e2
          refine J.rounds 5 (LpW.step (S 60 _ _ ?_))
          simp
          refine J.dr hF mixed 10 [[], [], [1], [1, 2], [], [4], [], [4, 5, 6], [4, 5, 6, 7], [1, 2, 3, 4, 5, 6, 7, 8], [0, 1, 2, 3, 4, 5, 6, 7, 8, 9], [0, 1, 2, 3, 4, 5, 6, 7, 8, 9, 10]] [[49, 50, 51, 52, 53, 54, 55, 56, 57, 58], [49, 50, 51, 52, 53, 54, 55, 56, 57, 58], [49, 51, 52, 53, 54, 55, 56, 57, 58], [49, 52, 53, 54, 55, 56, 57, 58], [49, 50, 51, 52, 53, 54, 55, 56, 57, 58], [49, 50, 51, 52, 54, 55, 56, 57, 58], [49, 50, 51, 52, 53, 54, 55, 56, 57, 58], [49, 50, 51, 52, 56, 57, 58], [49, 50, 51, 52, 57, 58], [49, 58]] (by decide) ?_
          simp [e1, f1]
          refine S 60 _ _ ?_
          simp
          refine LpW.inv (LpW.step (S 60 _ _ ?_))
          simp
          refine J.dr hF mixed 10 [[], [], [1], [1, 2], [], [4], [], [4, 5, 6], [4, 5, 6, 7], [1, 2, 3, 4, 5, 6, 7, 8], [0, 1, 2, 3, 4, 5, 6, 7, 8, 9], [0, 1, 2, 3, 4, 5, 6, 7, 8, 9, 10]] [[49, 50, 51, 52, 53, 54, 55, 56, 57, 58], [49, 50, 51, 52, 53, 54, 55, 56, 57, 58], [49, 51, 52, 53, 54, 55, 56, 57, 58], [49, 52, 53, 54, 55, 56, 57, 58], [49, 50, 51, 52, 53, 54, 55, 56, 57, 58], [49, 50, 51, 52, 54, 55, 56, 57, 58], [49, 50, 51, 52, 53, 54, 55, 56, 57, 58], [49, 50, 51, 52, 56, 57, 58], [49, 50, 51, 52, 57, 58], [49, 58]] (by decide) ?_
          simp [e2]
          refine S 60 _ _ ?_
          simp
          refine LpW.inv (LpW.step (S 60 _ _ ?_))
          simp
          refine LpW.inv (LpW.step (S 60 _ _ ?_))
          simp
          refine CallW.ok (by decide) (by simp) c7 (by simp) (S 60 _ _ ?_)
          simp
          refine J.dr hF mixed 9 [[], [], [], [], [1, 2, 3], [], [], [6], [5, 6, 7], [0, 1, 2, 3, 4, 5, 6, 7, 8], [0, 1, 2, 3, 4, 5, 6, 7, 8, 9]] [[65, 66, 67, 68, 69, 70, 71, 72, 73], [65, 66, 67, 68, 69, 70, 71, 72, 73], [65, 66, 67, 68, 69, 70, 71, 72, 73], [65, 66, 67, 68, 69, 70, 71, 72, 73], [65, 69, 70, 71, 72, 73], [65, 66, 67, 68, 69, 70, 71, 72, 73], [65, 66, 67, 68, 69, 70, 71, 72, 73], [65, 66, 67, 68, 69, 70, 72, 73], [65, 66, 67, 68, 69, 73]] (by decide) ?_
          simp
          refine DrC.ok hF (by rfl) (by simp) c8 (by simp) (by simp) ?_
          simp [wt]
          refine S 60 _ _ ?_
          simp
          refine CallW.ok (by decide) (by simp) c9 (by simp) (S 1 _ _ ?_)
          simp
          refine J.freezeC 64001 2 4738 (by rfl) (by rfl) (by rfl) ?_
          refine S 60 _ _ ?_
          simp
          exact Nxt.mk ⟨q', o'⟩ ⟨k6, k7, n1, n3, hrest2⟩ (by simp) k8
    · rw [decide_eq_false hs] at c2
      rw [tsO_no hg hs] at S ⊢
      dsimp only at S ⊢
      simp
      refine CallW.ok (by decide) (by simp) c1 (by simp) (S 60 _ _ ?_)
      simp
      refine CallW.ok (by decide) (by simp) c2 (by simp) (S 60 _ _ ?_)
      simp
  · rw [decide_eq_false hg] at c1
    rw [tsO_bad hg] at S ⊢
    dsimp only at S ⊢
    simp
    refine CallW.ok (by decide) (by simp) c1 (by simp) (S 60 _ _ ?_)
    simp

end Go.Sm
