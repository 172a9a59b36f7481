/- Towards the rows of this seat: what the functions do, as contracts over plain data. -/
import Derived.Test.YtemedeiolhgoeaaPkQrCountOrbitsBK14
import Derived.Test.YtemedeiolhgoeaaPkQrCountOrbitsBK8
import Derived.Test.YtemedeiolhgoeaaPkQrCountOrbitsBK15
namespace Go.Sm
open Go.RowKit Go.Shelf Go.Sort

def cmp1 (x y : Int) : Int := if x < y then -1 else if y < x then 1 else 0
theorem isNaNI_ok (x : Int) : CallOK Go.Proofs.Try.prog 76 [.one (i64 x)] (.one (bo false)) := by
  have hF := fnOk 6 [.tmp 2]
  refine callOK hF 60 Go.Proofs.Try.func76 rfl rfl rfl (by decide) (by simp) rfl ?_
  intro w0 hw
  have S := @vc_sound w0 _ hF ⟨(.one (bo false)), []⟩ Go.Proofs.Try.f76 rfl (by simp)
  simp

theorem compareI_ok (x y : Int) : CallOK Go.Proofs.Try.prog 57 [.one (i64 x), .one (i64 y)] (.one (i64 (cmp1 x y))) := by
  have hF := fnOk 20 [.tmp 4]
  refine callOK hF 60 Go.Proofs.Try.func57 rfl rfl rfl (by decide) (by simp) rfl ?_
  intro w0 hw
  have S := @vc_sound w0 _ hF ⟨(.one (i64 (cmp1 x y))), []⟩ Go.Proofs.Try.f57 rfl (by simp)
  have c1 := isNaNI_ok x
  have c2 := isNaNI_ok y
  by_cases h1 : x < y
  · have e : cmp1 x y = -1 := by unfold cmp1; rw [if_pos h1]
    rw [e] at S ⊢
    simp
    refine CallW.ok (by decide) (by simp) c1 (by simp) (S 60 _ _ ?_)
    simp
    refine CallW.ok (by decide) (by simp) c2 (by simp) (S 60 _ _ ?_)
    simp [h1]
  · by_cases h2 : y < x
    · have e : cmp1 x y = 1 := by unfold cmp1; rw [if_neg h1, if_pos h2]
      rw [e] at S ⊢
      simp
      refine CallW.ok (by decide) (by simp) c1 (by simp) (S 60 _ _ ?_)
      simp
      refine CallW.ok (by decide) (by simp) c2 (by simp) (S 60 _ _ ?_)
      simp [h1, h2]
    · have e : cmp1 x y = 0 := by unfold cmp1; rw [if_neg h1, if_neg h2]
      rw [e] at S ⊢
      simp
      refine CallW.ok (by decide) (by simp) c1 (by simp) (S 60 _ _ ?_)
      simp
      refine CallW.ok (by decide) (by simp) c2 (by simp) (S 60 _ _ ?_)
      simp [h1, h2]

theorem cmpV_drop {xs ys : List Int} {i : Nat} {x y : Int} (hx : xs[i]? = some x) (hy : ys[i]? = some y) : cmpV (xs.drop i) (ys.drop i) = if cmp1 x y = 0 then cmpV (xs.drop (i + 1)) (ys.drop (i + 1)) else cmp1 x y := by
  rw [drop_cons hx, drop_cons hy, cmpV]
  unfold cmp1
  by_cases h1 : x < y
  · rw [if_pos h1, if_pos h1, if_neg (by omega)]
  · rw [if_neg h1, if_neg h1]
    by_cases h2 : y < x
    · rw [if_pos h2, if_pos h2, if_neg (by omega)]
    · rw [if_neg h2, if_neg h2, if_pos rfl]

set_option maxHeartbeats 1000000 in
theorem compareV_ok (xs ys : List Int) (hx : xs.length ≤ 1048576) (hy : ys.length ≤ 1048576) : CallOK Go.Proofs.Try.prog 40 [.one (vInts xs), .one (vInts ys)] (.one (i64 (cmpV xs ys))) := by
  have hF := fnOk 36 [.tmp 4]
  refine callOK hF 60 Go.Proofs.Try.func40 rfl rfl rfl (by decide) (by simp) rfl ?_
  intro w0 hw
  have S := @vc_sound w0 _ hF ⟨(.one (i64 (cmpV xs ys))), []⟩ Go.Proofs.Try.f40 rfl (by simp)
  generalize hc : cmpV xs ys = c at S ⊢
  simp
  refine J.loop hw (fun i : Nat => ⟨[(0, .c (.d (vInts xs))), (1, .c (.d (vInts ys))), (9, .c (.d (vInts xs))), (10, .c (.d (i64 xs.length))), (11, .c (.d (i64 i)))], []⟩)
    (fun i => i ≤ xs.length ∧ i ≤ ys.length ∧ cmpV (xs.drop i) (ys.drop i) = c) (fun i => xs.length - i) 0 ⟨by omega, by omega, by simpa using hc⟩ (by simp) ?_
  rintro i ⟨hi, hi2, hd⟩
  refine S 8 _ _ ?_
  simp
  refine ⟨fun hlt => ?_, fun hge => ?_⟩
  · obtain ⟨x, hx'⟩ : ∃ x, xs[i]? = some x := ⟨xs[i], List.getElem?_eq_getElem hlt⟩
    by_cases hy' : i < ys.length
    · obtain ⟨y, hyy⟩ : ∃ y, ys[i]? = some y := ⟨ys[i], List.getElem?_eq_getElem hy'⟩
      have c1 := compareI_ok x y
      rw [cmpV_drop hx' hyy] at hd
      have hn : ¬ ys.length ≤ i := by omega
      refine S 60 _ _ ?_
      simp [hn]
      refine ⟨hlt, fun x' h' => ?_⟩
      obtain rfl : x = x' := Option.some.inj (hx'.symm.trans h')
      clear h'
      refine ⟨hy', fun y' h' => ?_⟩
      obtain rfl : y = y' := Option.some.inj (hyy.symm.trans h')
      clear h'
      generalize cmp1 x y = z at c1 hd
      refine CallW.ok (by decide) (by simp) c1 (by simp) (S 60 _ _ ?_)
      simp
      refine ⟨fun hz => ?_, fun hz => ?_⟩
      · rw [if_neg hz] at hd; exact hd
      · rw [if_pos hz] at hd
        exact Nxt.mk (i + 1) ⟨hlt, hy', hd⟩ (by simp [wrapS (i := i) (n := xs.length) hlt (by omega)]) (by omega)
    · have hn : ys.length ≤ i := by omega
      have e : c = 1 := by
        rw [← hd, drop_cons hx', List.drop_of_length_le hn]
        rfl
      subst e
      refine S 60 _ _ ?_
      simp [hn]
      exact hlt
  · obtain rfl : i = xs.length := by omega
    rw [List.drop_length] at hd
    by_cases hlt2 : xs.length < ys.length
    · have e : c = -1 := by
        obtain ⟨y, hyy⟩ : ∃ y, ys[xs.length]? = some y := ⟨ys[xs.length], List.getElem?_eq_getElem hlt2⟩
        rw [← hd, drop_cons hyy]
        rfl
      subst e
      refine S 60 _ _ ?_
      simp [hlt2]
    · have e : c = 0 := by
        rw [← hd, List.drop_of_length_le (by omega)]
        rfl
      subst e
      refine S 60 _ _ ?_
      simp [hlt2]

/-! ### the sort -/
def insD (w : List Int) : List (List Int) → List (List Int)
  | [] => [w]
  | x :: L => if cmpV x w < 0 then x :: insD w L else w :: x :: L
def srtD (ws : List (List Int)) : List (List Int) := ws.foldr insD []
theorem insD_perm (w : List Int) : ∀ L : List (List Int), (insD w L).Perm (w :: L)
  | [] => List.Perm.refl _
  | x :: L => by
    unfold insD
    split
    · exact ((insD_perm w L).cons x).trans (List.Perm.swap w x L)
    · exact List.Perm.refl _
theorem srtD_perm : ∀ ws : List (List Int), (srtD ws).Perm ws
  | [] => List.Perm.refl _
  | w :: ws => (insD_perm w _).trans ((srtD_perm ws).cons w)
abbrev SrtLe (L : List (List Int)) : Prop := L.Pairwise fun a b => cmpV a b ≤ 0
theorem cmpV_le_trans {a b c : List Int} (h1 : cmpV a b ≤ 0) (h2 : cmpV b c ≤ 0) : cmpV a c ≤ 0 := by
  by_cases e1 : cmpV a b = 0
  · rw [cmpV_eq.1 e1]; exact h2
  · by_cases e2 : cmpV b c = 0
    · rw [← cmpV_eq.1 e2]; exact h1
    · have := cmpV_trans (xs := a) (ys := b) (zs := c) (by omega) (by omega)
      omega
theorem insD_srt {w : List Int} : ∀ {L : List (List Int)}, SrtLe L → SrtLe (insD w L)
  | [], _ => by simp [insD, SrtLe]
  | x :: L, h => by
    have hx := List.pairwise_cons.1 h
    unfold insD
    split
    · rename_i h1
      refine List.pairwise_cons.2 ⟨fun z hz => ?_, insD_srt hx.2⟩
      rcases List.mem_cons.1 ((insD_perm w L).subset hz) with rfl | hz
      · omega
      · exact hx.1 z hz
    · rename_i h1
      have hf := cmpV_flip x w
      refine List.pairwise_cons.2 ⟨fun z hz => ?_, h⟩
      rcases List.mem_cons.1 hz with rfl | hz
      · omega
      · exact cmpV_le_trans (show cmpV w x ≤ 0 by omega) (hx.1 z hz)
theorem srtD_srt : ∀ ws : List (List Int), SrtLe (srtD ws)
  | [] => List.Pairwise.nil
  | _ :: ws => insD_srt (srtD_srt ws)
theorem swoV (L : List (List Int)) : SWO (Go.Proofs.ltOf (cmpG cmpV L)) where
  irrefl x := by unfold Go.Proofs.ltOf cmpG; rw [cmpV_self]; rfl
  trans x y z h1 h2 := by
    unfold Go.Proofs.ltOf cmpG at *
    rw [decide_eq_true_eq] at *
    exact cmpV_trans h1 h2
  ntrans x y z h1 h2 := by
    unfold Go.Proofs.ltOf cmpG at *
    rw [decide_eq_false_iff_not] at *
    have f1 := cmpV_flip (rowAt L x) (rowAt L y)
    have f2 := cmpV_flip (rowAt L y) (rowAt L z)
    have f3 := cmpV_flip (rowAt L x) (rowAt L z)
    have := cmpV_le_trans (a := rowAt L z) (b := rowAt L y) (c := rowAt L x) (by omega) (by omega)
    omega
theorem sortV_ok (L : List (List Int)) (hl : L.length < 4611686018427387904) (hlen : ∀ r ∈ L, r.length ≤ 1048576) :
    CallX Go.Proofs.Try.prog 39 [.one (oIntss L), .one (fnD 40)] ⟨.tup [], [(0, oIntss (srtD L))]⟩ :=
  sortRowsG 40 cmpV ⟨Go.Proofs.enters_of Go.Proofs.Try.func40 (by kernel_rfl) rfl, compareV_ok⟩ L (srtD L) (swoV L) hl hlen (srtD_perm L) fun d hd hs =>
    List.Perm.eq_of_pairwise (fun a b _ _ h1 h2 => by
      have := cmpV_flip a b
      exact cmpV_eq.1 (by omega)) hs ((srtD_srt L).imp fun {a b} h => by have := cmpV_flip a b; omega) hd

end Go.Sm

namespace Go.Sm
open Go.RowKit

/-! ### what is kept -/
def kp (cs : List Value) (L : List (List Int)) : Nat → List (Value × List Int)
  | 0 => []
  | j + 1 => if 1 ≤ j ∧ rowAt L j = rowAt L (j - 1) then kp cs L j else kp cs L j ++ [(hdAt cs j, rowAt L j)]
theorem kp_dup {cs : List Value} {L : List (List Int)} {j : Nat} (h1 : 1 ≤ j) (h : rowAt L j = rowAt L (j - 1)) : kp cs L (j + 1) = kp cs L j := by rw [kp, if_pos ⟨h1, h⟩]
theorem kp_new {cs : List Value} {L : List (List Int)} {j : Nat} (h : ¬ rowAt L j = rowAt L (j - 1)) : kp cs L (j + 1) = kp cs L j ++ [(hdAt cs j, rowAt L j)] := by rw [kp, if_neg fun e => h e.2]
theorem kp_pos {cs : List Value} {L : List (List Int)} : ∀ {j}, 1 ≤ j → 1 ≤ (kp cs L j).length
  | j + 1, _ => by
    by_cases h : 1 ≤ j ∧ rowAt L j = rowAt L (j - 1)
    · rw [kp, if_pos h]; exact kp_pos h.1
    · rw [kp, if_neg h]; simp
/-- The handles kept. -/
def kh (cs : List Value) (L : List (List Int)) (j : Nat) : List Value := (kp cs L j).map (·.1)
theorem kh_len (cs : List Value) (L : List (List Int)) (j : Nat) : (kh cs L j).length = (kp cs L j).length := by simp [kh]
theorem hd_get {cs : List Value} {i : Nat} (h : i < cs.length) : cs[i]? = some (hdAt cs i) := by unfold hdAt; simp [h]
abbrev vals (cs : List Value) : List (List D) := cs.map fun c => [D.v c]

/-- At the end: the handles that are kept are the first ones of the array, and the result is that part of it. -/
def EndC (v1 : Value) (out : List Value) (s : St) : Prop := ∃ xs : List Value, lk s.ob 0 = some (.arr 25 1 (vals xs)) ∧ xs.take out.length = out ∧
  ((lk s.tm 4 = some (.c (.ob 0)) ∧ xs.length = out.length) ∨ lk s.tm 4 = some (.c (.d (.v (cutV v1 out.length)))))

set_option maxRecDepth 20000 in
set_option maxHeartbeats 1000000 in
theorem compact_walk {w0 : Base} (hw : w0.ok64) (v1 : Value) (hf0 : w0.fix 0 = some v1) (cs : List Value) (L : List (List Int)) (hcl : cs.length = L.length) (hl : L.length ≤ 1048576) (hlen : ∀ r ∈ L, r.length ≤ 1048576)
    (hrow : ∀ i, i < L.length → RowV w0 (rowAt L i) (hdAt cs i)) {Q : Exit → Act → World → Prop} (hret : ∀ (s : St) (a : Act) (w : World) (β : Nat → Value), Rel 66 w0 s a w β → EndC v1 (kh cs L L.length) s → Q .normal a w ∧ Q .ret a w) {c : Code} (hb : (Go.Proofs.Try.f41).body = some c) :
    J Go.Proofs.Try.prog 66 w0 Q [.code c] ⟨[(0, .c (.ob 0)), (1, .c (.d (fnD 22)))], [(0, .arr 25 1 (vals cs))]⟩ := by
  have hF := fnOk 66 [.tmp 4]
  have S := @vc_soundQ w0 _ hF Q (EndC v1 (kh cs L L.length)) hret
  obtain rfl : _ = c := Option.some.inj hb
  have heq : ∀ i j, i < L.length → j < L.length → CallOK Go.Proofs.Try.prog 22 [.one (vInts (rowAt L i)), .one (vInts (rowAt L j))] (.one (bo (decide (rowAt L i = rowAt L j)))) := fun i j hi _ =>
    sameInts_ok (rowAt L i) (rowAt L j) (by
      have : rowAt L i = L[i] := by unfold rowAt; simp [hi]
      rw [this]
      have := hlen _ (List.getElem_mem hi)
      omega)
  have kh_take : ∀ i, i ≤ L.length → (∀ j, 1 ≤ j → j < i → ¬ rowAt L j = rowAt L (j - 1)) → kh cs L i = cs.take i := by
    intro i
    induction i with
    | zero => intro _ _; rfl
    | succ i ih =>
      intro hi hne
      have h1 := ih (by omega) fun j a b => hne j a (by omega)
      have e : kp cs L (i + 1) = kp cs L i ++ [(hdAt cs i, rowAt L i)] := by
        rw [kp, if_neg]
        rintro ⟨h2, h3⟩
        exact hne i h2 (by omega) h3
      rw [List.take_add_one, hd_get (by omega), ← h1, kh, e]
      simp [kh]
  by_cases h2 : L.length < 2
  · have e : kh cs L L.length = cs := by rw [kh_take _ (Nat.le_refl _) fun j a b => by omega, List.take_of_length_le (by omega)]
    refine S 60 _ _ ?_
    simp [hcl, show (L.length : Int) < 2 by omega]
    exact ⟨cs, by simp, by rw [e]; simp, .inl ⟨by simp, by rw [e]⟩⟩
  have h2' : ¬ (L.length : Int) < 2 := by omega
  refine S 60 _ _ ?_
  simp [hcl, h2']
  refine J.loop hw (fun i : Nat => ⟨[(0, .c (.ob 0)), (1, .c (.d (fnD 22))), (5, .c (.d (i64 i)))], [(0, .arr 25 1 (vals cs))]⟩)
    (fun i => 1 ≤ i ∧ i ≤ L.length ∧ ∀ j, 1 ≤ j → j < i → ¬ rowAt L j = rowAt L (j - 1)) (fun i => L.length - i) 1 ⟨by omega, by omega, fun j a b => by omega⟩ (by simp) ?_
  rintro i ⟨hi1, hi, hne⟩
  refine S 12 _ _ ?_
  simp [hcl]
  refine ⟨fun hlt => ?_, fun hge => ?_⟩
  · have wi : IntKind.i64.wrap ((i : Int) - 1) = ((i - 1 : Nat) : Int) := by rw [wrap64] <;> omega
    have c1 := heq i (i - 1) hlt (by omega)
    have r1 := hrow i hlt
    have r2 := hrow (i - 1) (by omega)
    have g1 := hd_get (cs := cs) (i := i) (by omega)
    have g2 := hd_get (cs := cs) (i := i - 1) (by omega)
    refine S 60 _ _ ?_
    simp
    refine J.drV [(4, .c (.d (vInts (rowAt L i)))), (9, .c (.d (vInts (rowAt L (i - 1)))))] hF mixed 10 [[], [], [], [1, 2], [1, 2, 3], [], [], [6], [5, 6, 7], [5, 6, 7, 8], [0, 1, 2, 3, 4, 5, 6, 7, 8, 9]] [[18, 19, 20, 21, 22, 23, 24, 25, 26, 27], [18, 19, 20, 21, 22, 23, 24, 25, 26, 27], [18, 19, 20, 21, 22, 23, 24, 25, 26, 27], [18, 21, 22, 23, 24, 25, 26, 27], [18, 22, 23, 24, 25, 26, 27], [18, 19, 20, 21, 22, 23, 24, 25, 26, 27], [18, 19, 20, 21, 22, 23, 24, 25, 26, 27], [18, 19, 20, 21, 22, 23, 25, 26, 27], [18, 19, 20, 21, 22, 26, 27], [18, 19, 20, 21, 22, 27]] (by decide) ?_
    simp [wi]
    refine ⟨by omega, fun x hx => ?_⟩
    obtain rfl : hdAt cs i = x := Option.some.inj (g1.symm.trans hx)
    clear hx
    refine ⟨ConvW.row r1, ?_⟩
    refine ⟨by omega, fun x hx => ?_⟩
    obtain rfl : hdAt cs (i - 1) = x := Option.some.inj (g2.symm.trans hx)
    clear hx
    refine ⟨ConvW.row r2, ?_⟩
    refine S 60 _ _ ?_
    simp
    by_cases hd : rowAt L i = rowAt L (i - 1)
    case neg =>
      rw [decide_eq_false hd] at c1
      refine CallW.ok (by decide) (by simp) c1 (by simp) (S 60 _ _ ?_)
      simp
      refine Nxt.mk (i + 1) ⟨by omega, hlt, fun j a b => ?_⟩ (by simp [wrapS (i := i) (n := L.length) hlt (by omega)]) (by omega)
      by_cases hj : j = i
      · rw [hj]; exact hd
      · exact hne j a (by omega)
    rw [decide_eq_true hd] at c1
    refine CallW.ok (by decide) (by simp) c1 (by simp) (S 60 _ _ ?_)
    simp
    have e0 : kp cs L (i + 1) = kp cs L i := kp_dup hi1 hd
    have e1 : kh cs L i = cs.take i := kh_take i (by omega) hne
    have e2 : (kp cs L i).length = i := by rw [← kh_len, e1, List.length_take]; omega
    refine ⟨by omega, ?_⟩
    refine J.loop hw (fun p : Nat × List Value => ⟨[(0, .c (.ob 0)), (1, .c (.d (fnD 22))), (5, .c (.d (i64 (kp cs L (i + p.1)).length))), (6, .c (.win 0 1 i (L.length - i))), (7, .c (.d (i64 p.1)))], [(0, .arr 25 1 (vals p.2))]⟩)
      (fun p => 1 ≤ p.1 ∧ i + p.1 ≤ L.length ∧ p.2.length = L.length ∧ p.2.take (kp cs L (i + p.1)).length = kh cs L (i + p.1) ∧ (kp cs L (i + p.1)).length + 1 ≤ i + p.1 ∧ ∀ q, i + p.1 - 1 ≤ q → q < L.length → p.2[q]? = some (hdAt cs q)) (fun p => L.length - p.1) (1, cs)
      ⟨by omega, by show i + 1 ≤ _; omega, hcl, by show cs.take (kp cs L (i + 1)).length = _; rw [e0, e2, kh, e0, ← kh, e1], by show (kp cs L (i + 1)).length + 1 ≤ i + 1; rw [e0, e2]; omega, fun q _ (hq : q < L.length) => (show cs[q]? = some (hdAt cs q) from hd_get (by omega))⟩ (by simp [hcl, e0, e2]) ?_
    rintro ⟨m, C⟩ ⟨hm1, hm, hCl, hCk, hk, hC⟩
    simp only at hm1 hm hCl hCk hk hC
    have hkp := kp_pos (cs := cs) (L := L) (j := i + m) (by omega)
    have hnx1 := fun h => kp_dup (cs := cs) (L := L) (j := i + m) (by omega) h
    have hnx2 := fun h => kp_new (cs := cs) (L := L) (j := i + m) h
    have hkh := kh_len cs L (i + m)
    generalize hkk : (kp cs L (i + m)).length = kk at hCk hk hkp hkh
    refine S 12 _ _ ?_
    simp
    refine ⟨fun hlt2 => ?_, fun hge2 => ?_⟩
    · have wm : IntKind.i64.wrap ((m : Int) - 1) = ((m - 1 : Nat) : Int) := by rw [wrap64] <;> omega
      have c2 := heq (i + m) (i + m - 1) (by omega) (by omega)
      have r3 := hrow (i + m) (by omega)
      have r4 := hrow (i + m - 1) (by omega)
      have g3 := hC (i + m) (by omega) (by omega)
      have g4 := hC (i + m - 1) (by omega) (by omega)
      have ea : i + (m - 1) = i + m - 1 := by omega
      refine S 60 _ _ ?_
      simp
      refine J.drV [(4, .c (.d (vInts (rowAt L (i + m))))), (9, .c (.d (vInts (rowAt L (i + m - 1)))))] hF mixed 10 [[], [], [], [1, 2], [1, 2, 3], [], [], [6], [5, 6, 7], [5, 6, 7, 8], [0, 1, 2, 3, 4, 5, 6, 7, 8, 9], [0, 1, 2, 3, 4, 5, 6, 7, 8, 9, 10]] [[38, 39, 40, 41, 42, 43, 44, 45, 46, 47], [38, 39, 40, 41, 42, 43, 44, 45, 46, 47], [38, 39, 40, 41, 42, 43, 44, 45, 46, 47], [38, 41, 42, 43, 44, 45, 46, 47], [38, 42, 43, 44, 45, 46, 47], [38, 39, 40, 41, 42, 43, 44, 45, 46, 47], [38, 39, 40, 41, 42, 43, 44, 45, 46, 47], [38, 39, 40, 41, 42, 43, 45, 46, 47], [38, 39, 40, 41, 42, 46, 47], [38, 39, 40, 41, 42, 47]] (by decide) ?_
      simp [wm, ea]
      refine ⟨by omega, by omega, fun x hx => ?_⟩
      obtain rfl : hdAt cs (i + m) = x := Option.some.inj (g3.symm.trans hx)
      clear hx
      refine ⟨ConvW.row r3, by omega, by omega, fun x hx => ?_⟩
      obtain rfl : hdAt cs (i + m - 1) = x := Option.some.inj (g4.symm.trans hx)
      clear hx
      refine ⟨ConvW.row r4, ?_⟩
      refine S 60 _ _ ?_
      simp
      by_cases hd2 : rowAt L (i + m) = rowAt L (i + m - 1)
      · have e9 := hnx1 hd2
        rw [decide_eq_true hd2] at c2
        refine CallW.ok (by decide) (by simp) c2 (by simp) (S 60 _ _ ?_)
        simp
        refine Nxt.mk (m + 1, C) ⟨by omega, by omega, hCl, by show C.take (kp cs L (i + m + 1)).length = kh cs L (i + m + 1); rw [kh, e9, hkk, hCk, kh], by show (kp cs L (i + m + 1)).length + 1 ≤ i + m + 1; rw [e9, hkk]; omega, fun q h1 h2 => hC q (by omega) h2⟩ (by simp [wrapS (i := m) (n := L.length) (by omega) (by omega), ← Nat.add_assoc, e9, hkk]) (by show L.length - (m + 1) < L.length - m; omega)
      · have e9 := hnx2 hd2
        rw [decide_eq_false hd2] at c2
        refine CallW.ok (by decide) (by simp) c2 (by simp) (S 60 _ _ ?_)
        simp
        refine ⟨by omega, by omega, fun x hx => ?_⟩
        obtain rfl : hdAt cs (i + m) = x := Option.some.inj (g3.symm.trans hx)
        clear hx
        refine ⟨by omega, ?_⟩
        have hk1 : (kp cs L (i + m + 1)).length = kk + 1 := by rw [e9, List.length_append, hkk]; rfl
        refine Nxt.mk (m + 1, C.set kk (hdAt cs (i + m))) ⟨by omega, by show i + (m + 1) ≤ _; omega, by show (C.set _ _).length = _; simpa using hCl, ?_, by show (kp cs L (i + m + 1)).length + 1 ≤ i + m + 1; rw [hk1]; omega, fun q h1 h2 => ?_⟩ (by simp [wrapS (i := m) (n := L.length) (by omega) (by omega), wrapS (i := kk) (n := L.length) (by omega) (by omega), ← Nat.add_assoc, hk1, List.map_set]) (by show L.length - (m + 1) < L.length - m; omega)
        · show (C.set kk (hdAt cs (i + m))).take (kp cs L (i + m + 1)).length = kh cs L (i + m + 1)
          rw [hk1, List.take_add_one, List.take_set_of_le (Nat.le_refl kk), hCk, kh, kh, e9]
          simp [show kk < C.length by omega]
        · have hq : i + m ≤ q := by have h1' := h1; simp only at h1'; omega
          show (C.set kk (hdAt cs (i + m)))[q]? = some (hdAt cs q)
          rw [List.getElem?_set_ne (by omega)]
          exact hC q (by omega) h2
    · refine S 60 _ _ ?_
      simp
      refine ⟨by omega, ?_⟩
      have hend : i + m = L.length := by omega
      rw [hend] at hCk hkk hkh
      refine OpW.clear (K := 0) (lo := kk) (n := C.length - kk) (xs := vals C) (e' := 25) (x := .tmp 61) rfl rfl rfl rfl rfl hF.T rfl rfl rfl rfl rfl (by simp) (by simp) (by simp; omega) (by simp [okNo_all, noOwn]) ?_
      refine S 5 _ _ ?_
      simp
      refine J.op rfl (OpW.cutV (kd := .i64) (K := 0) (n := kk) (v1 := v1) (xs := List.take kk (vals C) ++ List.replicate (C.length - kk) [D.v nilV]) (e' := 25) (x := .tmp 62) (y := .tmp 63) rfl rfl (by decide) hF.T rfl rfl rfl (by simp) (by simp) (by simp) hf0 (by simp; omega) ?_)
      refine S 60 _ _ ?_
      simp
      refine ⟨C.take kk ++ List.replicate (C.length - kk) nilV, by simp [List.map_take], ?_, .inr (by rw [hkh]; simp)⟩
      rw [hkh, List.take_append_of_le_length (by rw [List.length_take]; omega), List.take_take, Nat.min_self, hCk]
  · have e : kh cs L L.length = cs := by rw [kh_take _ (Nat.le_refl _) fun j a b => hne j a (by omega), List.take_of_length_le (by omega)]
    refine S 60 _ _ ?_
    simp
    exact ⟨cs, by simp, by rw [e]; simp, .inl ⟨by simp, by rw [e]⟩⟩

end Go.Sm

namespace Go.Sm
open Go.RowKit

theorem comp_ne {L : List (List Int)} (h : L ≠ []) : comp L ≠ [] := fun e => by
  cases L with
  | nil => exact h rfl
  | cons x L =>
    have := (comp_mem x (x :: L)).2 (List.mem_cons_self ..)
    rw [e] at this
    cases this
theorem comp_snoc (x : List Int) : ∀ A : List (List Int), comp (A ++ [x]) = if A.getLast? = some x then comp A else comp A ++ [x]
  | [] => by simp [comp]
  | [a] => by
    by_cases h : a = x
    · subst h; simp [comp]
    · simp [comp, h]
  | a :: b :: A => by
    have ih := comp_snoc x (b :: A)
    have hl : (a :: b :: A).getLast? = (b :: A).getLast? := by simp
    rw [hl]
    have e1 : comp (a :: b :: A ++ [x]) = match comp (b :: A ++ [x]) with | [] => [a] | y :: M => if a = y then y :: M else a :: y :: M := rfl
    have e2 : comp (a :: b :: A) = match comp (b :: A) with | [] => [a] | y :: M => if a = y then y :: M else a :: y :: M := rfl
    rw [e1, e2, ih]
    have hne := comp_ne (L := b :: A) (by simp)
    by_cases hq : (b :: A).getLast? = some x
    · rw [if_pos hq, if_pos hq]
    · rw [if_neg hq, if_neg hq]
      cases hc : comp (b :: A) with
      | nil => exact absurd hc hne
      | cons y M =>
        simp only [List.cons_append]
        by_cases hy : a = y
        · simp [hy]
        · simp [hy]
theorem kp_comp {cs : List Value} {L : List (List Int)} : ∀ {n}, n ≤ L.length → (kp cs L n).map (·.2) = comp (L.take n)
  | 0, _ => by simp [kp, comp]
  | n + 1, h => by
    have ih := kp_comp (cs := cs) (L := L) (n := n) (by omega)
    have hn : L[n]? = some (rowAt L n) := by unfold rowAt; simp [show n < L.length by omega]
    rw [List.take_add_one, hn, Option.toList, comp_snoc]
    have hg : (L.take n).getLast? = some (rowAt L n) ↔ 1 ≤ n ∧ rowAt L n = rowAt L (n - 1) := by
      rw [List.getLast?_eq_getElem?, List.length_take, show min n L.length = n by omega, List.getElem?_take]
      by_cases h1 : 1 ≤ n
      · have hn1 : L[n - 1]? = some (rowAt L (n - 1)) := by unfold rowAt; simp [show n - 1 < L.length by omega]
        rw [if_pos (by omega), hn1]
        constructor
        · intro e; exact ⟨h1, (Option.some.inj e).symm⟩
        · intro e; rw [e.2]
      · rw [if_neg (by omega)]
        constructor
        · intro e; cases e
        · intro e; exact absurd e.1 h1
    unfold kp
    by_cases hd : 1 ≤ n ∧ rowAt L n = rowAt L (n - 1)
    · rw [if_pos hd, if_pos (hg.2 hd), ih]
    · rw [if_neg hd, if_neg fun e => hd (hg.1 e), List.map_append, ih]; rfl
theorem kp_mem {cs : List Value} {L : List (List Int)} : ∀ {n} {p : Value × List Int}, p ∈ kp cs L n → ∃ k, k < n ∧ p = (hdAt cs k, rowAt L k)
  | n + 1, p, h => by
    unfold kp at h
    split at h
    · obtain ⟨k, h1, h2⟩ := kp_mem h
      exact ⟨k, by omega, h2⟩
    · rcases List.mem_append.1 h with h | h
      · obtain ⟨k, h1, h2⟩ := kp_mem h
        exact ⟨k, by omega, h2⟩
      · exact ⟨n, by omega, List.mem_singleton.1 h⟩
theorem kp_sub {cs : List Value} {L : List (List Int)} : ∀ {n}, n ≤ cs.length → List.Sublist (kh cs L n) (cs.take n)
  | 0, _ => by simp [kh, kp]
  | n + 1, h => by
    have ih := kp_sub (cs := cs) (L := L) (n := n) (by omega)
    rw [List.take_add_one, hd_get (by omega), Option.toList]
    unfold kh kp
    split
    · exact ih.trans (List.sublist_append_left _ _)
    · rw [List.map_append]
      exact ih.append (List.Sublist.refl _)

/-- What the walk leaves. -/
def FinC (w : World) (v1 : Value) (out : List Value) (v : Value) : Prop := (out = [] ∧ v = nilV) ∨ ∃ g N cap cur, v1 = .slice (some ⟨g, 0, none⟩) N cap ∧ v = .slice (some ⟨g, 0, none⟩) out.length cap ∧ out.length ≤ cap ∧
  w.heap[g]? = some (.cells cur 25 (0, 0)) ∧ cap ≤ maxLen ∧ cur.size = cap * 1 ∧ ∀ j u, out[j]? = some u → w.cell? ⟨g, j, none⟩ = some u

theorem finC_of {N : Nat} {w0 : Base} {s : St} {a : Act} {w : World} {β : Nat → Value} (R : Rel N w0 s a w β) {v1 : Value} (hf : w0.fix 0 = some v1) {out : List Value} (h : EndC v1 out s) : FinC w v1 out (a.tmps.getD 4 undef) := by
  obtain ⟨xs, h1, h2, h3⟩ := h
  have hc : β 0 = v1 := (R.fx 0 v1 hf).2
  have hr : OwnRel w w0.arg (s.en w w0.arg β).M 25 1 (vals xs) (β 0) := R.ob 0 _ h1
  rw [hc] at hr
  have hv : (a.tmps.getD 4 undef = v1 ∧ xs.length = out.length) ∨ a.tmps.getD 4 undef = cutV v1 out.length := by
    rcases h3 with ⟨h3, h4⟩ | h3
    · have := R.tm 4 _ h3
      simp only [FVRel, CRel] at this
      have e : a.tmps.getD 4 undef = β 0 := this.2.1
      exact .inl ⟨e.trans hc, h4⟩
    · exact .inr (val_rel (R.tm 4 _ h3))
  rcases hr with ⟨hx, rfl⟩ | ⟨g, cap, cur, rfl, q1, q2, q3, q4, q5⟩
  · have hx : xs = [] := by simpa using hx
    subst hx
    have ho : out = [] := by rw [← h2]; simp
    subst ho
    refine .inl ⟨rfl, ?_⟩
    rcases hv with ⟨e, _⟩ | e
    · exact e
    · exact e
  · have hle : out.length ≤ xs.length := by rw [← h2, List.length_take]; omega
    obtain ⟨i1, _⟩ := rdEs_cells _ _ q5
    simp only [List.length_map] at q1 hv
    refine .inr ⟨g, xs.length, cap, cur, by simp, ?_, by omega, q2, q3, q4, fun j u hj => ?_⟩
    · rcases hv with ⟨e, hl⟩ | e
      · rw [e, hl]
      · exact e
    · have := i1 j u (by
        rw [← h2, List.getElem?_take] at hj
        split at hj
        · exact hj
        · cases hj)
      rwa [Nat.zero_add] at this


theorem sub_flat {α β : Type} (f : α → List β) {l m : List α} (h : List.Sublist l m) : List.Sublist (l.flatMap f) (m.flatMap f) := by
  induction h with
  | slnil => exact List.Sublist.refl _
  | cons a _ ih => rw [List.flatMap_cons]; exact ih.trans (List.sublist_append_right _ _)
  | cons_cons a _ ih => rw [List.flatMap_cons, List.flatMap_cons]; exact (List.Sublist.refl _).append ih
theorem fpVs_vals (w : World) : ∀ us : List Value, fpVs w 1 (vals us) us = []
  | [] => rfl
  | u :: us => by simp [fpVs, fpDs, fp, fpVs_vals w us]
theorem EsV_vals : ∀ us : List Value, EsV (fun d v => d = .v v) 1 (vals us) us
  | [] => rfl
  | u :: us => ⟨[u], us, rfl, rfl, ⟨u, [], rfl, rfl, rfl⟩, EsV_vals us⟩
abbrev entS (f : Value) (cs : List Value) : St := ⟨[(0, .c (.ob 0)), (1, .c (.d (.v f)))], [(0, .arr 25 1 (vals cs))]⟩
abbrev entB (w : World) (v1 : Value) : Base := ⟨w, (· ∈ hb v1), fun k => if k = 0 then some v1 else none⟩
theorem entry_rel {N : Nat} (hN : 2 ≤ N) {w : World} {v1 f : Value} {cs : List Value} (hv1 : v1.oneCell' = true) (hf : f.oneCell' = true) (hown : OwnRel w (fun _ => False) (fun _ => False) 25 1 (vals cs) v1) (hnd : (hb v1).Nodup) :
    Rel N (entB w v1) (entS f cs) { tmps := [v1, f].toArray ++ Array.replicate (N - 2) undef, defers := [] } w fun _ => v1 := by
  have hob : ∀ k, (St.en (entS f cs) w (entB w v1).arg fun _ => v1).ob k = if k = 0 then some (.arr 25 1 (vals cs)) else none := fun k => by
    show lk [(0, Ob.arr 25 1 (vals cs))] k = _
    by_cases hk : k = 0
    · subst hk; rw [if_pos rfl]; exact lk_cons_self _ _ _
    · rw [if_neg hk, lk_cons_ne _ _ (Ne.symm hk)]; rfl
  have hEn : ∀ k, obFp (St.en (entS f cs) w (entB w v1).arg fun _ => v1) k = if k = 0 then hb v1 else [] := fun k => by
    by_cases hk : k = 0
    · subst hk
      rw [if_pos rfl, obFp_arr (e := 25) (z := 1) (xs := vals cs) (by rw [hob, if_pos rfl])]
      show fp w (.own 25 1 (vals cs)) v1 = hb v1
      rcases hown with ⟨hx, rfl⟩ | ⟨b, cap, cur, rfl, _, _, _, _, q5⟩
      · simp [fp, hb]
      · obtain ⟨i1, _⟩ := rdEs_cells _ _ q5
        rw [fp_own_some, fpEs_vals _ cs 0 (EsV_vals cs) i1, fpVs_vals]
        rfl
    · rw [if_neg hk]
      unfold obFp
      rw [hob, if_neg hk]
  have g0 : ([v1, f].toArray ++ Array.replicate (N - 2) undef).getD 0 undef = v1 := by rw [Array.getD_eq_getD_getElem?, Array.getElem?_append_left (by simp)]; simp
  have g1 : ([v1, f].toArray ++ Array.replicate (N - 2) undef).getD 1 undef = f := by rw [Array.getD_eq_getD_getElem?, Array.getElem?_append_left (by simp)]; simp
  refine ⟨by simp; omega, rfl, ?_, ?_, ?_, ?_, ?_, Low.refl _ _, ?_⟩
  · intro t g h
    rw [lk_cons] at h
    split at h
    · rename_i e; subst e
      simp only [Option.some.injEq] at h; subst h
      simp only [FVRel, CRel]
      exact ⟨by rw [hob, if_pos rfl]; rfl, g0, by rw [g0]; exact hv1⟩
    · rw [lk_cons] at h
      split at h
      · rename_i e; subst e
        simp only [Option.some.injEq] at h; subst h
        rw [g1]
        exact rel_val hf
      · simp [lk] at h
  · intro k o h
    have h : (St.en (entS f cs) w (entB w v1).arg fun _ => v1).ob k = some o := h
    rw [hob] at h
    split at h
    · simp only [Option.some.injEq] at h; subst h
      rcases hown with ⟨hx, he⟩ | ⟨b, cap, cur, q0, q1, q2, q3, q4, q5⟩
      · exact .inl ⟨hx, he⟩
      · obtain ⟨i1, i2⟩ := rdEs_cells _ _ q5
        exact .inr ⟨b, cap, cur, q0, q1, q2, q3, q4, rdEs_vals cs 0 i2 i1⟩
    · cases h
  · intro k; rw [hEn]; split
    · exact hnd
    · exact List.nodup_nil
  · intro k k' hk y hy
    rw [hEn] at hy ⊢
    split at hy
    · rw [if_neg (by omega)]; simp
    · cases hy
  · intro k y hy
    rw [hEn] at hy
    split at hy
    · exact .inr hy
    · cases hy
  · intro k c h
    have h : (if k = 0 then some v1 else none) = some c := h
    split at h
    · rename_i e; subst e
      exact ⟨by show (lk [(0, Ob.arr 25 1 (vals cs))] 0).isSome = true; rw [lk_cons_self]; rfl, Option.some.inj h⟩
    · cases h

set_option maxHeartbeats 1000000 in
theorem Compact_ok (L : List (List Int)) (hl : L.length ≤ 1048576) (hlen : ∀ r ∈ L, r.length ≤ 1048576) :
    CallX Go.Proofs.Try.prog 41 [.one (oIntss L), .one (fnD 22)] ⟨.one (oIntss (comp L)), []⟩ := by
  refine ⟨⟨Go.Proofs.Try.f41, Go.Proofs.Try.func41, rfl, rfl⟩, fun w X vs us hA hnd => ?_⟩
  obtain ⟨v1, q1, x1, c1, rfl, rfl, h1, h2, v2, q2, x2, c2, rfl, rfl, h3, h4, rfl, rfl⟩ := hA
  simp only [RShape] at h1 h3
  subst h1; subst h3
  obtain ⟨_, _, he, hr1, _⟩ := h2
  simp only [List.cons.injEq] at he
  obtain ⟨rfl, rfl⟩ := he
  obtain ⟨_, _, he, hr2, _⟩ := h4
  simp only [List.cons.injEq] at he
  obtain ⟨rfl, rfl⟩ := he
  simp only [ArgX, Rd] at hr2
  obtain ⟨rfl, _⟩ := hr2
  obtain ⟨hr, _, hX⟩ := hr1
  have hnd1 : (fp w (oIntss L) v1).Nodup := by
    have hnd' : (fp w (oIntss L) v1 ++ _).Nodup := hnd
    exact (List.nodup_append.1 hnd').1
  -- the handles
  obtain ⟨cs, hcl, hone, hrows, hfp, hown⟩ : ∃ cs : List Value, cs.length = L.length ∧ (∀ u ∈ cs, u.oneCell' = true) ∧ ((v1 = nilV ∧ L = []) ∨ ∃ b cap, v1 = .slice (some ⟨b, 0, none⟩) L.length cap ∧ Hds w b L cs) ∧ fp w (oIntss L) v1 = hb v1 ++ cs.flatMap hb ∧
      OwnRel w (fun _ => False) (fun _ => False) 25 1 (vals cs) v1 := by
    simp only [Rd] at hr
    rcases hr with ⟨hn, rfl⟩ | ⟨b, cap, cur, rfl, hcap, _, hh, hmax, hsz, hes⟩
    · have hx : L = [] := by simpa using hn
      subst hx
      exact ⟨[], rfl, by simp, .inl ⟨rfl, rfl⟩, by simp [fp, hb], .inl ⟨rfl, rfl⟩⟩
    · obtain ⟨cs, hv1, hv2⟩ := RdEs.vals hes
      obtain ⟨hvl, hvr⟩ := rows_EsV hv1
      have hlt := lt_of_heap hh
      simp only [List.length_map] at hcap
      have hfp0 : fp w (oIntss L) (.slice (some ⟨b, 0, none⟩) (L.map fun xs => [oInts xs]).length cap) = b :: cs.flatMap hb := by
        rw [fp_own_some, fpEs_vals _ _ 0 hv1 hv2, rows_fp hvl]
      rw [hfp0] at hnd1
      have hH0 : Hds w b L cs := ⟨hvl, hlt, hvr, (List.nodup_cons.1 hnd1).1⟩
      have hone : ∀ u ∈ cs, u.oneCell' = true := fun u hu => by
        obtain ⟨i, hi, rfl⟩ := List.getElem_of_mem hu
        have := hvr i L[i] cs[i] (List.getElem?_eq_getElem (by omega)) (List.getElem?_eq_getElem hi)
        exact this.one
      refine ⟨cs, hvl, hone, .inr ⟨b, cap, by simp, hH0⟩, by rw [hfp0]; rfl, .inr ⟨b, cap, cur, by simp [hvl], by simp [hvl]; exact hcap, hh, hmax, hsz, ?_⟩⟩
      exact rdEs_vals cs 0 hone hv2
  have hbX : ∀ y ∈ hb v1, X y := fun y hy => hX y (by rw [hfp]; exact List.mem_append_left _ hy)
  have hcsX : ∀ y ∈ cs.flatMap hb, X y := fun y hy => hX y (by rw [hfp]; exact List.mem_append_right _ hy)
  rw [hfp] at hnd1
  have hw0 : (entB w v1).ok64 := fun k c h => by
    have h : (if k = 0 then some v1 else none) = some c := h
    split at h
    · omega
    · cases h
  have hrowV : ∀ i, i < L.length → RowV (entB w v1) (rowAt L i) (hdAt cs i) := fun i hi => by
    rcases hrows with ⟨_, rfl⟩ | ⟨b, cap, rfl, hH⟩
    · simp at hi
    · rcases hH.at i with ⟨e1, e2⟩ | ⟨e1, e2⟩
      · rw [e1, e2]
        exact ⟨rfl, by simp only [Rd]; exact .inl ⟨rfl, none, 0, rfl, fun _ => rfl⟩⟩
      · refine ⟨e1.one, ?_⟩
        simp only [Rd] at e1 ⊢
        rcases e1 with ⟨e1, e3⟩ | ⟨g, cap', cur, e1, e3, _, e4, e5, e6, e7⟩
        · exact .inl ⟨e1, none, 0, e3, fun _ => rfl⟩
        · have hg : g < w.heap.size := lt_of_heap e4
          have hne : g ≠ b := fun e => e2 (by rw [e1, e]; exact List.mem_cons_self ..)
          exact .inr ⟨g, 0, cap', e1, e3, not_false, hg, fun _ => ⟨hg, fun h => hne (by have h : g ∈ hb (.slice (some ⟨b, 0, none⟩) L.length cap) := h; simpa [hb] using h)⟩, ints_RdEs (fun _ => rfl) e7⟩
  have hv1 : v1.oneCell' = true := by
    rcases hrows with ⟨rfl, _⟩ | ⟨b, cap, rfl, _⟩ <;> rfl
  have R := entry_rel (N := 66) (w := w) (v1 := v1) (f := .func (.func 22) #[] #[]) (by omega) hv1 rfl hown (List.nodup_append.1 hnd1).1
  let RR : Ending → World → Prop := fun e w' => ∃ v, e = .returned v ∧ FinC w' v1 (kh cs L L.length) v ∧ Low (entB w v1) w w'
  refine Calls.mono (R := RR) ?_ ?_
  · refine calls_of_wp (f := 41) Go.Proofs.Try.func41 rfl ?_
    have hJ := compact_walk hw0 v1 rfl cs L hcl hl hlen hrowV (Q := bodyPost Go.Proofs.Try.prog Go.Proofs.Try.f41 RR) (fun s a w' β R' h => by
      have hf := finC_of R' rfl h
      have hres : (results Go.Proofs.Try.f41 a.tmps).run Go.Proofs.Try.prog w' = .ok (a.tmps.getD 4 undef) w' := results_tmp rfl _ _ _
      exact ⟨⟨R'.df, _, hres, _, rfl, hf, R'.low⟩, ⟨R'.df, _, hres, _, rfl, hf, R'.low⟩⟩) rfl
    have := hJ _ w _ R
    simp only [cont] at this
    exact this
  · rintro e w' ⟨v, rfl, hfin, hlow⟩
    have hk : ∀ y, y < w.heap.size → y ∉ hb v1 → w'.heap[y]? = w.heap[y]? := fun y h1 h2 => hlow.block y ⟨h1, h2⟩
    have hsub := kp_sub (cs := cs) (L := L) (n := L.length) (by omega)
    rw [List.take_of_length_le (by omega)] at hsub
    have hcomp := kp_comp (cs := cs) (L := L) (n := L.length) (Nat.le_refl _)
    rw [List.take_length] at hcomp
    have hol : (kh cs L L.length).length = (comp L).length := by rw [← hcomp, kh]; simp
    have hmine : ∀ y, X y → (⟨w, X, fixOf ([RV.one (oIntss L), RV.one (fnD 22)].flatMap cellsR) ([v1] ++ [.func (.func 22) #[] #[]])⟩ : Base).mine y := fun y h => .inr h
    have hnd2 : (hb v1 ++ (kh cs L L.length).flatMap hb).Nodup := by
      refine List.Sublist.nodup ?_ hnd1
      exact (List.Sublist.refl _).append (sub_flat hb hsub)
    have hX2 : ∀ y ∈ hb v1 ++ (kh cs L L.length).flatMap hb, X y := fun y hy => by
      rcases List.mem_append.1 hy with hy | hy
      · exact hbX y hy
      · obtain ⟨u, hu, hy⟩ := List.mem_flatMap.1 hy
        exact hcsX y (List.mem_flatMap.2 ⟨u, hsub.subset hu, hy⟩)
    have hEs : ∀ b cap, v1 = .slice (some ⟨b, 0, none⟩) L.length cap → Hds w b L cs → EsV (Rd w' (fun _ => False) fun _ => False) 1 ((comp L).map fun xs => [oInts xs]) (kh cs L L.length) := fun b cap e hH => by
      refine rows_of hol fun i r v h1 h2 => ?_
      rw [← hcomp, List.getElem?_map] at h1
      rw [kh, List.getElem?_map] at h2
      cases hq : (kp cs L L.length)[i]? with
      | none => rw [hq] at h1; simp at h1
      | some q =>
        rw [hq] at h1 h2
        simp only [Option.map_some, Option.some.injEq] at h1 h2
        obtain ⟨k, _, rfl⟩ := kp_mem (List.mem_of_getElem? hq)
        subst h1; subst h2
        exact (hH.keep hlow.size (fun y h1 h2 => hk y h1 (by rw [e]; simpa [hb] using h2)) k).2
    generalize kh cs L L.length = out at hfin hsub hol hnd2 hX2 hEs
    clear hcomp
    have hread : Rd w' (fun _ => False) (fun _ => False) (oIntss (comp L)) v ∧ (fp w' (oIntss (comp L)) v = [] ∨ fp w' (oIntss (comp L)) v = hb v1 ++ out.flatMap hb) := by
      rcases hfin with ⟨rfl, rfl⟩ | ⟨g, N, cap, cur, rfl, rfl, q1, q2, q3, q4, q5⟩
      · have e : comp L = [] := List.length_eq_zero_iff.1 hol.symm
        rw [e]
        refine ⟨by simp only [Rd]; exact .inl ⟨rfl, by trivial⟩, by simp [fp]⟩
      · rcases hrows with ⟨e, _⟩ | ⟨b, cap', e, hH⟩
        · cases e
        · simp only [Value.slice.injEq, Option.some.injEq, Addr.mk.injEq] at e
          obtain ⟨⟨rfl, _⟩, rfl, rfl⟩ := e
          have hE := hEs g cap rfl hH
          have q5' : ∀ j u, out[j]? = some u → w'.cell? ⟨g, 0 + j, none⟩ = some u := fun j u h => by rw [Nat.zero_add]; exact q5 j u h
          refine ⟨?_, .inr ?_⟩
          · simp only [Rd]
            exact .inr ⟨g, cap, cur, by simp [hol], by simp [← hol]; exact q1, not_false, q2, q3, q4, RdEs.ofV hE q5'⟩
          · rw [fp_own_some, fpEs_vals _ _ 0 hE q5', rows_fp hol]; rfl
    have hndf : (fp w' (oIntss (comp L)) v).Nodup := by
      rcases hread.2 with e | e <;> rw [e]
      · exact List.nodup_nil
      · exact hnd2
    have hXf : ∀ y ∈ fp w' (oIntss (comp L)) v, X y := fun y hy => by
      rcases hread.2 with e | e <;> rw [e] at hy
      · cases hy
      · exact hX2 y hy
    refine ⟨v, rfl, ⟨[], [v], rfl, rfl, ?_, ⟨v, [], rfl, hread.1, rfl⟩, ?_, ?_⟩, ⟨hlow.os, hlow.tape, hlow.output, hlow.size, fun y hy => hk y hy.1 fun h => hy.2 (hbX y h), hlow.drawn⟩⟩
    · simp [freshCs, D.fresh, cellsR]
    · show (fpDs _ [oIntss (comp L)] [v]).Nodup
      simpa [fpDs] using hndf
    · intro y hy
      have hy : y ∈ fpDs w' [oIntss (comp L)] [v] := hy
      exact .inr (hXf y (by simpa [fpDs] using hy))
end Go.Sm

namespace Go.Sm
open Go.RowKit

theorem leadV_len2 {p : Int} {n : Nat} {x : List Int} {g : Mx} (hn : n ≤ 3) : (leadV p n x g).length ≤ 1048576 := by rw [leadV_len]; omega

/-- Where the first elements lead a point. -/
def ledL (p d : Int) (G : List Mx) (x : List Int) (i : Nat) : List (List Int) := (G.take i).map (leadV p d.toNat x)
theorem ledL_succ {p d : Int} {G : List Mx} {x : List Int} {i : Nat} {g : Mx} (hg : G[i]? = some g) : ledL p d G x (i + 1) = ledL p d G x i ++ [leadV p d.toNat x g] := by rw [ledL, List.take_add_one, hg]; simp [ledL]
theorem ledL_len {p d : Int} {G : List Mx} {x : List Int} {i : Nat} (h : i ≤ G.length) : (ledL p d G x i).length = i := by simp [ledL]; omega
theorem ledL_all {p d : Int} {G : List Mx} {x : List Int} {i : Nat} (h : G.length ≤ i) : ledL p d G x i = G.map (leadV p d.toNat x) := by rw [ledL, List.take_of_length_le h]
@[simp] theorem ledL_zero (p d : Int) (G : List Mx) (x : List Int) : ledL p d G x 0 = [] := rfl

set_option pp.deepTerms true in
set_option pp.maxSteps 100000 in
set_option maxHeartbeats 1000000 in
theorem orbitOfPoint_ok (p d : Int) (G : List Mx) (x : List Int) (hp : Pr p) (hd : 1 ≤ d ∧ d ≤ 3) (hl : G.length ≤ 1000000) (hx : RowOk p d.toNat x) : CallOK Go.Proofs.Try.prog 21 [vGroup p d G, .one (vInts x)] (.one (oIntss (orbL p d G x))) := by
  have hF := fnOk 31 [.tmp 4]
  refine callOK hF 60 Go.Proofs.Try.func21 rfl rfl rfl (by decide) (by simp) rfl ?_
  intro w0 hw
  have S := @vc_sound w0 _ hF ⟨(.one (oIntss (orbL p d G x))), []⟩ Go.Proofs.Try.f21 rfl (by simp)
  have hrl : ∀ r ∈ G.map (leadV p d.toNat x), r.length ≤ 1048576 := fun r hr => by
    obtain ⟨g, _, rfl⟩ := List.mem_map.1 hr
    exact leadV_len2 (by omega)
  have c2 := sortV_ok (G.map (leadV p d.toNat x)) (by simp; omega) hrl
  have c3 := Compact_ok (srtD (G.map (leadV p d.toNat x))) (by rw [(srtD_perm _).length_eq]; simp; omega) fun r hr => hrl r ((srtD_perm _).subset hr)
  rw [comp_ord (srtD_perm _) (srtD_srt _), show ordL (G.map (leadV p d.toNat x)) = orbL p d G x from rfl] at c3
  simp
  refine J.loop hw (fun i : Nat => ⟨[(1, .c (.d (vInts x))), (2, .c (.ref 64002 0)), (5, .c (.ob 64005)), (10, .c (.d (vMats G))), (11, .c (.d (i64 G.length))), (12, .c (.d (i64 i)))], [(64002, .var [.d (i64 p), .d (i64 d), .d (vMats G)]), (64005, .arr 25 1 ((ledL p d G x i).map fun r => [oInts r]))]⟩)
    (fun i => i ≤ G.length) (fun i => G.length - i) 0 (by simp) (by simp) ?_
  intro i hi
  refine S 8 _ _ ?_
  simp
  refine ⟨fun hlt => ?_, fun hge => ?_⟩
  · obtain ⟨g, hg⟩ : ∃ g, G[i]? = some g := ⟨G[i], List.getElem?_eq_getElem hlt⟩
    have c1 := led_ok p d g x hp hd hx
    have hst := ledL_succ (p := p) (d := d) (x := x) hg
    have htl := ledL_len (p := p) (d := d) (x := x) hi
    generalize ledL p d G x i = R at hst htl ⊢
    generalize leadV p d.toNat x g = r at c1 hst
    refine S 5 _ _ ?_
    simp
    refine ⟨hlt, fun g' hg' => ?_⟩
    obtain rfl : g = g' := Option.some.inj (hg.symm.trans hg')
    clear hg'
    refine S 60 _ _ ?_
    simp
    refine CallW.ok (by decide) (by simp) c1 (by simp) (S 60 _ _ ?_)
    simp
    refine BsW.move hF (e := 25) (es := [[oInts r]]) (ks := [23 * 64]) (by decide) rfl rfl rfl (by simp) (by simp) rfl (by decide) (by decide) (by simp) ?_
    refine S 60 _ _ ?_
    simp
    refine ⟨⟨by omega, by omega⟩, ?_⟩
    exact Nxt.mk (i + 1) hlt (by simp [wrapS (i := i) (n := G.length) hlt (by omega), hst]) (by omega)
  · rw [ledL_all hge]
    generalize G.map (leadV p d.toNat x) = R at c2 c3 ⊢
    generalize srtD R = R2 at c2 c3
    generalize orbL p d G x = R3 at c3 S ⊢
    refine S 60 _ _ ?_
    simp
    refine CallW.mut c2 (by decide) (by simp) (by simp) (by simp) (by simp) (by simp) (by simp) (S 60 _ _ ?_)
    simp
    refine CallW.mut c3 (by decide) (by simp) (by simp) (by simp) (by simp) (by simp) (by simp) (S 60 _ _ ?_)
    simp
end Go.Sm
