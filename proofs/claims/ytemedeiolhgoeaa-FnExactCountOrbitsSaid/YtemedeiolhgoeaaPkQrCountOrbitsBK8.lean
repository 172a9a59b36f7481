/- Towards the rows of this seat: what the functions do, as contracts over plain data. -/
import Derived.Shelf.SlLaysF
import Derived.Ground.SlsfProg
import Derived.Test.YtemedeiolhgoeaaProg
import Derived.Shelf.SlSortCmp.NoneTotal
import Derived.Test.YtemedeiolhgoeaaPkQrCountOrbitsBK3
import Derived.Test.YtemedeiolhgoeaaPkQrCountOrbitsBK2
namespace Go.Proofs
open Go.Shelf
def Try.sortR_ren : Go.Shelf.Ren := ⟨fun | 6 => 39 | 15 => 56 | 14 => 55 | 28 => 74 | 29 => 75 | 20 => 66 | 21 => 67 | 22 => 68 | 23 => 69 | 24 => 70 | 25 => 71 | 26 => 72 | 27 => 73 | 46 => 83 | 47 => 84 | 48 => 85 | 49 => 86 | 50 => 87 | 57 => 90 | n => n, fun | 22 => 46 | 24 => 25 | 25 => 65 | 3 => 3 | 39 => 79 | 0 => 0 | 53 => 96 | 55 => 98 | 4 => 4 | 46 => 89 | 45 => 88 | 50 => 93 | 5 => 5 | 9 => 9 | 66 => 103 | 70 => 107 | 76 => 110 | 77 => 111 | n => n, fun | n => n⟩
theorem Try.sortR : Go.Proofs.SlLaysF.n6 Try.prog Try.sortR_ren := {
  mixed := by kernel_rfl
  f6 := ⟨Try.f39.name, by decide, Try.func39.trans (congrArg some (by kernel_rfl))⟩
  f14 := ⟨Try.f55.name, by decide, Try.func55.trans (congrArg some (by kernel_rfl))⟩
  f15 := Try.func56.trans (congrArg some (by kernel_rfl))
  f20 := ⟨Try.f66.name, by decide, Try.func66.trans (congrArg some (by kernel_rfl))⟩
  f21 := ⟨Try.f67.name, by decide, Try.func67.trans (congrArg some (by kernel_rfl))⟩
  f22 := ⟨Try.f68.name, by decide, Try.func68.trans (congrArg some (by kernel_rfl))⟩
  f23 := ⟨Try.f69.name, by decide, Try.func69.trans (congrArg some (by kernel_rfl))⟩
  f24 := ⟨Try.f70.name, by decide, Try.func70.trans (congrArg some (by kernel_rfl))⟩
  f25 := ⟨Try.f71.name, by decide, Try.func71.trans (congrArg some (by kernel_rfl))⟩
  f26 := ⟨Try.f72.name, by decide, Try.func72.trans (congrArg some (by kernel_rfl))⟩
  f27 := ⟨Try.f73.name, by decide, Try.func73.trans (congrArg some (by kernel_rfl))⟩
  f28 := Try.func74.trans (congrArg some (by kernel_rfl))
  f29 := Try.func75.trans (congrArg some (by kernel_rfl))
  f46 := ⟨Try.f83.name, by decide, Try.func83.trans (congrArg some (by kernel_rfl))⟩
  f47 := Try.func84.trans (congrArg some (by kernel_rfl))
  f48 := Try.func85.trans (congrArg some (by kernel_rfl))
  f49 := ⟨Try.f86.name, by decide, Try.func86.trans (congrArg some (by kernel_rfl))⟩
  f50 := ⟨Try.f87.name, by decide, Try.func87.trans (congrArg some (by kernel_rfl))⟩
  f57 := ⟨Try.f90.name, by decide, Try.func90.trans (congrArg some (by kernel_rfl))⟩
  t0 := Try.underlying0
  a0 := Try.isAgg0
  z0 := Try.sizeOf0
  v0 := Try.zeroValue0
  t3 := Try.underlying3
  a3 := Try.isAgg3
  z3 := Try.sizeOf3
  v3 := Try.zeroValue3
  t4 := Try.underlying4
  a4 := Try.isAgg4
  z4 := Try.sizeOf4
  v4 := Try.zeroValue4
  t5 := Try.underlying5
  a5 := Try.isAgg5
  z5 := Try.sizeOf5
  v5 := Try.zeroValue5
  t9 := Try.underlying9
  a9 := Try.isAgg9
  z9 := Try.sizeOf9
  v9 := Try.zeroValue9
  t22 := Try.underlying46
  a22 := Try.isAgg46
  z22 := Try.sizeOf46
  v22 := Try.zeroValue46
  a24 := Try.isAgg25
  z24 := Try.sizeOf25
  t25 := Try.underlying65
  a25 := Try.isAgg65
  z25 := Try.sizeOf65
  v25 := Try.zeroValue65
  t39 := Try.underlying79
  a39 := Try.isAgg79
  z39 := Try.sizeOf79
  v39 := Try.zeroValue79
  t45 := Try.underlying88
  a45 := Try.isAgg88
  z45 := Try.sizeOf88
  v45 := Try.zeroValue88
  t46 := Try.underlying89
  a46 := Try.isAgg89
  z46 := Try.sizeOf89
  v46 := Try.zeroValue89
  t50 := Try.underlying93
  a50 := Try.isAgg93
  z50 := Try.sizeOf93
  v50 := Try.zeroValue93
  t53 := Try.underlying96
  a53 := Try.isAgg96
  z53 := Try.sizeOf96
  v53 := Try.zeroValue96
  t55 := Try.underlying98
  a55 := Try.isAgg98
  z55 := Try.sizeOf98
  v55 := Try.zeroValue98
  t66 := Try.underlying103
  a66 := Try.isAgg103
  z66 := Try.sizeOf103
  v66 := Try.zeroValue103
  t70 := Try.underlying107
  a70 := Try.isAgg107
  z70 := Try.sizeOf107
  v70 := Try.zeroValue107
  t76 := Try.underlying110
  a76 := Try.isAgg110
  z76 := Try.sizeOf110
  v76 := Try.zeroValue110
  t77 := Try.underlying111
  a77 := Try.isAgg111
  z77 := Try.sizeOf111
  v77 := Try.zeroValue111 }
end Go.Proofs

namespace Go.Sm
open Go.RowKit Go.Shelf Go.Sort

theorem bel_grown {w w' : World} (h : Bel w.heap.size w w') : ∃ q os, w' = grow (w.drewN q) os := by
  refine ⟨w'.drawn - w.drawn, w'.heap.extract w.heap.size w'.heap.size, ?_⟩
  have hh : w'.heap = w.heap ++ w'.heap.extract w.heap.size w'.heap.size := by
    apply Array.ext_getElem?
    intro i
    by_cases hi : i < w.heap.size
    · rw [Array.getElem?_append_left hi, h.block i hi]
    · rw [Array.getElem?_append_right (by omega), Array.getElem?_extract]
      split
      · congr 1; omega
      · rename_i h2
        exact Array.getElem?_eq_none (by omega)
  have hd : w'.drawn = w.drawn + (w'.drawn - w.drawn) := by have := h.drawn; omega
  have e1 := h.os; have e2 := h.tape; have e3 := h.output
  cases w' with
  | mk heap tape drawn os output =>
    simp only at hh hd e1 e2 e3
    subst e1; subst e2; subst e3
    unfold grow World.drewN
    simp only [World.mk.injEq, and_true, true_and]
    exact ⟨hh, hd⟩

/-! ### handles -/
/-- The block of a handle. -/
def hb : Value → List Nat
  | .slice (some a) _ _ => [a.block]
  | _ => []
theorem fpEs_ints (w : World) (b : Nat) : ∀ (r : List Int) (off : Nat), fpEs w 1 (ints r) b off = []
  | [], off => by simp [fpEs]
  | x :: r, off => by
    have := fpEs_ints w b r (off + 1)
    simp only [ints] at this
    simp [fpEs, fpCs, fp, this]
theorem fp_oInts (w : World) (r : List Int) (v : Value) : fp w (oInts r) v = hb v := by
  cases v with
  | slice ad n cap =>
    cases ad with
    | none => simp [fp, hb]
    | some a => rw [fp_own_some, fpEs_ints]; rfl
  | _ => simp [fp, hb]
theorem rows_EsV {Q : D → Value → Prop} : ∀ {L : List (List Int)} {vs : List Value}, EsV Q 1 (L.map fun r => [oInts r]) vs →
    vs.length = L.length ∧ ∀ (i : Nat) r v, L[i]? = some r → vs[i]? = some v → Q (oInts r) v
  | [], vs, h => by
    have h : vs = [] := h
    subst h; exact ⟨rfl, fun i r v hr => by simp at hr⟩
  | r :: L, vs, h => by
    obtain ⟨u, q, rfl, _, ⟨v, u', rfl, hv, hu⟩, h2⟩ := h
    have hu : u' = [] := hu
    subst hu
    obtain ⟨k1, k2⟩ := rows_EsV h2
    refine ⟨by simp [k1], fun i r' v' hr hv' => ?_⟩
    cases i with
    | zero => simp at hr hv'; subst hr; subst hv'; exact hv
    | succ i => exact k2 i r' v' (by simpa using hr) (by simpa using hv')
theorem rows_of {Q : D → Value → Prop} : ∀ {L : List (List Int)} {vs : List Value}, vs.length = L.length → (∀ (i : Nat) r v, L[i]? = some r → vs[i]? = some v → Q (oInts r) v) →
    EsV Q 1 (L.map fun r => [oInts r]) vs
  | [], vs, hl, _ => by cases vs with
    | nil => rfl
    | cons v vs => simp at hl
  | r :: L, vs, hl, h => by
    cases vs with
    | nil => simp at hl
    | cons v vs =>
      exact ⟨[v], vs, rfl, rfl, ⟨v, [], rfl, h 0 r v rfl rfl, rfl⟩, rows_of (by simpa using hl) fun i r' v' h1 h2 => h (i + 1) r' v' (by simpa using h1) (by simpa using h2)⟩
theorem rows_fp {w : World} : ∀ {L : List (List Int)} {vs : List Value}, vs.length = L.length → fpVs w 1 (L.map fun r => [oInts r]) vs = vs.flatMap hb
  | [], vs, hl => by cases vs with
    | nil => rfl
    | cons v vs => simp at hl
  | r :: L, vs, hl => by
    cases vs with
    | nil => simp at hl
    | cons v vs =>
      have := rows_fp (w := w) (L := L) (vs := vs) (by simpa using hl)
      simp only [List.map_cons, fpVs, fpDs, List.headD_cons, List.drop_succ_cons, List.drop_zero, List.append_nil, List.flatMap_cons, this, fp_oInts]
theorem ints_RdEs {w w' : World} {B M B' M' : Nat → Prop} {b : Nat} (hc : ∀ off, w'.cell? ⟨b, off, none⟩ = w.cell? ⟨b, off, none⟩) : ∀ {r : List Int} {off : Nat}, RdEs w B M 1 (ints r) b off → RdEs w' B' M' 1 (ints r) b off
  | [], off, _ => by simp only [ints, List.map_nil, RdEs]
  | x :: r, off, h => by
    simp only [ints, List.map_cons, RdEs, RdCs, Rd] at h ⊢
    obtain ⟨h1, ⟨⟨c, h2, h3⟩, _⟩, h4⟩ := h
    exact ⟨h1, ⟨⟨c, by rw [hc]; exact h2, h3⟩, trivial⟩, ints_RdEs hc h4⟩

theorem perm_of_permIn' {α : Type} [Inhabited α] {d d' : Array α} (h : PermIn 0 d.size d d') : d'.toList.Perm d.toList := by
  obtain ⟨h1, _, h3⟩ := h
  have e1 : d'.extract 0 d.size = d' := by rw [← h1]; simp
  have e2 : d.extract 0 d.size = d := by simp
  rwa [e1, e2] at h3

def rowAt (L : List (List Int)) (i : Nat) : List Int := L.getD i []
def hdAt (vs : List Value) (i : Nat) : Value := vs.getD i nilV
def cmpG (cmp : List Int → List Int → Int) (L : List (List Int)) (i j : Nat) : Int := cmp (rowAt L i) (rowAt L j)
/-- What is known of the handles. -/
def Hds (w : World) (b : Nat) (L : List (List Int)) (vs : List Value) : Prop :=
  vs.length = L.length ∧ b < w.heap.size ∧ (∀ (i : Nat) r v, L[i]? = some r → vs[i]? = some v → Rd w (fun _ => False) (fun _ => False) (oInts r) v) ∧ b ∉ vs.flatMap hb

theorem sw_heap (enc : Nat → Value) (w : World) (b m : Nat) (d : Array Nat) (os : Array Obj) : (Go.Proofs.sortWorld enc w b 0 m d os).heap = (w.heap.modify b (onCells (putCells enc 0 d))) ++ os := rfl
theorem sw_other (enc : Nat → Value) (w : World) (b m : Nat) (d : Array Nat) (os : Array Obj) {y : Nat} (hy : y < w.heap.size) (hne : y ≠ b) : (Go.Proofs.sortWorld enc w b 0 m d os).heap[y]? = w.heap[y]? := by
  rw [sw_heap, Array.getElem?_append_left (by simpa using hy), Array.getElem?_modify, if_neg (fun e => hne e.symm)]

theorem Hds.at {w : World} {b : Nat} {L : List (List Int)} {vs : List Value} (h : Hds w b L vs) (i : Nat) :
    (rowAt L i = [] ∧ hdAt vs i = nilV) ∨ (Rd w (fun _ => False) (fun _ => False) (oInts (rowAt L i)) (hdAt vs i) ∧ b ∉ hb (hdAt vs i)) := by
  by_cases hi : i < L.length
  · have hi2 : i < vs.length := by rw [h.1]; exact hi
    refine .inr ⟨h.2.2.1 i _ _ (by unfold rowAt; simp [hi]) (by unfold hdAt; simp [hi2]), fun hm => h.2.2.2 (List.mem_flatMap.2 ⟨_, ?_, hm⟩)⟩
    unfold hdAt; simp [hi2]
  · exact .inl ⟨by unfold rowAt; simp [Nat.le_of_not_lt hi], by unfold hdAt; simp [show vs.length ≤ i by rw [h.1]; omega]⟩

/-- A handle in a world of the sort's. -/
theorem Hds.keep {w w' : World} {b : Nat} {L : List (List Int)} {vs : List Value} (h : Hds w b L vs) (hsz : w.heap.size ≤ w'.heap.size) (hk : ∀ y, y < w.heap.size → y ≠ b → w'.heap[y]? = w.heap[y]?) (i : Nat) :
    Rd w' (Old w') (fun _ => False) (vInts (rowAt L i)) (hdAt vs i) ∧ Rd w' (fun _ => False) (fun _ => False) (oInts (rowAt L i)) (hdAt vs i) := by
  rcases h.at i with ⟨h1, h2⟩ | ⟨h1, h2⟩
  · rw [h1, h2]
    simp only [Rd]
    exact ⟨.inl ⟨by simp, none, 0, rfl, fun _ => rfl⟩, .inl ⟨by simp, by trivial⟩⟩
  · simp only [Rd] at h1 ⊢
    rcases h1 with ⟨h1, h3⟩ | ⟨g, cap, cur, h1, h3, _, h4, h5, h6, h7⟩
    · exact ⟨.inl ⟨h1, none, 0, h3, fun _ => rfl⟩, .inl ⟨h1, h3⟩⟩
    · have hg : g < w.heap.size := lt_of_heap h4
      have hne : g ≠ b := fun e => h2 (by rw [h1, e]; exact List.mem_cons_self ..)
      have hcell : ∀ off, w'.cell? ⟨g, off, none⟩ = w.cell? ⟨g, off, none⟩ := fun off => by simp only [World.cell?, hk g hg hne]
      exact ⟨.inr ⟨g, 0, cap, h1, h3, not_false, by omega, fun _ => (by show g < _; omega), ints_RdEs hcell h7⟩,
        .inr ⟨g, cap, cur, h1, h3, not_false, by rw [hk g hg hne]; exact h4, h5, h6, ints_RdEs hcell h7⟩⟩

/-- A function that compares rows. -/
def CmpOk (K : Nat) (cmp : List Int → List Int → Int) : Prop := (∀ args w, (callFunc K args).run Go.Proofs.Try.prog w = .ok (.enter K args) w) ∧
  ∀ x y : List Int, x.length ≤ 1048576 → y.length ≤ 1048576 → CallOK Go.Proofs.Try.prog K [.one (vInts x), .one (vInts y)] (.one (i64 (cmp x y)))
theorem cmp_rows {K : Nat} {cmp : List Int → List Int → Int} (hK : CmpOk K cmp) {w : World} {b : Nat} {L : List (List Int)} {vs : List Value} (h : Hds w b L vs) (hl : ∀ r ∈ L, r.length ≤ 1048576) (size : Nat) :
    Go.Proofs.CmpLays1 Go.Proofs.Try.prog K #[] (hdAt vs) (cmpG cmp L) b 0 size w := by
  intro m os dk hs x y
  have hlen : ∀ i, (rowAt L i).length ≤ 1048576 := fun i => by
    by_cases hi : i < L.length
    · have : rowAt L i = L[i] := by unfold rowAt; simp [hi]
      rw [this]; exact hl _ (List.getElem_mem hi)
    · have : rowAt L i = [] := by unfold rowAt; simp [Nat.le_of_not_lt hi]
      rw [this]; simp
  have hk := fun i => h.keep (w' := Go.Proofs.sortWorld (hdAt vs) w b 0 m dk os) (by rw [sw_heap]; simp) (fun y hy hne => sw_other _ _ _ _ _ _ hy hne) i
  have hc := (hK.2 (rowAt L x) (rowAt L y) (hlen x) (hlen y)).2 (Go.Proofs.sortWorld (hdAt vs) w b 0 m dk os) [hdAt vs x, hdAt vs y]
    ⟨_, _, rfl, ⟨_, rfl, rfl, _, [], rfl, (hk x).1, rfl⟩, _, _, rfl, ⟨_, rfl, rfl, _, [], rfl, (hk y).1, rfl⟩, rfl⟩
  refine Calls.mono hc fun e w' hq => ?_
  obtain ⟨v, rfl, ⟨us, h1, h2, h3, _⟩, hb⟩ := hq
  refine ⟨?_, bel_grown hb⟩
  simp only [RShape] at h1
  subst h1
  obtain ⟨u, r, he, hr, _⟩ := h3
  simp only [List.cons.injEq] at he
  rw [he.1]
  simp only [Rd] at hr
  rw [hr.1]
  rfl

/-- The sort of rows with any function that compares them: the one order in question. -/
theorem sortRowsG (K : Nat) (cmp : List Int → List Int → Int) (hK : CmpOk K cmp) (L E : List (List Int)) (hsw : SWO (Go.Proofs.ltOf (cmpG cmp L))) (hl : L.length < 4611686018427387904) (hlen : ∀ r ∈ L, r.length ≤ 1048576) (hp : E.Perm L)
    (hE : ∀ d : List (List Int), d.Perm E → d.Pairwise (fun a b => ¬ cmp b a < 0) → d = E) :
    CallX Go.Proofs.Try.prog 39 [.one (oIntss L), .one (fnD K)] ⟨.tup [], [(0, oIntss E)]⟩ := by
  refine ⟨⟨Go.Proofs.Try.f39, Go.Proofs.Try.func39, rfl, rfl⟩, fun w X vs us hA hnd => ?_⟩
  obtain ⟨v1, q1, x1, c1, rfl, rfl, h1, h2, v2, q2, x2, c2, rfl, rfl, h3, h4, rfl, rfl⟩ := hA
  simp only [RShape] at h1 h3
  subst h1; subst h3
  obtain ⟨_, _, he, hr1, _⟩ := h2
  simp only [List.cons.injEq] at he
  obtain ⟨rfl, rfl⟩ := he
  obtain ⟨_, _, he, hr2, _⟩ := h4
  simp only [List.cons.injEq] at he
  obtain ⟨rfl, rfl⟩ := he
  simp only [ArgX, Rd] at hr2
  obtain ⟨rfl, _⟩ := hr2
  obtain ⟨hr, _, hX⟩ := hr1
  have hElen : E.length = L.length := hp.length_eq
  simp only [Rd] at hr
  rcases hr with ⟨hn, rfl⟩ | ⟨b, cap, cur, rfl, hcap, _, hh, hmax, hsz, hes⟩
  · have hx : L = [] := by simpa using hn
    subst hx
    have hy : E = [] := List.length_eq_zero_iff.1 hElen
    subst hy
    have hc := Go.Proofs.AnyF.slices_SortFunc_none (P := Go.Proofs.Try.prog) (ρ := Go.Proofs.Try.sortR_ren) { Go.Proofs.Try.sortR with } none 0 (.func (.func K) #[] #[]) w
    refine Calls.mono hc fun e w' hq => ?_
    obtain ⟨rfl, rfl⟩ := hq
    refine ⟨_, rfl, ⟨[nilV], [], ⟨[], rfl, rfl, rfl⟩, ?_, rfl, ?_, ?_, ?_⟩, Low.refl _ _⟩
    · rfl
    · exact ⟨nilV, [], rfl, by simp [Rd], rfl⟩
    · simp [fpDs, fp, cellsR]
    · intro b hb; simp [fpDs, fp, cellsR] at hb
  · obtain ⟨vs, hv1, hv2⟩ := RdEs.vals hes
    obtain ⟨hvl, hvr⟩ := rows_EsV hv1
    have hlt := lt_of_heap hh
    simp only [List.length_map] at hcap
    have hfp0 : fp w (oIntss L) (.slice (some ⟨b, 0, none⟩) (L.map fun xs => [oInts xs]).length cap) = b :: vs.flatMap hb := by
      rw [fp_own_some, fpEs_vals _ _ 0 hv1 hv2, rows_fp hvl]
    rw [hfp0] at hX
    have hnd0 : (b :: vs.flatMap hb).Nodup := by
      have hnd' : (fp w (oIntss L) (.slice (some ⟨b, 0, none⟩) (L.map fun xs => [oInts xs]).length cap) ++ _).Nodup := hnd
      rw [hfp0] at hnd'
      exact (List.nodup_append.1 hnd').1
    have hH0 : Hds w b L vs := ⟨hvl, hlt, hvr, (List.nodup_cons.1 hnd0).1⟩
    have hH : Holds (hdAt vs) w b 0 (List.range L.length).toArray := by
      intro j hj
      have hj' : j < L.length := by simpa using hj
      have hjv : j < vs.length := by omega
      have e : (List.range L.length).toArray[j]! = j := by rw [getElem!_pos _ j hj]; simp
      refine ⟨?_, by simp [World.frozen?, hh]⟩
      rw [e, hv2 j _ (List.getElem?_eq_getElem hjv)]
      unfold hdAt; simp [hjv]
    have hone : Go.Proofs.OneCell (hdAt vs) := fun i => by
      rcases hH0.at i with ⟨_, h2⟩ | ⟨h1, _⟩
      · rw [h2]; rfl
      · simp only [Rd] at h1
        rcases h1 with ⟨_, h⟩ | ⟨g, cap, cur, h, _⟩ <;> rw [h] <;> rfl
    have hc := Go.Proofs.Any.slices_SortFunc Go.Proofs.Try.sortR (hdAt vs) hone (cmpG cmp L) hsw K #[] b 0 cap (List.range L.length).toArray w hK.1 (cmp_rows hK hH0 hlen _) hH hlt (by simpa using hl)
    have hll : (L.map fun xs => [oInts xs]).length = (List.range L.length).toArray.size := by simp
    have hnd1 := hnd0
    rw [hll]
    refine Calls.mono hc fun e w' hq => ?_
    obtain ⟨rfl, d', n, os, hperm, hsort, rfl⟩ := hq
    have hpr : d'.toList.Perm (List.range L.length) := perm_of_permIn' hperm
    have hds : d'.size = L.length := by have := hpr.length_eq; simpa using this
    have eL : (List.range L.length).map (rowAt L) = L := by
      refine List.ext_getElem (by simp) fun i h1 h2 => ?_
      simp [rowAt, h2]
    have eV : (List.range L.length).map (hdAt vs) = vs := by
      refine List.ext_getElem (by simp [hvl]) fun i h1 h2 => ?_
      simp [hdAt, h2]
    have hrows : d'.toList.map (rowAt L) = E := by
      refine hE _ ?_ ?_
      · have := hpr.map (rowAt L)
        rw [eL] at this
        exact this.trans hp.symm
      · rw [List.pairwise_map, List.pairwise_iff_getElem]
        intro i j hi hj hij
        have hn : d'.size = (List.range L.length).toArray.size := hperm.1
        have hi' : i < d'.size := by simpa using hi
        have hj' : j < d'.size := by simpa using hj
        have := hsort i j (Nat.zero_le _) hij (by omega)
        unfold Go.Proofs.ltOf cmpG at this
        rw [getElem!_pos d' i hi', getElem!_pos d' j hj'] at this
        simp only [decide_eq_false_iff_not] at this
        simp only [Array.getElem_toList]
        exact this
    have hfpP : ((d'.toList.map (hdAt vs)).flatMap hb).Perm (vs.flatMap hb) := by
      have := (hpr.map (hdAt vs)).flatMap_right hb
      rw [eV] at this
      exact this
    have hnew : (Go.Proofs.sortWorld (hdAt vs) w b 0 n d' os).heap[b]? = some (.cells (putCells (hdAt vs) 0 d' cur) 25 (0, 0)) := by
      rw [sw_heap, Array.getElem?_append_left (by simpa using hlt), Array.getElem?_modify]
      simp [hh, onCells]
    have hcells : ∀ (j : Nat) (u : Value), (d'.toList.map (hdAt vs))[j]? = some u → (Go.Proofs.sortWorld (hdAt vs) w b 0 n d' os).cell? ⟨b, 0 + j, none⟩ = some u := by
      intro j u hj
      rw [List.getElem?_map] at hj
      have hjs : j < d'.size := by
        have : j < d'.toList.length := Decidable.byContradiction fun h => by
          rw [List.getElem?_eq_none (by omega)] at hj; simp at hj
        simpa using this
      have hcu : j < cur.size := by omega
      have hju : hdAt vs d'[j] = u := by simpa [hjs] using hj
      simp only [World.cell?, hnew, putCells]
      simp [hcu, hjs, hju]
    have hEs : EsV (Rd (Go.Proofs.sortWorld (hdAt vs) w b 0 n d' os) (fun _ => False) fun _ => False) 1 (E.map fun xs => [oInts xs]) (d'.toList.map (hdAt vs)) := by
      refine rows_of (by simp [hds, hElen]) fun i r v h1 h2 => ?_
      rw [← hrows, List.getElem?_map] at h1
      rw [List.getElem?_map] at h2
      cases hq : d'.toList[i]? with
      | none => rw [hq] at h1; simp at h1
      | some k =>
        rw [hq] at h1 h2
        simp only [Option.map_some, Option.some.injEq] at h1 h2
        rw [← h1, ← h2]
        exact (hH0.keep (by rw [sw_heap]; simp) (fun y hy hne => sw_other _ _ _ _ _ _ hy hne) k).2
    have hread : Rd (Go.Proofs.sortWorld (hdAt vs) w b 0 n d' os) (fun _ => False) (fun _ => False) (oIntss E) (.slice (some ⟨b, 0, none⟩) (List.range L.length).toArray.size cap) := by
      simp only [Rd]
      exact .inr ⟨b, cap, _, by simp [hElen], by simp [hElen]; exact hcap, not_false, hnew, hmax, by simp [putCells, hsz], RdEs.ofV hEs hcells⟩
    have hfp : fp (Go.Proofs.sortWorld (hdAt vs) w b 0 n d' os) (oIntss E) (.slice (some ⟨b, 0, none⟩) (List.range L.length).toArray.size cap) = b :: (d'.toList.map (hdAt vs)).flatMap hb := by
      rw [fp_own_some, fpEs_vals _ _ 0 hEs hcells, rows_fp (by simp [hds, hElen])]
    have hpm : (b :: (d'.toList.map (hdAt vs)).flatMap hb).Perm (b :: vs.flatMap hb) := hfpP.cons b
    have hXb : X b := hX b (List.mem_cons_self ..)
    refine ⟨_, rfl, ⟨[.slice (some ⟨b, 0, none⟩) (List.range L.length).toArray.size cap], [], ⟨[], rfl, rfl, rfl⟩, rfl, ?_, ⟨_, _, rfl, hread, rfl⟩, ?_, ?_⟩, ?_⟩
    · simp [freshCs, D.fresh, cellsR]
    · show (fpDs _ [oIntss E] [_]).Nodup
      simp only [fpDs, List.headD_cons, hfp, List.append_nil]
      exact hpm.symm.nodup hnd1
    · intro y hy
      have hy : y ∈ fpDs _ [oIntss E] [_] := hy
      simp only [fpDs, List.headD_cons, hfp, List.append_nil] at hy
      exact .inr (hX y (hpm.subset hy))
    · refine ⟨rfl, rfl, rfl, ?_, ?_, Nat.le_add_right _ _⟩
      · rw [sw_heap]; simp
      · intro y hy
        exact sw_other _ _ _ _ _ _ hy.1 fun e => hy.2 (by rw [e]; exact hXb)

end Go.Sm

namespace Go.Sm
open Go.RowKit

/-- What is asked of the rows of a list. -/
def Rws (p : Int) (n : Nat) (L : List (List Int)) : Prop := ∀ r ∈ L, RowOk p n r ∧ Led r
theorem Red.rws {p : Int} {n : Nat} {L : List (List Int)} (h : Red p n L) : Rws p n L := fun r hr => ⟨(h.1 r hr).1, led_of (h.1 r hr).2⟩
theorem nrm_take {p : Int} {row : List Int} {i : Nat} (h1 : i < row.length) : (nrm p row).take (i + 1) = (nrm p row).take i ++ [gt row i * invN (gt row (leadN row)) p % p] := by
  rw [List.take_add_one, List.getElem?_eq_getElem (by simpa [nrm] using h1), gt_lt h1]
  simp [nrm]

theorem both_all {p : Int} {n : Nat} (hp : Pr p) {rows : List (List Int)} (h : ∀ r ∈ rows, RowOk p n r) : Both p n (redL p rows) (echL p rows) := both_ok hp rows (both_nil p n) h
theorem redL_len {p : Int} {rows : List (List Int)} : (redL p rows).length ≤ rows.length := by have := red_len (p := p) (rows := rows) (L := []); simpa [redL] using this

end Go.Sm

namespace Go.Sm
open Go.RowKit

theorem echL_take {p : Int} {rows : List (List Int)} {i : Nat} {r : List Int} (h : rows[i]? = some r) : echL p (rows.take (i + 1)) = echS p (echL p (rows.take i)) r := by
  unfold echL; rw [List.take_add_one, h]; simp
theorem insL_cons (f : List Int → List Int) (w : List Int) (k : Nat) (r : List Int) (rs : List (List Int)) : insL f w k (r :: rs) = if k < leadN r then w :: f r :: rs.map f else f r :: insL f w k rs := rfl

/-- The place of a row that may have been given away. -/
def echSt (p : Int) (rows : List (List Int)) (i : Nat) (E : List (List Int)) (w : List Int) (k : Nat) (j : Nat) (next : List (List Int)) : Bool → St
  | false => ⟨[(0, .c (.d (i64 p))), (1, .c (.d (vIntss rows))), (5, .c (.ob 64005)), (6, .c (.d (i64 i))), (7, .c (.ob 64007)), (8, .c (.d (i64 k))), (11, .c (.ob 64011)), (12, .c (.d (bo false))), (13, .c (.d (i64 j)))],
      [(64005, .arr 25 1 (E.map fun xs => [oInts xs])), (64011, .arr 25 1 (next.map fun xs => [oInts xs])), (64007, .arr 2 1 (ints w))]⟩
  | true => ⟨[(0, .c (.d (i64 p))), (1, .c (.d (vIntss rows))), (5, .c (.ob 64005)), (6, .c (.d (i64 i))), (7, .c (.d (.vw false 1 (ints w)))), (8, .c (.d (i64 k))), (11, .c (.ob 64011)), (12, .c (.d (bo true))), (13, .c (.d (i64 j)))],
      [(64005, .arr 25 1 (E.map fun xs => [oInts xs])), (64011, .arr 25 1 (next.map fun xs => [oInts xs]))]⟩

set_option maxHeartbeats 1000000 in
theorem l01Echelon_ok (p : Int) (n : Nat) (rows : List (List Int)) (hp : Pr p) (hn : n ≤ 1048576) (hl : rows.length ≤ 1000000) (hL : ∀ r ∈ rows, RowOk p n r) : CallOK Go.Proofs.Try.prog 64 [.one (i64 p), .one (vIntss rows)] (.one (oIntss (echL p rows))) := by
  have hF := fnOk 102 [.tmp 4]
  refine callOK hF 60 Go.Proofs.Try.func64 rfl rfl rfl (by decide) (by simp) rfl ?_
  intro w0 hw
  have S := @vc_sound w0 _ hF ⟨(.one (oIntss (echL p rows))), []⟩ Go.Proofs.Try.f64 rfl (by simp)
  have hpp := prPos hp
  simp
  refine J.loop hw (fun i : Nat => ⟨[(0, .c (.d (i64 p))), (1, .c (.d (vIntss rows))), (5, .c (.ob 64005)), (6, .c (.d (i64 i)))], [(64005, .arr 25 1 ((echL p (rows.take i)).map fun xs => [oInts xs]))]⟩)
    (fun i => i ≤ rows.length) (fun i => rows.length - i) 0 (by simp) (by simp [echL]) ?_
  intro i hi
  refine S 12 _ _ ?_
  simp
  refine ⟨fun hlt => ?_, fun hge => ?_⟩
  · obtain ⟨r, hr⟩ : ∃ r, rows[i]? = some r := ⟨rows[i], List.getElem?_eq_getElem hlt⟩
    have hrow := hL r (List.mem_of_getElem? hr)
    have hb := both_all (n := n) hp (rows := rows.take i) fun q hq => hL q (List.take_subset _ _ hq)
    have hln := redL_len (p := p) (rows := rows.take i)
    have hst := echL_take (p := p) hr
    generalize echL p (rows.take i) = E at hb hst ⊢
    have hEl : E.length ≤ 1000000 := by rw [hb.2.1.length_eq]; simp at hln; omega
    have hE : Rws p n E := fun q hq => hb.1.rws q (hb.2.1.subset hq)
    have c1 := l01Rest_ok p n E r hp hn (by omega) hE hrow
    have r1 := less_row (n := n) (p := p) (L := E) (row := r) (by omega) (fun q hq => (hE q hq).1) hrow
    have c2 := l01Lead_ok (lessL p E r) (by rw [r1.1]; exact hn)
    have ht : echS p E r = if Led (lessL p E r) then insL (fun q => subR p q (nrm p (lessL p E r)) (gt q (leadN (lessL p E r)))) (nrm p (lessL p E r)) (leadN (lessL p E r)) E else E := rfl
    generalize lessL p E r = row1 at c1 c2 r1 ht
    refine S 60 _ _ ?_
    simp
    refine ⟨hlt, fun r' hr' => ?_⟩
    obtain rfl : r = r' := Option.some.inj (hr.symm.trans hr')
    refine CallW.ok (by decide) (by simp) c1 (by simp) (S 60 _ _ ?_)
    simp
    by_cases hld : Led row1
    · rw [led_leadZ hld] at c2
      rw [if_pos hld] at ht
      have hld' : leadN row1 < row1.length := hld
      have e1 := r1.1
      have g1 := gt_get hld'
      have g2 := gt_range (by omega) r1 (leadN row1)
      have g3 := gt_lead hld
      have c3 := l01Inverse_ok (gt row1 (leadN row1)) p hp g2.1 g2.2
      obtain ⟨_, v1, v2⟩ := inv_ok hp (n := gt row1 (leadN row1)) (by omega) g2.2
      obtain ⟨n1, n2, n3, _⟩ := nrm_ok hp r1 hld
      have hnt : ∀ i, i < row1.length → (nrm p row1).take (i + 1) = (nrm p row1).take i ++ [gt row1 i * invN (gt row1 (leadN row1)) p % p] := fun i hi => nrm_take hi
      generalize hwn : nrm p row1 = wn at ht n1 n2 n3 hnt
      generalize hvi : invN (gt row1 (leadN row1)) p = vi at c3 v1 v2 hnt
      have hp0 : p ≠ 0 := by omega
      rw [ht] at hst
      refine CallW.ok (by decide) (by simp) c2 (by simp) (S 60 _ _ ?_)
      simp
      refine ⟨fun h => absurd h (by omega), ⟨hld', fun a ha => ?_⟩⟩
      obtain rfl := Option.some.inj (g1.symm.trans ha)
      refine CallW.ok (by decide) (by simp) c3 (by simp) (S 60 _ _ ?_)
      simp
      refine J.loop hw (fun j : Nat => ⟨[(0, .c (.d (i64 p))), (1, .c (.d (vIntss rows))), (5, .c (.ob 64005)), (6, .c (.d (i64 i))), (7, .c (.ob 64007)), (8, .c (.d (i64 (leadN row1)))), (9, .c (.d (i64 vi))), (10, .c (.d (i64 j)))],
          [(64005, .arr 25 1 (E.map fun xs => [oInts xs])), (64007, .arr 2 1 (ints (wn.take j ++ row1.drop j)))]⟩)
        (fun j => j ≤ row1.length) (fun j => row1.length - j) 0 (by simp) (by simp) ?_
      intro j hj
      have hwl : (wn.take j).length = j := by rw [List.length_take, n1.1]; omega
      have hnt2 := hnt j
      generalize hcr : wn.take j ++ row1.drop j = cur
      have hcl : cur.length = row1.length := by rw [← hcr]; simp [n1.1]; omega
      refine S 12 _ _ ?_
      simp
      refine ⟨fun hlt2 => ?_, fun hge2 => ?_⟩
      · have q1 := gt_get (r := row1) (i := j) (by omega)
        have q2 := gt_range (by omega) r1 j
        have q3 := hnt2 (by omega)
        generalize gt row1 j = x at q1 q2 q3
        have m1 : 0 ≤ x * vi := Int.mul_nonneg q2.1 (by omega)
        have m2 : x * vi ≤ 13 * 13 := Int.mul_le_mul (by omega) (by omega) (by omega) (by omega)
        have w1 : IntKind.i64.wrap (x * vi) = x * vi := wrap64 (by omega) (by omega)
        have hmod : (x * vi).tmod p = x * vi % p := Int.tmod_eq_emod_of_nonneg m1
        have gc : cur[j]? = some x := by
          rw [← hcr, List.getElem?_append_right (by omega), hwl, Nat.sub_self, List.getElem?_drop]; simpa using q1
        have hs : cur.set j (x * vi % p) = wn.take (j + 1) ++ row1.drop (j + 1) := by
          rw [← hcr, List.set_append, if_neg (by omega), hwl, Nat.sub_self, q3, drop_cons q1]
          simp
        have hs2 : List.take (j + 1) (List.map (fun i => [D.v (Value.int IntKind.i64 i)]) wn) ++ List.drop (j + 1) (List.map (fun i => [D.v (Value.int IntKind.i64 i)]) row1) = (ints cur).set j [i64 (x * vi % p)] := by
          rw [← List.map_take, ← List.map_drop, ← List.map_append, ← hs, List.map_set]
        refine S 60 _ _ ?_
        simp
        refine ⟨by omega, fun x' hx' => ?_⟩
        obtain rfl : x = x' := Option.some.inj (gc.symm.trans hx')
        simp [w1, hmod, hp0]
        exact ⟨by omega, Nxt.mk (j + 1) (by omega) (by simp [wrapS (i := j) (n := row1.length) (by omega) (by omega), hs2]) (by omega)⟩
      · have e : cur = wn := by
          have hin : j = row1.length := by omega
          rw [← hcr, hin, List.drop_of_length_le (Nat.le_refl _), List.append_nil, List.take_of_length_le (by rw [n1.1]; omega)]
        subst e
        refine S 60 _ _ ?_
        simp
        clear hj hwl hnt2 hcr hcl hge2
        generalize hk : leadN row1 = k at hst n2 n3 S ⊢
        refine J.loop hw (fun q : Nat × List (List Int) × Bool => echSt p rows i E cur k q.1 q.2.1 q.2.2)
          (fun q => q.1 ≤ E.length ∧ q.2.1.length ≤ q.1 + (if q.2.2 then 1 else 0) ∧ q.2.1 ++ (if q.2.2 then (E.drop q.1).map (fun r => subR p r cur (gt r k)) else insL (fun r => subR p r cur (gt r k)) cur k (E.drop q.1)) = insL (fun r => subR p r cur (gt r k)) cur k E) (fun q => E.length - q.1) (0, [], false) (by simp) (by simp [echSt]) ?_
        rintro ⟨j, next, placed⟩ ⟨hj, hnl, hnx⟩
        simp only at hj hnl hnx
        simp only [echSt]
        cases placed with
        | false =>
          have hnl : next.length ≤ j := by simpa using hnl
          refine S 12 _ _ ?_
          simp
          refine ⟨fun hlt3 => ?_, fun hge3 => ?_⟩
          · obtain ⟨q, hq⟩ : ∃ q, E[j]? = some q := ⟨E[j], List.getElem?_eq_getElem hlt3⟩
            obtain ⟨b1, b2⟩ := hE q (List.mem_of_getElem? hq)
            have hql := b1.1
            have d1 := l01Lead_ok q (by rw [b1.1]; exact hn)
            rw [led_leadZ b2] at d1
            have hkq := gt_get (r := q) (i := k) (by rw [b1.1, ← e1]; omega)
            have hkr := gt_range (by omega) b1 k
            have d2 := l01Less_ok p n q cur (gt q k) hp hn b1 n1 hkr
            have hdr := drop_cons hq
            rw [hdr, if_neg (by simp), insL_cons] at hnx
            generalize hqs : subR p q cur (gt q k) = q' at d2 hnx
            generalize gt q k = c at hkq hkr d2
            refine S 60 _ _ ?_
            simp
            refine ⟨hlt3, fun q'' hq'' => ?_⟩
            obtain rfl : q = q'' := Option.some.inj (hq.symm.trans hq'')
            refine CallW.ok (by decide) (by simp) d1 (by simp) (S 5 _ _ ?_)
            simp
            refine ⟨fun hkl => ?_, fun hkl => ?_⟩
            · rw [if_pos hkl] at hnx
              refine S 60 _ _ ?_
              simp
              refine BsW.moveV hF (e := 25) (es := [[oInts cur]]) (ks := [64007]) (rt := 7) (K := 64007) (e1 := 2) (z1 := 1) (ys := ints cur) (by decide) rfl rfl rfl (by simp) (by simp) rfl (by decide) (by decide) (by simp) (by simp) (by simp) (by simp) (by decide) ?_
              refine S 4 _ _ ?_
              simp
              refine ⟨⟨by omega, by omega⟩, S 60 _ _ ?_⟩
              simp
              refine J.dr3 hF mixed 16 [[], [], [], [], [2, 3], [2, 3, 4], [], [], [], [7, 8], [7, 8, 9], [], [7, 8, 9, 10, 11], [7, 8, 9, 10, 11, 12], [1, 2, 3, 4, 5, 6, 7, 8, 9, 10, 11, 12, 13], [1, 2, 3, 4, 5, 6, 7, 8, 9, 10, 11, 12, 13, 14], [0, 1, 2, 3, 4, 5, 6, 7, 8, 9, 10, 11, 12, 13, 14, 15], [0, 1, 2, 3, 4, 5, 6, 7, 8, 9, 10, 11, 12, 13, 14, 15, 16]] [[77, 78, 79, 80, 81, 82, 83, 84, 85, 86, 87, 88, 89, 90, 91, 92], [77, 78, 79, 80, 81, 82, 83, 84, 85, 86, 87, 88, 89, 90, 91, 92], [77, 78, 79, 80, 81, 82, 83, 84, 85, 86, 87, 88, 89, 90, 91, 92], [77, 78, 79, 80, 81, 82, 83, 84, 85, 86, 87, 88, 89, 90, 91, 92], [77, 78, 81, 82, 83, 84, 85, 86, 87, 88, 89, 90, 91, 92], [77, 78, 82, 83, 84, 85, 86, 87, 88, 89, 90, 91, 92], [77, 78, 79, 80, 81, 82, 83, 84, 85, 86, 87, 88, 89, 90, 91, 92], [77, 78, 79, 80, 81, 82, 83, 84, 85, 86, 87, 88, 89, 90, 91, 92], [77, 78, 79, 80, 81, 82, 83, 84, 85, 86, 87, 88, 89, 90, 91, 92], [77, 78, 79, 80, 81, 82, 83, 86, 87, 88, 89, 90, 91, 92], [77, 78, 79, 80, 81, 82, 83, 87, 88, 89, 90, 91, 92], [77, 78, 79, 80, 81, 82, 83, 84, 85, 86, 87, 88, 89, 90, 91, 92], [77, 78, 79, 80, 81, 82, 83, 89, 90, 91, 92], [77, 78, 79, 80, 81, 82, 83, 90, 91, 92], [77, 91, 92], [77, 92]] [[], [], [], [], [], [], [], [], [], [], [], [], [], [], [], [5824]] [[5824], [], [], [], [], [], [], [], [], [], [], [], [], [], [], []] [] [] (by decide) ?_
              rw [← List.take_append_drop 6 (List.take _ _)]
              generalize htl : List.drop 6 (List.take _ _) = tl
              simp
              refine ⟨hlt3, fun q'' hq'' => ?_⟩
              obtain rfl : q = q'' := Option.some.inj (hq.symm.trans hq'')
              subst htl
              rw [← List.take_append_drop 5 (List.drop 6 _)]
              generalize htl : List.drop 5 (List.drop 6 _) = tl
              simp
              refine ⟨hlt3, fun q'' hq'' => ?_⟩
              obtain rfl : q = q'' := Option.some.inj (hq.symm.trans hq'')
              subst htl
              rw [← List.take_append_drop 3 (List.drop 5 (List.drop 6 _))]
              generalize htl : List.drop 3 (List.drop 5 (List.drop 6 _)) = tl
              simp
              refine ⟨by omega, fun c' hc' => ?_⟩
              obtain rfl : c = c' := Option.some.inj (hkq.symm.trans hc')
              subst htl
              simp
              refine DrC3.ok hF (by rfl) (by simp) d2 (by simp) (by simp) ?_
              simp
              refine DrB3.move hF (by rfl) (e := 25) (es := [[oInts q']]) (ks := [5824]) (by decide) rfl rfl rfl (by simp) (by simp) rfl (by decide) (by decide) (by simp) (by simp) ?_
              simp
              refine S 60 _ _ ?_
              simp
              refine ⟨⟨by omega, by omega⟩, ?_⟩
              exact Nxt.mk (j + 1, (next ++ [cur]) ++ [q'], true) (⟨hlt3, by simp; omega, by rw [← hnx]; simp⟩) (by simp [wrapS (i := j) (n := E.length) hlt3 (by omega)]) (by show E.length - (j + 1) < E.length - j; omega)
            · rw [if_neg (by omega)] at hnx
              refine S 4 _ _ ?_
              simp
              refine J.dr3 hF mixed 16 [[], [], [], [], [2, 3], [2, 3, 4], [], [], [], [7, 8], [7, 8, 9], [], [7, 8, 9, 10, 11], [7, 8, 9, 10, 11, 12], [1, 2, 3, 4, 5, 6, 7, 8, 9, 10, 11, 12, 13], [1, 2, 3, 4, 5, 6, 7, 8, 9, 10, 11, 12, 13, 14], [0, 1, 2, 3, 4, 5, 6, 7, 8, 9, 10, 11, 12, 13, 14, 15], [0, 1, 2, 3, 4, 5, 6, 7, 8, 9, 10, 11, 12, 13, 14, 15, 16]] [[77, 78, 79, 80, 81, 82, 83, 84, 85, 86, 87, 88, 89, 90, 91, 92], [77, 78, 79, 80, 81, 82, 83, 84, 85, 86, 87, 88, 89, 90, 91, 92], [77, 78, 79, 80, 81, 82, 83, 84, 85, 86, 87, 88, 89, 90, 91, 92], [77, 78, 79, 80, 81, 82, 83, 84, 85, 86, 87, 88, 89, 90, 91, 92], [77, 78, 81, 82, 83, 84, 85, 86, 87, 88, 89, 90, 91, 92], [77, 78, 82, 83, 84, 85, 86, 87, 88, 89, 90, 91, 92], [77, 78, 79, 80, 81, 82, 83, 84, 85, 86, 87, 88, 89, 90, 91, 92], [77, 78, 79, 80, 81, 82, 83, 84, 85, 86, 87, 88, 89, 90, 91, 92], [77, 78, 79, 80, 81, 82, 83, 84, 85, 86, 87, 88, 89, 90, 91, 92], [77, 78, 79, 80, 81, 82, 83, 86, 87, 88, 89, 90, 91, 92], [77, 78, 79, 80, 81, 82, 83, 87, 88, 89, 90, 91, 92], [77, 78, 79, 80, 81, 82, 83, 84, 85, 86, 87, 88, 89, 90, 91, 92], [77, 78, 79, 80, 81, 82, 83, 89, 90, 91, 92], [77, 78, 79, 80, 81, 82, 83, 90, 91, 92], [77, 91, 92], [77, 92]] [[], [], [], [], [], [], [], [], [], [], [], [], [], [], [], [5824]] [[5824], [], [], [], [], [], [], [], [], [], [], [], [], [], [], []] [] [] (by decide) ?_
              rw [← List.take_append_drop 6 (List.take _ _)]
              generalize htl : List.drop 6 (List.take _ _) = tl
              simp
              refine ⟨hlt3, fun q'' hq'' => ?_⟩
              obtain rfl : q = q'' := Option.some.inj (hq.symm.trans hq'')
              subst htl
              rw [← List.take_append_drop 5 (List.drop 6 _)]
              generalize htl : List.drop 5 (List.drop 6 _) = tl
              simp
              refine ⟨hlt3, fun q'' hq'' => ?_⟩
              obtain rfl : q = q'' := Option.some.inj (hq.symm.trans hq'')
              subst htl
              rw [← List.take_append_drop 3 (List.drop 5 (List.drop 6 _))]
              generalize htl : List.drop 3 (List.drop 5 (List.drop 6 _)) = tl
              simp
              refine ⟨by omega, fun c' hc' => ?_⟩
              obtain rfl : c = c' := Option.some.inj (hkq.symm.trans hc')
              subst htl
              simp
              refine DrC3.ok hF (by rfl) (by simp) d2 (by simp) (by simp) ?_
              simp
              refine DrB3.move hF (by rfl) (e := 25) (es := [[oInts q']]) (ks := [5824]) (by decide) rfl rfl rfl (by simp) (by simp) rfl (by decide) (by decide) (by simp) (by simp) ?_
              simp
              refine S 60 _ _ ?_
              simp
              refine ⟨⟨by omega, by omega⟩, ?_⟩
              exact Nxt.mk (j + 1, next ++ [q'], false) (⟨hlt3, by simp; omega, by rw [← hnx]; simp⟩) (by simp [wrapS (i := j) (n := E.length) hlt3 (by omega)]) (by show E.length - (j + 1) < E.length - j; omega)
          · have hnil : E.drop j = [] := List.drop_eq_nil_of_le hge3
            rw [hnil, if_neg (by simp)] at hnx
            have hnx : next ++ [cur] = _ := hnx
            rw [← hnx] at hst
            refine S 60 _ _ ?_
            simp
            refine BsW.move hF (e := 25) (es := [[oInts cur]]) (ks := [64007]) (by decide) rfl rfl rfl (by simp) (by simp) rfl (by decide) (by decide) (by simp) ?_
            refine S 60 _ _ ?_
            simp
            refine ⟨⟨by omega, by omega⟩, ?_⟩
            exact Nxt.mk (i + 1) hlt (by simp [wrapS (i := i) (n := rows.length) hlt (by omega), hst]) (by omega)
        | true =>
          have hnl : next.length ≤ j + 1 := by simpa using hnl
          refine S 12 _ _ ?_
          simp
          refine ⟨fun hlt3 => ?_, fun hge3 => ?_⟩
          · obtain ⟨q, hq⟩ : ∃ q, E[j]? = some q := ⟨E[j], List.getElem?_eq_getElem hlt3⟩
            obtain ⟨b1, b2⟩ := hE q (List.mem_of_getElem? hq)
            have hql := b1.1
            have hkq := gt_get (r := q) (i := k) (by rw [b1.1, ← e1]; omega)
            have hkr := gt_range (by omega) b1 k
            have d2 := l01Less_ok p n q cur (gt q k) hp hn b1 n1 hkr
            have hdr := drop_cons hq
            rw [hdr, if_pos rfl, List.map_cons] at hnx
            generalize hqs : subR p q cur (gt q k) = q' at d2 hnx
            generalize gt q k = c at hkq hkr d2
            refine S 60 _ _ ?_
            simp
            refine J.dr3 hF mixed 16 [[], [], [], [], [2, 3], [2, 3, 4], [], [], [], [7, 8], [7, 8, 9], [], [7, 8, 9, 10, 11], [7, 8, 9, 10, 11, 12], [1, 2, 3, 4, 5, 6, 7, 8, 9, 10, 11, 12, 13], [1, 2, 3, 4, 5, 6, 7, 8, 9, 10, 11, 12, 13, 14], [0, 1, 2, 3, 4, 5, 6, 7, 8, 9, 10, 11, 12, 13, 14, 15], [0, 1, 2, 3, 4, 5, 6, 7, 8, 9, 10, 11, 12, 13, 14, 15, 16]] [[77, 78, 79, 80, 81, 82, 83, 84, 85, 86, 87, 88, 89, 90, 91, 92], [77, 78, 79, 80, 81, 82, 83, 84, 85, 86, 87, 88, 89, 90, 91, 92], [77, 78, 79, 80, 81, 82, 83, 84, 85, 86, 87, 88, 89, 90, 91, 92], [77, 78, 79, 80, 81, 82, 83, 84, 85, 86, 87, 88, 89, 90, 91, 92], [77, 78, 81, 82, 83, 84, 85, 86, 87, 88, 89, 90, 91, 92], [77, 78, 82, 83, 84, 85, 86, 87, 88, 89, 90, 91, 92], [77, 78, 79, 80, 81, 82, 83, 84, 85, 86, 87, 88, 89, 90, 91, 92], [77, 78, 79, 80, 81, 82, 83, 84, 85, 86, 87, 88, 89, 90, 91, 92], [77, 78, 79, 80, 81, 82, 83, 84, 85, 86, 87, 88, 89, 90, 91, 92], [77, 78, 79, 80, 81, 82, 83, 86, 87, 88, 89, 90, 91, 92], [77, 78, 79, 80, 81, 82, 83, 87, 88, 89, 90, 91, 92], [77, 78, 79, 80, 81, 82, 83, 84, 85, 86, 87, 88, 89, 90, 91, 92], [77, 78, 79, 80, 81, 82, 83, 89, 90, 91, 92], [77, 78, 79, 80, 81, 82, 83, 90, 91, 92], [77, 91, 92], [77, 92]] [[], [], [], [], [], [], [], [], [], [], [], [], [], [], [], [5824]] [[5824], [], [], [], [], [], [], [], [], [], [], [], [], [], [], []] [] [] (by decide) ?_
            rw [← List.take_append_drop 6 (List.take _ _)]
            generalize htl : List.drop 6 (List.take _ _) = tl
            simp
            refine ⟨hlt3, fun q'' hq'' => ?_⟩
            obtain rfl : q = q'' := Option.some.inj (hq.symm.trans hq'')
            subst htl
            rw [← List.take_append_drop 5 (List.drop 6 _)]
            generalize htl : List.drop 5 (List.drop 6 _) = tl
            simp
            refine ⟨hlt3, fun q'' hq'' => ?_⟩
            obtain rfl : q = q'' := Option.some.inj (hq.symm.trans hq'')
            subst htl
            rw [← List.take_append_drop 3 (List.drop 5 (List.drop 6 _))]
            generalize htl : List.drop 3 (List.drop 5 (List.drop 6 _)) = tl
            simp
            refine ⟨by omega, fun c' hc' => ?_⟩
            obtain rfl : c = c' := Option.some.inj (hkq.symm.trans hc')
            subst htl
            simp
            refine DrC3.ok hF (by rfl) (by simp) d2 (by simp) (by simp) ?_
            simp
            refine DrB3.move hF (by rfl) (e := 25) (es := [[oInts q']]) (ks := [5824]) (by decide) rfl rfl rfl (by simp) (by simp) rfl (by decide) (by decide) (by simp) (by simp) ?_
            simp
            refine S 60 _ _ ?_
            simp
            refine ⟨⟨by omega, by omega⟩, ?_⟩
            exact Nxt.mk (j + 1, next ++ [q'], true) (⟨hlt3, by simp; omega, by rw [← hnx]; simp⟩) (by simp [wrapS (i := j) (n := E.length) hlt3 (by omega)]) (by show E.length - (j + 1) < E.length - j; omega)
          · have hnil : E.drop j = [] := List.drop_eq_nil_of_le hge3
            rw [hnil, if_pos rfl, List.map_nil, List.append_nil] at hnx
            subst hnx
            refine S 60 _ _ ?_
            simp
            exact Nxt.mk (i + 1) hlt (by simp [wrapS (i := i) (n := rows.length) hlt (by omega), hst]) (by omega)
    · have h0 : leadZ row1 = -1 := if_neg hld
      rw [h0] at c2
      rw [if_neg hld] at ht
      rw [ht] at hst
      refine CallW.ok (by decide) (by simp) c2 (by simp) (S 60 _ _ ?_)
      simp
      exact Nxt.mk (i + 1) hlt (by simp [wrapS (i := i) (n := rows.length) hlt (by omega), hst]) (by omega)
  · have e : rows.take i = rows := List.take_of_length_le hge
    rw [e]
    refine S 60 _ _ ?_
    simp

end Go.Sm

namespace Go.Sm
open Go.RowKit

theorem sameInts_ok (xs ys : List Int) (hl : xs.length ≤ 2000000) : CallOK Go.Proofs.Try.prog 22 [.one (vInts xs), .one (vInts ys)] (.one (bo (decide (xs = ys)))) := by
  have hF := fnOk 26 [.tmp 4]
  refine callOK hF 60 Go.Proofs.Try.func22 rfl rfl rfl (by decide) (by simp) rfl ?_
  intro w0 hw
  have S := @vc_sound w0 _ hF ⟨(.one (bo (decide (xs = ys)))), []⟩ Go.Proofs.Try.f22 rfl (by simp)
  simp
  refine ⟨fun hne e => hne (by rw [e]), fun he => ?_⟩
  refine J.loop hw (fun i : Nat => ⟨[(0, .c (.d (vInts xs))), (1, .c (.d (vInts ys))), (12, .c (.d (i64 xs.length))), (13, .c (.d (i64 i)))], []⟩)
    (fun i => i ≤ xs.length ∧ xs.take i = ys.take i) (fun i => xs.length - i) 0 (by simp) (by simp) ?_
  rintro i ⟨hi, ht⟩
  refine S 8 _ _ ?_
  simp
  refine ⟨fun hlt => ?_, fun hge => ?_⟩
  · refine S 60 _ _ ?_
    simp
    obtain ⟨a, ha⟩ : ∃ a, xs[i]? = some a := ⟨xs[i], List.getElem?_eq_getElem hlt⟩
    obtain ⟨b, hb⟩ : ∃ b, ys[i]? = some b := ⟨ys[i]'(by omega), List.getElem?_eq_getElem (by omega)⟩
    refine J.dr hF mixed 8 [[], [], [0, 1], [0, 1, 2], [], [], [4, 5], [4, 5, 6], [0, 1, 2, 3, 4, 5, 6, 7]] [[16, 17, 18, 19, 20, 21, 22, 23], [16, 17, 18, 19, 20, 21, 22, 23], [18, 19, 20, 21, 22, 23], [19, 20, 21, 22, 23], [16, 17, 18, 19, 20, 21, 22, 23], [16, 17, 18, 19, 20, 21, 22, 23], [16, 17, 18, 19, 22, 23], [16, 17, 18, 19, 23]] (by decide) ?_
    rw [← List.take_append_drop 4 (List.take _ _)]
    generalize htl : List.drop 4 (List.take _ _) = tl
    simp
    refine ⟨hlt, fun a' ha' => ?_⟩
    obtain rfl : a = a' := Option.some.inj (ha.symm.trans ha')
    subst htl
    simp
    refine ⟨by omega, fun b' hb' => ?_⟩
    obtain rfl : b = b' := Option.some.inj (hb.symm.trans hb')
    refine S 60 _ _ ?_
    simp
    refine ⟨fun hne e => ?_, fun h1 => ?_⟩
    · subst e
      rw [ha] at hb
      exact hne (Option.some.inj hb)
    · subst h1
      refine Nxt.mk (i + 1) ⟨hlt, ?_⟩ (by simp [wrapS (i := i) (n := xs.length) hlt (by omega)]) (by omega)
      rw [List.take_add_one, List.take_add_one, ht, ha, hb]
  · refine S 60 _ _ ?_
    simp
    have h1 : xs = xs.take i := by rw [List.take_of_length_le (by omega)]
    have h2 : ys = ys.take i := by rw [List.take_of_length_le (by omega)]
    rw [h1, h2, ht]

/-- What is asked of one row. -/
def RowP (p l : Int) (r : List Int) : Prop := (r.length : Int) = l ∧ ∀ x ∈ r, 0 ≤ x ∧ x < p
instance (p l : Int) (r : List Int) : Decidable (RowP p l r) := by unfold RowP; infer_instance
def GoodRows (p l : Int) (rows : List (List Int)) : Prop := (Pr p ∧ 1 ≤ l ∧ l ≤ 10) ∧ ∀ r ∈ rows, RowP p l r
instance (p l : Int) (rows : List (List Int)) : Decidable (GoodRows p l rows) := by unfold GoodRows; infer_instance

/-- A code, as a result and as an argument. -/
theorem GoodRows.rows {p l : Int} {rows : List (List Int)} (h : GoodRows p l rows) : ∀ r ∈ rows, RowOk p l.toNat r := fun r hr => ⟨by have := (h.2 r hr).1; omega, (h.2 r hr).2⟩

end Go.Sm

namespace Go.Sm
open Go.RowKit

/-- The order of lists of one length. -/
def cmpI : List Int → List Int → Int
  | x :: xs, y :: ys => if x < y then -1 else if y < x then 1 else cmpI xs ys
  | _, _ => 0
theorem cmpI_drop {xs ys : List Int} {i : Nat} {x y : Int} (hx : xs[i]? = some x) (hy : ys[i]? = some y) : cmpI (xs.drop i) (ys.drop i) = if x < y then -1 else if y < x then 1 else cmpI (xs.drop (i + 1)) (ys.drop (i + 1)) := by
  rw [drop_cons hx, drop_cons hy]; rfl

theorem l02Compare_ok (xs ys : List Int) (hl : xs.length ≤ 1048576) (hle : xs.length ≤ ys.length) : CallOK Go.Proofs.Try.prog 52 [.one (vInts xs), .one (vInts ys)] (.one (i64 (cmpI xs ys))) := by
  have hF := fnOk 32 [.tmp 4]
  refine callOK hF 60 Go.Proofs.Try.func52 rfl rfl rfl (by decide) (by simp) rfl ?_
  intro w0 hw
  have S := @vc_sound w0 _ hF ⟨(.one (i64 (cmpI xs ys))), []⟩ Go.Proofs.Try.f52 rfl (by simp)
  generalize hc : cmpI xs ys = c at S ⊢
  simp
  refine J.loop hw (fun i : Nat => ⟨[(0, .c (.d (vInts xs))), (1, .c (.d (vInts ys))), (5, .c (.d (i64 i)))], []⟩)
    (fun i => i ≤ xs.length ∧ cmpI (xs.drop i) (ys.drop i) = c) (fun i => xs.length - i) 0 ⟨by omega, by simpa using hc⟩ (by simp) ?_
  rintro i ⟨hi, hd⟩
  refine S 12 _ _ ?_
  simp
  refine ⟨fun hlt => ?_, fun hge => ?_⟩
  · obtain ⟨x, hx⟩ : ∃ x, xs[i]? = some x := ⟨xs[i], List.getElem?_eq_getElem hlt⟩
    obtain ⟨y, hy⟩ : ∃ y, ys[i]? = some y := ⟨ys[i]'(by omega), List.getElem?_eq_getElem (by omega)⟩
    rw [cmpI_drop hx hy] at hd
    refine S 60 _ _ ?_
    simp
    refine J.dr hF mixed 8 [[], [], [0, 1], [0, 1, 2], [], [], [4, 5], [4, 5, 6], [0, 1, 2, 3, 4, 5, 6, 7], [0, 1, 2, 3, 4, 5, 6, 7, 8]] [[13, 14, 15, 16, 17, 18, 19, 20], [13, 14, 15, 16, 17, 18, 19, 20], [15, 16, 17, 18, 19, 20], [16, 17, 18, 19, 20], [13, 14, 15, 16, 17, 18, 19, 20], [13, 14, 15, 16, 17, 18, 19, 20], [13, 14, 15, 16, 19, 20], [13, 14, 15, 16, 20]] (by decide) ?_
    rw [← List.take_append_drop 4 (List.take _ _)]
    generalize htl : List.drop 4 (List.take _ _) = tl
    simp
    refine ⟨hlt, fun x' hx' => ?_⟩
    obtain rfl : x = x' := Option.some.inj (hx.symm.trans hx')
    subst htl
    simp
    refine ⟨by omega, fun y' hy' => ?_⟩
    obtain rfl : y = y' := Option.some.inj (hy.symm.trans hy')
    refine S 60 _ _ ?_
    simp
    refine ⟨fun h1 => ?_, fun h1 => ?_⟩
    · rw [if_pos h1] at hd; exact hd
    · rw [if_neg (by omega)] at hd
      refine J.dr hF mixed 8 [[], [], [0, 1], [0, 1, 2], [], [], [4, 5], [4, 5, 6], [0, 1, 2, 3, 4, 5, 6, 7], [0, 1, 2, 3, 4, 5, 6, 7, 8]] [[23, 24, 25, 26, 27, 28, 29, 30], [23, 24, 25, 26, 27, 28, 29, 30], [25, 26, 27, 28, 29, 30], [26, 27, 28, 29, 30], [23, 24, 25, 26, 27, 28, 29, 30], [23, 24, 25, 26, 27, 28, 29, 30], [23, 24, 25, 26, 29, 30], [23, 24, 25, 26, 30]] (by decide) ?_
      rw [← List.take_append_drop 4 (List.take _ _)]
      generalize htl : List.drop 4 (List.take _ _) = tl
      simp
      refine ⟨hlt, fun x' hx' => ?_⟩
      obtain rfl : x = x' := Option.some.inj (hx.symm.trans hx')
      subst htl
      simp
      refine ⟨by omega, fun y' hy' => ?_⟩
      obtain rfl : y = y' := Option.some.inj (hy.symm.trans hy')
      refine S 60 _ _ ?_
      simp
      refine ⟨fun h2 => ?_, fun h2 => ?_⟩
      · rw [if_pos h2] at hd; exact hd
      · rw [if_neg (by omega)] at hd
        exact Nxt.mk (i + 1) ⟨hlt, hd⟩ (by simp [wrapS (i := i) (n := xs.length) hlt (by omega)]) (by omega)
  · refine S 60 _ _ ?_
    simp
    rw [← hd, List.drop_of_length_le (by omega)]
    simp [cmpI]

/-- Is it a canonical code. -/
def GoodC (p l : Int) (rows : List (List Int)) : Prop := GoodRows p l rows ∧ (rows.length : Int) ≤ l ∧ echL p rows = rows
instance (p l : Int) (rows : List (List Int)) : Decidable (GoodC p l rows) := by unfold GoodC; infer_instance

end Go.Sm
