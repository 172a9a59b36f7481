/- Towards the rows of this seat: what the functions do, as contracts over plain data. -/
import Derived.Shelf.SlLaysF
import Derived.Ground.SlsfProg
import Derived.Test.YtnpeodnepableaaGreatProg
import Derived.Shelf.SlSortCmp.NoneTotal
import Derived.Test.YtnpeodnepableaaGreatPkQrIsDeskAK3
import Derived.Test.YtnpeodnepableaaGreatPkQrIsDeskAK2
namespace Go.Proofs
open Go.Shelf
def Tryz.sortR_ren : Go.Shelf.Ren := ⟨fun | 6 => 101 | 15 => 140 | 14 => 139 | 28 => 168 | 29 => 169 | 20 => 160 | 21 => 161 | 22 => 162 | 23 => 163 | 24 => 164 | 25 => 165 | 26 => 166 | 27 => 167 | 46 => 178 | 47 => 179 | 48 => 180 | 49 => 181 | 50 => 182 | 57 => 193 | n => n, fun | 22 => 28 | 24 => 75 | 25 => 132 | 3 => 3 | 39 => 165 | 0 => 0 | 53 => 186 | 55 => 188 | 4 => 4 | 46 => 179 | 45 => 178 | 50 => 183 | 5 => 5 | 9 => 9 | 66 => 193 | 70 => 197 | 76 => 207 | 77 => 208 | n => n, fun | n => n⟩
theorem Tryz.sortR : Go.Proofs.SlLaysF.n6 Tryz.prog Tryz.sortR_ren := {
  mixed := by kernel_rfl
  f6 := ⟨Tryz.f101.name, by decide, Tryz.func101.trans (congrArg some (by kernel_rfl))⟩
  f14 := ⟨Tryz.f139.name, by decide, Tryz.func139.trans (congrArg some (by kernel_rfl))⟩
  f15 := Tryz.func140.trans (congrArg some (by kernel_rfl))
  f20 := ⟨Tryz.f160.name, by decide, Tryz.func160.trans (congrArg some (by kernel_rfl))⟩
  f21 := ⟨Tryz.f161.name, by decide, Tryz.func161.trans (congrArg some (by kernel_rfl))⟩
  f22 := ⟨Tryz.f162.name, by decide, Tryz.func162.trans (congrArg some (by kernel_rfl))⟩
  f23 := ⟨Tryz.f163.name, by decide, Tryz.func163.trans (congrArg some (by kernel_rfl))⟩
  f24 := ⟨Tryz.f164.name, by decide, Tryz.func164.trans (congrArg some (by kernel_rfl))⟩
  f25 := ⟨Tryz.f165.name, by decide, Tryz.func165.trans (congrArg some (by kernel_rfl))⟩
  f26 := ⟨Tryz.f166.name, by decide, Tryz.func166.trans (congrArg some (by kernel_rfl))⟩
  f27 := ⟨Tryz.f167.name, by decide, Tryz.func167.trans (congrArg some (by kernel_rfl))⟩
  f28 := Tryz.func168.trans (congrArg some (by kernel_rfl))
  f29 := Tryz.func169.trans (congrArg some (by kernel_rfl))
  f46 := ⟨Tryz.f178.name, by decide, Tryz.func178.trans (congrArg some (by kernel_rfl))⟩
  f47 := Tryz.func179.trans (congrArg some (by kernel_rfl))
  f48 := Tryz.func180.trans (congrArg some (by kernel_rfl))
  f49 := ⟨Tryz.f181.name, by decide, Tryz.func181.trans (congrArg some (by kernel_rfl))⟩
  f50 := ⟨Tryz.f182.name, by decide, Tryz.func182.trans (congrArg some (by kernel_rfl))⟩
  f57 := ⟨Tryz.f193.name, by decide, Tryz.func193.trans (congrArg some (by kernel_rfl))⟩
  t0 := Tryz.underlying0
  a0 := Tryz.isAgg0
  z0 := Tryz.sizeOf0
  v0 := Tryz.zeroValue0
  t3 := Tryz.underlying3
  a3 := Tryz.isAgg3
  z3 := Tryz.sizeOf3
  v3 := Tryz.zeroValue3
  t4 := Tryz.underlying4
  a4 := Tryz.isAgg4
  z4 := Tryz.sizeOf4
  v4 := Tryz.zeroValue4
  t5 := Tryz.underlying5
  a5 := Tryz.isAgg5
  z5 := Tryz.sizeOf5
  v5 := Tryz.zeroValue5
  t9 := Tryz.underlying9
  a9 := Tryz.isAgg9
  z9 := Tryz.sizeOf9
  v9 := Tryz.zeroValue9
  t22 := Tryz.underlying28
  a22 := Tryz.isAgg28
  z22 := Tryz.sizeOf28
  v22 := Tryz.zeroValue28
  a24 := Tryz.isAgg75
  z24 := Tryz.sizeOf75
  t25 := Tryz.underlying132
  a25 := Tryz.isAgg132
  z25 := Tryz.sizeOf132
  v25 := Tryz.zeroValue132
  t39 := Tryz.underlying165
  a39 := Tryz.isAgg165
  z39 := Tryz.sizeOf165
  v39 := Tryz.zeroValue165
  t45 := Tryz.underlying178
  a45 := Tryz.isAgg178
  z45 := Tryz.sizeOf178
  v45 := Tryz.zeroValue178
  t46 := Tryz.underlying179
  a46 := Tryz.isAgg179
  z46 := Tryz.sizeOf179
  v46 := Tryz.zeroValue179
  t50 := Tryz.underlying183
  a50 := Tryz.isAgg183
  z50 := Tryz.sizeOf183
  v50 := Tryz.zeroValue183
  t53 := Tryz.underlying186
  a53 := Tryz.isAgg186
  z53 := Tryz.sizeOf186
  v53 := Tryz.zeroValue186
  t55 := Tryz.underlying188
  a55 := Tryz.isAgg188
  z55 := Tryz.sizeOf188
  v55 := Tryz.zeroValue188
  t66 := Tryz.underlying193
  a66 := Tryz.isAgg193
  z66 := Tryz.sizeOf193
  v66 := Tryz.zeroValue193
  t70 := Tryz.underlying197
  a70 := Tryz.isAgg197
  z70 := Tryz.sizeOf197
  v70 := Tryz.zeroValue197
  t76 := Tryz.underlying207
  a76 := Tryz.isAgg207
  z76 := Tryz.sizeOf207
  v76 := Tryz.zeroValue207
  t77 := Tryz.underlying208
  a77 := Tryz.isAgg208
  z77 := Tryz.sizeOf208
  v77 := Tryz.zeroValue208 }
end Go.Proofs

namespace Go.Sm
open Go.RowKit Go.Shelf Go.Sort

theorem leadZ_range {r : List Int} (hl : r.length ≤ 1048576) : -1 ≤ leadZ r ∧ leadZ r ≤ 1048576 := by
  have := leadN_le r
  unfold leadZ; split <;> omega

theorem reduce1_ok (x y : List Int) (hx : x.length ≤ 1048576) (hy : y.length ≤ 1048576) : CallOK Go.Proofs.Tryz.prog 119 [.one (vInts x), .one (vInts y)] (.one (i64 (leadZ x - leadZ y))) := by
  have hF := fnOk 10 [.tmp 4]
  refine callOK hF 60 Go.Proofs.Tryz.func119 rfl rfl rfl (by decide) (by simp) rfl ?_
  intro w0 hw
  have S := @vc_sound w0 _ hF ⟨(.one (i64 (leadZ x - leadZ y))), []⟩ Go.Proofs.Tryz.f119 rfl (by simp)
  have c1 := lead_ok x hx
  have c2 := lead_ok y hy
  have r1 := leadZ_range hx
  have r2 := leadZ_range hy
  have hwr : IntKind.i64.wrap (leadZ x - leadZ y) = leadZ x - leadZ y := wrap64 (by omega) (by omega)
  simp
  refine CallW.ok (by decide) (by simp) c1 (by simp) (S 60 _ _ ?_)
  simp
  refine CallW.ok (by decide) (by simp) c2 (by simp) (S 60 _ _ ?_)
  simp [hwr]

theorem bel_grown {w w' : World} (h : Bel w.heap.size w w') : ∃ q os, w' = grow (w.drewN q) os := by
  refine ⟨w'.drawn - w.drawn, w'.heap.extract w.heap.size w'.heap.size, ?_⟩
  have hh : w'.heap = w.heap ++ w'.heap.extract w.heap.size w'.heap.size := by
    apply Array.ext_getElem?
    intro i
    by_cases hi : i < w.heap.size
    · rw [Array.getElem?_append_left hi, h.block i hi]
    · rw [Array.getElem?_append_right (by omega), Array.getElem?_extract]
      split
      · congr 1; omega
      · rename_i h2
        exact Array.getElem?_eq_none (by omega)
  have hd : w'.drawn = w.drawn + (w'.drawn - w.drawn) := by have := h.drawn; omega
  have e1 := h.os; have e2 := h.tape; have e3 := h.output
  cases w' with
  | mk heap tape drawn os output =>
    simp only at hh hd e1 e2 e3
    subst e1; subst e2; subst e3
    unfold grow World.drewN
    simp only [World.mk.injEq, and_true, true_and]
    exact ⟨hh, hd⟩

/-! ### handles -/
/-- The block of a handle. -/
def hb : Value → List Nat
  | .slice (some a) _ _ => [a.block]
  | _ => []
theorem fpEs_ints (w : World) (b : Nat) : ∀ (r : List Int) (off : Nat), fpEs w 1 (ints r) b off = []
  | [], off => by simp [fpEs]
  | x :: r, off => by
    have := fpEs_ints w b r (off + 1)
    simp only [ints] at this
    simp [fpEs, fpCs, fp, this]
theorem fp_oInts (w : World) (r : List Int) (v : Value) : fp w (oInts r) v = hb v := by
  cases v with
  | slice ad n cap =>
    cases ad with
    | none => simp [fp, hb]
    | some a => rw [fp_own_some, fpEs_ints]; rfl
  | _ => simp [fp, hb]
theorem rows_EsV {Q : D → Value → Prop} : ∀ {L : List (List Int)} {vs : List Value}, EsV Q 1 (L.map fun r => [oInts r]) vs →
    vs.length = L.length ∧ ∀ (i : Nat) r v, L[i]? = some r → vs[i]? = some v → Q (oInts r) v
  | [], vs, h => by
    have h : vs = [] := h
    subst h; exact ⟨rfl, fun i r v hr => by simp at hr⟩
  | r :: L, vs, h => by
    obtain ⟨u, q, rfl, _, ⟨v, u', rfl, hv, hu⟩, h2⟩ := h
    have hu : u' = [] := hu
    subst hu
    obtain ⟨k1, k2⟩ := rows_EsV h2
    refine ⟨by simp [k1], fun i r' v' hr hv' => ?_⟩
    cases i with
    | zero => simp at hr hv'; subst hr; subst hv'; exact hv
    | succ i => exact k2 i r' v' (by simpa using hr) (by simpa using hv')
theorem rows_of {Q : D → Value → Prop} : ∀ {L : List (List Int)} {vs : List Value}, vs.length = L.length → (∀ (i : Nat) r v, L[i]? = some r → vs[i]? = some v → Q (oInts r) v) →
    EsV Q 1 (L.map fun r => [oInts r]) vs
  | [], vs, hl, _ => by cases vs with
    | nil => rfl
    | cons v vs => simp at hl
  | r :: L, vs, hl, h => by
    cases vs with
    | nil => simp at hl
    | cons v vs =>
      exact ⟨[v], vs, rfl, rfl, ⟨v, [], rfl, h 0 r v rfl rfl, rfl⟩, rows_of (by simpa using hl) fun i r' v' h1 h2 => h (i + 1) r' v' (by simpa using h1) (by simpa using h2)⟩
theorem rows_fp {w : World} : ∀ {L : List (List Int)} {vs : List Value}, vs.length = L.length → fpVs w 1 (L.map fun r => [oInts r]) vs = vs.flatMap hb
  | [], vs, hl => by cases vs with
    | nil => rfl
    | cons v vs => simp at hl
  | r :: L, vs, hl => by
    cases vs with
    | nil => simp at hl
    | cons v vs =>
      have := rows_fp (w := w) (L := L) (vs := vs) (by simpa using hl)
      simp only [List.map_cons, fpVs, fpDs, List.headD_cons, List.drop_succ_cons, List.drop_zero, List.append_nil, List.flatMap_cons, this, fp_oInts]
theorem ints_RdEs {w w' : World} {B M B' M' : Nat → Prop} {b : Nat} (hc : ∀ off, w'.cell? ⟨b, off, none⟩ = w.cell? ⟨b, off, none⟩) : ∀ {r : List Int} {off : Nat}, RdEs w B M 1 (ints r) b off → RdEs w' B' M' 1 (ints r) b off
  | [], off, _ => by simp only [ints, List.map_nil, RdEs]
  | x :: r, off, h => by
    simp only [ints, List.map_cons, RdEs, RdCs, Rd] at h ⊢
    obtain ⟨h1, ⟨⟨c, h2, h3⟩, _⟩, h4⟩ := h
    exact ⟨h1, ⟨⟨c, by rw [hc]; exact h2, h3⟩, trivial⟩, ints_RdEs hc h4⟩

theorem perm_of_permIn' {α : Type} [Inhabited α] {d d' : Array α} (h : PermIn 0 d.size d d') : d'.toList.Perm d.toList := by
  obtain ⟨h1, _, h3⟩ := h
  have e1 : d'.extract 0 d.size = d' := by rw [← h1]; simp
  have e2 : d.extract 0 d.size = d := by simp
  rwa [e1, e2] at h3

/-- One list in strict order among the orders of a list. -/
theorem sorted_rows {d ys : List (List Int)} (hL : ∀ r ∈ ys, Led r) (hp : ys.Perm d) (hs : Srt ys) (hd : d.Pairwise fun a b => ¬ leadZ b < leadZ a) : d = ys := by
  have hz : ∀ r ∈ ys, leadZ r = leadN r := fun r hr => if_pos (hL r hr)
  have h2 : ys.Pairwise fun a b => ¬ leadZ b < leadZ a := by
    refine hs.imp_of_mem fun {a b} ha hb h => ?_
    rw [hz a ha, hz b hb]; omega
  have h1 : ∀ a b, a ∈ d → b ∈ ys → ¬ leadZ b < leadZ a → ¬ leadZ a < leadZ b → a = b := by
    intro a b ha hb h1 h2
    have ha' : a ∈ ys := hp.symm.subset ha
    have hab : leadN a = leadN b := by have e1 := hz a ha'; have e2 := hz b hb; omega
    obtain ⟨i, hi, rfl⟩ := List.getElem_of_mem ha'
    obtain ⟨j, hj, rfl⟩ := List.getElem_of_mem hb
    rcases Nat.lt_trichotomy i j with h | h | h
    · have := List.pairwise_iff_getElem.1 hs i j hi hj h; omega
    · subst h; rfl
    · have := List.pairwise_iff_getElem.1 hs j i hj hi h; omega
  exact List.Perm.eq_of_pairwise h1 hd h2 hp.symm

def rowAt (L : List (List Int)) (i : Nat) : List Int := L.getD i []
def hdAt (vs : List Value) (i : Nat) : Value := vs.getD i nilV
def cmpG (cmp : List Int → List Int → Int) (L : List (List Int)) (i j : Nat) : Int := cmp (rowAt L i) (rowAt L j)
def cmpR (x y : List Int) : Int := leadZ x - leadZ y

theorem swoR (L : List (List Int)) : SWO (Go.Proofs.ltOf (cmpG cmpR L)) where
  irrefl x := by unfold Go.Proofs.ltOf cmpG cmpR; simp
  trans x y z h1 h2 := by
    unfold Go.Proofs.ltOf cmpG cmpR at *
    rw [decide_eq_true_eq] at *; omega
  ntrans x y z h1 h2 := by
    unfold Go.Proofs.ltOf cmpG cmpR at *
    rw [decide_eq_false_iff_not] at *; omega

/-- What is known of the handles. -/
def Hds (w : World) (b : Nat) (L : List (List Int)) (vs : List Value) : Prop :=
  vs.length = L.length ∧ b < w.heap.size ∧ (∀ (i : Nat) r v, L[i]? = some r → vs[i]? = some v → Rd w (fun _ => False) (fun _ => False) (oInts r) v) ∧ b ∉ vs.flatMap hb

theorem sw_heap (enc : Nat → Value) (w : World) (b m : Nat) (d : Array Nat) (os : Array Obj) : (Go.Proofs.sortWorld enc w b 0 m d os).heap = (w.heap.modify b (onCells (putCells enc 0 d))) ++ os := rfl
theorem sw_other (enc : Nat → Value) (w : World) (b m : Nat) (d : Array Nat) (os : Array Obj) {y : Nat} (hy : y < w.heap.size) (hne : y ≠ b) : (Go.Proofs.sortWorld enc w b 0 m d os).heap[y]? = w.heap[y]? := by
  rw [sw_heap, Array.getElem?_append_left (by simpa using hy), Array.getElem?_modify, if_neg (fun e => hne e.symm)]

theorem Hds.at {w : World} {b : Nat} {L : List (List Int)} {vs : List Value} (h : Hds w b L vs) (i : Nat) :
    (rowAt L i = [] ∧ hdAt vs i = nilV) ∨ (Rd w (fun _ => False) (fun _ => False) (oInts (rowAt L i)) (hdAt vs i) ∧ b ∉ hb (hdAt vs i)) := by
  by_cases hi : i < L.length
  · have hi2 : i < vs.length := by rw [h.1]; exact hi
    refine .inr ⟨h.2.2.1 i _ _ (by unfold rowAt; simp [hi]) (by unfold hdAt; simp [hi2]), fun hm => h.2.2.2 (List.mem_flatMap.2 ⟨_, ?_, hm⟩)⟩
    unfold hdAt; simp [hi2]
  · exact .inl ⟨by unfold rowAt; simp [Nat.le_of_not_lt hi], by unfold hdAt; simp [show vs.length ≤ i by rw [h.1]; omega]⟩

/-- A handle in a world of the sort's. -/
theorem Hds.keep {w w' : World} {b : Nat} {L : List (List Int)} {vs : List Value} (h : Hds w b L vs) (hsz : w.heap.size ≤ w'.heap.size) (hk : ∀ y, y < w.heap.size → y ≠ b → w'.heap[y]? = w.heap[y]?) (i : Nat) :
    Rd w' (Old w') (fun _ => False) (vInts (rowAt L i)) (hdAt vs i) ∧ Rd w' (fun _ => False) (fun _ => False) (oInts (rowAt L i)) (hdAt vs i) := by
  rcases h.at i with ⟨h1, h2⟩ | ⟨h1, h2⟩
  · rw [h1, h2]
    simp only [Rd]
    exact ⟨.inl ⟨by simp, none, 0, rfl, fun _ => rfl⟩, .inl ⟨by simp, by trivial⟩⟩
  · simp only [Rd] at h1 ⊢
    rcases h1 with ⟨h1, h3⟩ | ⟨g, cap, cur, h1, h3, _, h4, h5, h6, h7⟩
    · exact ⟨.inl ⟨h1, none, 0, h3, fun _ => rfl⟩, .inl ⟨h1, h3⟩⟩
    · have hg : g < w.heap.size := lt_of_heap h4
      have hne : g ≠ b := fun e => h2 (by rw [h1, e]; exact List.mem_cons_self ..)
      have hcell : ∀ off, w'.cell? ⟨g, off, none⟩ = w.cell? ⟨g, off, none⟩ := fun off => by simp only [World.cell?, hk g hg hne]
      exact ⟨.inr ⟨g, 0, cap, h1, h3, not_false, by omega, fun _ => (by show g < _; omega), ints_RdEs hcell h7⟩,
        .inr ⟨g, cap, cur, h1, h3, not_false, by rw [hk g hg hne]; exact h4, h5, h6, ints_RdEs hcell h7⟩⟩

/-- A function that compares rows. -/
def CmpOk (K : Nat) (cmp : List Int → List Int → Int) : Prop := (∀ args w, (callFunc K args).run Go.Proofs.Tryz.prog w = .ok (.enter K args) w) ∧
  ∀ x y : List Int, x.length ≤ 1048576 → y.length ≤ 1048576 → CallOK Go.Proofs.Tryz.prog K [.one (vInts x), .one (vInts y)] (.one (i64 (cmp x y)))
theorem cmp_rows {K : Nat} {cmp : List Int → List Int → Int} (hK : CmpOk K cmp) {w : World} {b : Nat} {L : List (List Int)} {vs : List Value} (h : Hds w b L vs) (hl : ∀ r ∈ L, r.length ≤ 1048576) (size : Nat) :
    Go.Proofs.CmpLays1 Go.Proofs.Tryz.prog K #[] (hdAt vs) (cmpG cmp L) b 0 size w := by
  intro m os dk hs x y
  have hlen : ∀ i, (rowAt L i).length ≤ 1048576 := fun i => by
    by_cases hi : i < L.length
    · have : rowAt L i = L[i] := by unfold rowAt; simp [hi]
      rw [this]; exact hl _ (List.getElem_mem hi)
    · have : rowAt L i = [] := by unfold rowAt; simp [Nat.le_of_not_lt hi]
      rw [this]; simp
  have hk := fun i => h.keep (w' := Go.Proofs.sortWorld (hdAt vs) w b 0 m dk os) (by rw [sw_heap]; simp) (fun y hy hne => sw_other _ _ _ _ _ _ hy hne) i
  have hc := (hK.2 (rowAt L x) (rowAt L y) (hlen x) (hlen y)).2 (Go.Proofs.sortWorld (hdAt vs) w b 0 m dk os) [hdAt vs x, hdAt vs y]
    ⟨_, _, rfl, ⟨_, rfl, rfl, _, [], rfl, (hk x).1, rfl⟩, _, _, rfl, ⟨_, rfl, rfl, _, [], rfl, (hk y).1, rfl⟩, rfl⟩
  refine Calls.mono hc fun e w' hq => ?_
  obtain ⟨v, rfl, ⟨us, h1, h2, h3, _⟩, hb⟩ := hq
  refine ⟨?_, bel_grown hb⟩
  simp only [RShape] at h1
  subst h1
  obtain ⟨u, r, he, hr, _⟩ := h3
  simp only [List.cons.injEq] at he
  rw [he.1]
  simp only [Rd] at hr
  rw [hr.1]
  rfl

/-- The sort of rows with any function that compares them: the one order in question. -/
theorem sortRowsG (K : Nat) (cmp : List Int → List Int → Int) (hK : CmpOk K cmp) (L E : List (List Int)) (hsw : SWO (Go.Proofs.ltOf (cmpG cmp L))) (hl : L.length < 4611686018427387904) (hlen : ∀ r ∈ L, r.length ≤ 1048576) (hp : E.Perm L)
    (hE : ∀ d : List (List Int), d.Perm E → d.Pairwise (fun a b => ¬ cmp b a < 0) → d = E) :
    CallX Go.Proofs.Tryz.prog 101 [.one (oIntss L), .one (fnD K)] ⟨.tup [], [(0, oIntss E)]⟩ := by
  refine ⟨⟨Go.Proofs.Tryz.f101, Go.Proofs.Tryz.func101, rfl, rfl⟩, fun w X vs us hA hnd => ?_⟩
  obtain ⟨v1, q1, x1, c1, rfl, rfl, h1, h2, v2, q2, x2, c2, rfl, rfl, h3, h4, rfl, rfl⟩ := hA
  simp only [RShape] at h1 h3
  subst h1; subst h3
  obtain ⟨_, _, he, hr1, _⟩ := h2
  simp only [List.cons.injEq] at he
  obtain ⟨rfl, rfl⟩ := he
  obtain ⟨_, _, he, hr2, _⟩ := h4
  simp only [List.cons.injEq] at he
  obtain ⟨rfl, rfl⟩ := he
  simp only [ArgX, Rd] at hr2
  obtain ⟨rfl, _⟩ := hr2
  obtain ⟨hr, _, hX⟩ := hr1
  have hElen : E.length = L.length := hp.length_eq
  simp only [Rd] at hr
  rcases hr with ⟨hn, rfl⟩ | ⟨b, cap, cur, rfl, hcap, _, hh, hmax, hsz, hes⟩
  · have hx : L = [] := by simpa using hn
    subst hx
    have hy : E = [] := List.length_eq_zero_iff.1 hElen
    subst hy
    have hc := Go.Proofs.AnyF.slices_SortFunc_none (P := Go.Proofs.Tryz.prog) (ρ := Go.Proofs.Tryz.sortR_ren) { Go.Proofs.Tryz.sortR with } none 0 (.func (.func K) #[] #[]) w
    refine Calls.mono hc fun e w' hq => ?_
    obtain ⟨rfl, rfl⟩ := hq
    refine ⟨_, rfl, ⟨[nilV], [], ⟨[], rfl, rfl, rfl⟩, ?_, rfl, ?_, ?_, ?_⟩, Low.refl _ _⟩
    · rfl
    · exact ⟨nilV, [], rfl, by simp [Rd], rfl⟩
    · simp [fpDs, fp, cellsR]
    · intro b hb; simp [fpDs, fp, cellsR] at hb
  · obtain ⟨vs, hv1, hv2⟩ := RdEs.vals hes
    obtain ⟨hvl, hvr⟩ := rows_EsV hv1
    have hlt := lt_of_heap hh
    simp only [List.length_map] at hcap
    have hfp0 : fp w (oIntss L) (.slice (some ⟨b, 0, none⟩) (L.map fun xs => [oInts xs]).length cap) = b :: vs.flatMap hb := by
      rw [fp_own_some, fpEs_vals _ _ 0 hv1 hv2, rows_fp hvl]
    rw [hfp0] at hX
    have hnd0 : (b :: vs.flatMap hb).Nodup := by
      have hnd' : (fp w (oIntss L) (.slice (some ⟨b, 0, none⟩) (L.map fun xs => [oInts xs]).length cap) ++ _).Nodup := hnd
      rw [hfp0] at hnd'
      exact (List.nodup_append.1 hnd').1
    have hH0 : Hds w b L vs := ⟨hvl, hlt, hvr, (List.nodup_cons.1 hnd0).1⟩
    have hH : Holds (hdAt vs) w b 0 (List.range L.length).toArray := by
      intro j hj
      have hj' : j < L.length := by simpa using hj
      have hjv : j < vs.length := by omega
      have e : (List.range L.length).toArray[j]! = j := by rw [getElem!_pos _ j hj]; simp
      refine ⟨?_, by simp [World.frozen?, hh]⟩
      rw [e, hv2 j _ (List.getElem?_eq_getElem hjv)]
      unfold hdAt; simp [hjv]
    have hone : Go.Proofs.OneCell (hdAt vs) := fun i => by
      rcases hH0.at i with ⟨_, h2⟩ | ⟨h1, _⟩
      · rw [h2]; rfl
      · simp only [Rd] at h1
        rcases h1 with ⟨_, h⟩ | ⟨g, cap, cur, h, _⟩ <;> rw [h] <;> rfl
    have hc := Go.Proofs.Any.slices_SortFunc Go.Proofs.Tryz.sortR (hdAt vs) hone (cmpG cmp L) hsw K #[] b 0 cap (List.range L.length).toArray w hK.1 (cmp_rows hK hH0 hlen _) hH hlt (by simpa using hl)
    have hll : (L.map fun xs => [oInts xs]).length = (List.range L.length).toArray.size := by simp
    have hnd1 := hnd0
    rw [hll]
    refine Calls.mono hc fun e w' hq => ?_
    obtain ⟨rfl, d', n, os, hperm, hsort, rfl⟩ := hq
    have hpr : d'.toList.Perm (List.range L.length) := perm_of_permIn' hperm
    have hds : d'.size = L.length := by have := hpr.length_eq; simpa using this
    have eL : (List.range L.length).map (rowAt L) = L := by
      refine List.ext_getElem (by simp) fun i h1 h2 => ?_
      simp [rowAt, h2]
    have eV : (List.range L.length).map (hdAt vs) = vs := by
      refine List.ext_getElem (by simp [hvl]) fun i h1 h2 => ?_
      simp [hdAt, h2]
    have hrows : d'.toList.map (rowAt L) = E := by
      refine hE _ ?_ ?_
      · have := hpr.map (rowAt L)
        rw [eL] at this
        exact this.trans hp.symm
      · rw [List.pairwise_map, List.pairwise_iff_getElem]
        intro i j hi hj hij
        have hn : d'.size = (List.range L.length).toArray.size := hperm.1
        have hi' : i < d'.size := by simpa using hi
        have hj' : j < d'.size := by simpa using hj
        have := hsort i j (Nat.zero_le _) hij (by omega)
        unfold Go.Proofs.ltOf cmpG at this
        rw [getElem!_pos d' i hi', getElem!_pos d' j hj'] at this
        simp only [decide_eq_false_iff_not] at this
        simp only [Array.getElem_toList]
        exact this
    have hfpP : ((d'.toList.map (hdAt vs)).flatMap hb).Perm (vs.flatMap hb) := by
      have := (hpr.map (hdAt vs)).flatMap_right hb
      rw [eV] at this
      exact this
    have hnew : (Go.Proofs.sortWorld (hdAt vs) w b 0 n d' os).heap[b]? = some (.cells (putCells (hdAt vs) 0 d' cur) 75 (0, 0)) := by
      rw [sw_heap, Array.getElem?_append_left (by simpa using hlt), Array.getElem?_modify]
      simp [hh, onCells]
    have hcells : ∀ (j : Nat) (u : Value), (d'.toList.map (hdAt vs))[j]? = some u → (Go.Proofs.sortWorld (hdAt vs) w b 0 n d' os).cell? ⟨b, 0 + j, none⟩ = some u := by
      intro j u hj
      rw [List.getElem?_map] at hj
      have hjs : j < d'.size := by
        have : j < d'.toList.length := Decidable.byContradiction fun h => by
          rw [List.getElem?_eq_none (by omega)] at hj; simp at hj
        simpa using this
      have hcu : j < cur.size := by omega
      have hju : hdAt vs d'[j] = u := by simpa [hjs] using hj
      simp only [World.cell?, hnew, putCells]
      simp [hcu, hjs, hju]
    have hEs : EsV (Rd (Go.Proofs.sortWorld (hdAt vs) w b 0 n d' os) (fun _ => False) fun _ => False) 1 (E.map fun xs => [oInts xs]) (d'.toList.map (hdAt vs)) := by
      refine rows_of (by simp [hds, hElen]) fun i r v h1 h2 => ?_
      rw [← hrows, List.getElem?_map] at h1
      rw [List.getElem?_map] at h2
      cases hq : d'.toList[i]? with
      | none => rw [hq] at h1; simp at h1
      | some k =>
        rw [hq] at h1 h2
        simp only [Option.map_some, Option.some.injEq] at h1 h2
        rw [← h1, ← h2]
        exact (hH0.keep (by rw [sw_heap]; simp) (fun y hy hne => sw_other _ _ _ _ _ _ hy hne) k).2
    have hread : Rd (Go.Proofs.sortWorld (hdAt vs) w b 0 n d' os) (fun _ => False) (fun _ => False) (oIntss E) (.slice (some ⟨b, 0, none⟩) (List.range L.length).toArray.size cap) := by
      simp only [Rd]
      exact .inr ⟨b, cap, _, by simp [hElen], by simp [hElen]; exact hcap, not_false, hnew, hmax, by simp [putCells, hsz], RdEs.ofV hEs hcells⟩
    have hfp : fp (Go.Proofs.sortWorld (hdAt vs) w b 0 n d' os) (oIntss E) (.slice (some ⟨b, 0, none⟩) (List.range L.length).toArray.size cap) = b :: (d'.toList.map (hdAt vs)).flatMap hb := by
      rw [fp_own_some, fpEs_vals _ _ 0 hEs hcells, rows_fp (by simp [hds, hElen])]
    have hpm : (b :: (d'.toList.map (hdAt vs)).flatMap hb).Perm (b :: vs.flatMap hb) := hfpP.cons b
    have hXb : X b := hX b (List.mem_cons_self ..)
    refine ⟨_, rfl, ⟨[.slice (some ⟨b, 0, none⟩) (List.range L.length).toArray.size cap], [], ⟨[], rfl, rfl, rfl⟩, rfl, ?_, ⟨_, _, rfl, hread, rfl⟩, ?_, ?_⟩, ?_⟩
    · simp [freshCs, D.fresh, cellsR]
    · show (fpDs _ [oIntss E] [_]).Nodup
      simp only [fpDs, List.headD_cons, hfp, List.append_nil]
      exact hpm.symm.nodup hnd1
    · intro y hy
      have hy : y ∈ fpDs _ [oIntss E] [_] := hy
      simp only [fpDs, List.headD_cons, hfp, List.append_nil] at hy
      exact .inr (hX y (hpm.subset hy))
    · refine ⟨rfl, rfl, rfl, ?_, ?_, Nat.le_add_right _ _⟩
      · rw [sw_heap]; simp
      · intro y hy
        exact sw_other _ _ _ _ _ _ hy.1 fun e => hy.2 (by rw [e]; exact hXb)

theorem sortRows_ok (L E : List (List Int)) (hl : L.length < 4611686018427387904) (hlen : ∀ r ∈ L, r.length ≤ 1048576) (hL : ∀ r ∈ L, Led r) (hp : E.Perm L) (hs : Srt E) :
    CallX Go.Proofs.Tryz.prog 101 [.one (oIntss L), .one (fnD 119)] ⟨.tup [], [(0, oIntss E)]⟩ :=
  sortRowsG 119 cmpR ⟨Go.Proofs.enters_of Go.Proofs.Tryz.func119 (by kernel_rfl) rfl, reduce1_ok⟩ L E (swoR L) hl hlen hp fun d hd hs' =>
    sorted_rows (fun r hr => hL r (hp.subset hr)) hd.symm hs (hs'.imp fun {a b} h => by unfold cmpR at h; omega)

end Go.Sm

namespace Go.Sm
open Go.RowKit

/-- What is asked of the rows of a list. -/
def Rws (p : Int) (n : Nat) (L : List (List Int)) : Prop := ∀ r ∈ L, RowOk p n r ∧ Led r
theorem Red.rws {p : Int} {n : Nat} {L : List (List Int)} (h : Red p n L) : Rws p n L := fun r hr => ⟨(h.1 r hr).1, led_of (h.1 r hr).2⟩
theorem nrm_take {p : Int} {row : List Int} {i : Nat} (h1 : i < row.length) : (nrm p row).take (i + 1) = (nrm p row).take i ++ [gt row i * invN (gt row (leadN row)) p % p] := by
  rw [List.take_add_one, List.getElem?_eq_getElem (by simpa [nrm] using h1), gt_lt h1]
  simp [nrm]

set_option maxHeartbeats 1000000 in
theorem take_ok (p : Int) (n : Nat) (L : List (List Int)) (row : List Int) (hp : Pr p) (hn : n ≤ 1048576) (hl : L.length ≤ 1000000) (hL : Rws p n L) (h1 : RowOk p n row) : CallX Go.Proofs.Tryz.prog 118 [.one (i64 p), .one (oIntss L), .one (vInts row)] ⟨(.one (oIntss (takeL p L row))), []⟩ := by
  have hF := fnOk 64 [.tmp 6]
  refine callX hF 60 Go.Proofs.Tryz.func118 rfl rfl rfl (by decide) (by simp) rfl (by simp) (by simp [ownAt]) ?_
  intro w0 hw hfix
  have S := @vc_sound w0 _ hF ⟨(.one (oIntss (takeL p L row))), []⟩ Go.Proofs.Tryz.f118 rfl hfix
  have hpp := prPos hp
  have c1 := less_ok' p n L row hp hn (by omega) hL h1
  have r1 := less_row (n := n) (p := p) (L := L) (row := row) (by omega) (fun q hq => (hL q hq).1) h1
  have c2 := lead_ok (lessL p L row) (by rw [r1.1]; exact hn)
  have ht : takeL p L row = if Led (lessL p L row) then L.map (fun r => subR p r (nrm p (lessL p L row)) (gt r (leadN (lessL p L row)))) ++ [nrm p (lessL p L row)] else L := rfl
  generalize lessL p L row = row1 at c1 c2 r1 ht
  by_cases hld : Led row1
  · rw [led_leadZ hld] at c2
    rw [if_pos hld] at ht
    have hld' : leadN row1 < row1.length := hld
    have e1 := r1.1
    have g1 := gt_get hld'
    have g2 := gt_range (by omega) r1 (leadN row1)
    have g3 := gt_lead hld
    have c3 := inverse_ok (gt row1 (leadN row1)) p hp g2.1 g2.2
    obtain ⟨_, v1, v2⟩ := inv_ok hp (n := gt row1 (leadN row1)) (by omega) g2.2
    obtain ⟨n1, n2, n3, _⟩ := nrm_ok hp r1 hld
    have hnt : ∀ i, i < row1.length → (nrm p row1).take (i + 1) = (nrm p row1).take i ++ [gt row1 i * invN (gt row1 (leadN row1)) p % p] := fun i hi => nrm_take hi
    generalize hwn : nrm p row1 = wn at ht n1 n2 n3 hnt
    generalize hvi : invN (gt row1 (leadN row1)) p = vi at c3 v1 v2 hnt
    have hp0 : p ≠ 0 := by omega
    rw [ht] at S ⊢
    simp
    refine CallW.ok (by decide) (by simp) c1 (by simp) (S 60 _ _ ?_)
    simp
    refine CallW.ok (by decide) (by simp) c2 (by simp) (S 60 _ _ ?_)
    simp
    refine ⟨fun h => absurd h (by omega), ⟨hld', fun a ha => ?_⟩⟩
    obtain rfl := Option.some.inj (g1.symm.trans ha)
    refine CallW.ok (by decide) (by simp) c3 (by simp) (S 60 _ _ ?_)
    simp
    refine J.loop hw (fun i : Nat => ⟨[(0, .c (.d (i64 p))), (1, .c (.ob 1)), (2, .c (.ob 64002)), (8, .c (.d (i64 vi))), (28, .c (.d (i64 row1.length))), (29, .c (.d (i64 i)))], [(1, .arr 75 1 (L.map fun xs => [oInts xs])), (64002, .arr 2 1 (ints (wn.take i ++ row1.drop i)))]⟩)
      (fun i => i ≤ row1.length) (fun i => row1.length - i) 0 (by simp) (by simp) ?_
    intro i hi
    have hwl : (wn.take i).length = i := by rw [List.length_take, n1.1]; omega
    have hnt2 := hnt i
    generalize hcr : wn.take i ++ row1.drop i = cur
    have hcl : cur.length = row1.length := by rw [← hcr]; simp [n1.1]; omega
    refine S 8 _ _ ?_
    simp
    refine ⟨fun hlt => ?_, fun hge => ?_⟩
    · have q1 := gt_get hlt
      have q2 := gt_range (by omega) r1 i
      have q3 := hnt2 hlt
      generalize gt row1 i = x at q1 q2 q3
      have m1 : 0 ≤ x * vi := Int.mul_nonneg q2.1 (by omega)
      have m2 : x * vi ≤ 13 * 13 := Int.mul_le_mul (by omega) (by omega) (by omega) (by omega)
      have w1 : IntKind.i64.wrap (x * vi) = x * vi := wrap64 (by omega) (by omega)
      have hmod : (x * vi).tmod p = x * vi % p := Int.tmod_eq_emod_of_nonneg m1
      have gc : cur[i]? = some x := by
        rw [← hcr, List.getElem?_append_right (by omega), hwl, Nat.sub_self, List.getElem?_drop]; simpa using q1
      have hs : cur.set i (x * vi % p) = wn.take (i + 1) ++ row1.drop (i + 1) := by
        rw [← hcr, List.set_append, if_neg (by omega), hwl, Nat.sub_self, q3, drop_cons q1]
        simp
      have hs2 : List.take (i + 1) (List.map (fun i => [D.v (Value.int IntKind.i64 i)]) wn) ++ List.drop (i + 1) (List.map (fun i => [D.v (Value.int IntKind.i64 i)]) row1) = (ints cur).set i [i64 (x * vi % p)] := by
        rw [← List.map_take, ← List.map_drop, ← List.map_append, ← hs, List.map_set]
      refine S 60 _ _ ?_
      simp
      refine ⟨by omega, fun x' hx' => ?_⟩
      obtain rfl : x = x' := Option.some.inj (gc.symm.trans hx')
      simp [w1, hmod, hp0]
      exact ⟨by omega, Nxt.mk (i + 1) hlt (by simp [wrapS (i := i) (n := row1.length) hlt (by omega), hs2]) (by omega)⟩
    · have e : cur = wn := by
        have hin : i = row1.length := by omega
        rw [← hcr, hin, List.drop_of_length_le (Nat.le_refl _), List.append_nil, List.take_of_length_le (by rw [n1.1]; omega)]
      subst e
      refine S 60 _ _ ?_
      simp
      clear hi hwl hnt2 hcr hcl hge
      have hlead : leadN cur < cur.length := by rw [n2, n1.1]; omega
      refine J.loop hw (fun j : Nat => ⟨[(0, .c (.d (i64 p))), (1, .c (.ob 1)), (2, .c (.ob 64002)), (44, .c (.ob 1)), (45, .c (.d (i64 L.length))), (46, .c (.d (i64 j)))],
          [(1, .arr 75 1 (((L.take j).map (fun r => subR p r cur (gt r (leadN row1))) ++ L.drop j).map fun xs => [oInts xs])), (64002, .arr 2 1 (ints cur))]⟩)
        (fun j => j ≤ L.length) (fun j => L.length - j) 0 (by simp) (by simp) ?_
      intro j hj
      have hml : ((L.take j).map (fun r => subR p r cur (gt r (leadN row1)))).length = j := by simp; omega
      generalize hmd : (L.take j).map (fun r => subR p r cur (gt r (leadN row1))) ++ L.drop j = mid
      have hmdl : mid.length = L.length := by rw [← hmd]; simp; omega
      refine S 8 _ _ ?_
      simp
      refine ⟨fun hlt => ?_, fun hge => ?_⟩
      · obtain ⟨r, hr⟩ : ∃ r, L[j]? = some r := ⟨L[j], List.getElem?_eq_getElem hlt⟩
        obtain ⟨b1, b2⟩ := hL r (List.mem_of_getElem? hr)
        have hmr : mid[j]? = some r := by
          rw [← hmd, List.getElem?_append_right (by omega), hml, Nat.sub_self, List.getElem?_drop]; simpa using hr
        have hms : mid.set j (subR p r cur (gt r (leadN row1))) = (L.take (j + 1)).map (fun r => subR p r cur (gt r (leadN row1))) ++ L.drop (j + 1) := by
          rw [← hmd, List.set_append, if_neg (by omega), hml, Nat.sub_self, List.take_add_one, hr, drop_cons hr]
          simp
        have c4 := less_ok' p n [cur] r hp hn (by simp) (by simpa using ⟨n1, hlead⟩) b1
        have e4 : lessL p [cur] r = subR p r cur (gt r (leadN row1)) := by simp [lessL, n2]
        rw [e4] at c4
        generalize subR p r cur (gt r (leadN row1)) = r' at c4 hms
        refine J.out (F := ⟨Go.Proofs.Tryz.prog, tab, [], 64, [.tmp 6]⟩) (r := ⟨.one (oIntss (L.map (fun r => subR p r cur (gt r (leadN row1))) ++ [cur])), []⟩) (fn := Go.Proofs.Tryz.f118) hw
          (ky := 1) (K := 64011) (i := j) (j := 0) (e := 75) (z := 1) (xs := mid.map fun xs => [oInts xs]) (E := [oInts r]) (e' := 2) (z' := 1) (ys := ints r)
          (by simp) (by simp [hmr]) (by simp) (by simp) (by simp) (by omega) (by simp) (by simp) (by simp) ?_
        intro c
        have S1 := @vc_sound (w0.named 64011 c) _ hF ⟨.one (oIntss (L.map (fun r => subR p r cur (gt r (leadN row1))) ++ [cur])), []⟩ Go.Proofs.Tryz.f118 rfl (by simp)
        have hjm : j < mid.length := by omega
        refine S1 8 _ _ ?_
        simp [hjm]
        refine J.name (F := ⟨Go.Proofs.Tryz.prog, tab, [], 64, [.tmp 6]⟩) (r := ⟨.one (oIntss (L.map (fun r => subR p r cur (gt r (leadN row1))) ++ [cur])), []⟩) (fn := Go.Proofs.Tryz.f118)
          (K := 64002) (by rw [named_ne _ _ (by decide)]; exact fix_none hw (by decide)) (by simp) (by simp) ?_
        intro c2
        refine J.reV (d := 2) (K := 64002) (c := c2) (by simp) (by simp) ?_
        refine J.reOb (d := 11) (K := 64011) (c := c) (by rw [named_ne _ _ (by decide)]; simp) (by simp) ?_
        have S2 := @vc_sound ((w0.named 64011 c).named 64002 c2) _ hF ⟨.one (oIntss (L.map (fun r => subR p r cur (gt r (leadN row1))) ++ [cur])), []⟩ Go.Proofs.Tryz.f118 rfl (by simp)
        refine S2 60 _ _ ?_
        simp
        refine CallW.okA (by decide) (ArgsOK.cons (ArgOK.of (r := .one (i64 p)) (by simp)) (ArgsOK.cons (ArgOK.lend (K := 64002) (e := 75) (e' := 2) (z' := 1) (c := c2) (xs := ints cur) (by simp) (by simp) (by simp)) (ArgsOK.cons (ArgOK.of (r := .one (vInts r)) (by simp)) ArgsOK.nil))) (by simp; exact c4) (by simp) ?_
        simp
        refine J.name (F := ⟨Go.Proofs.Tryz.prog, tab, [], 64, [.tmp 6]⟩) (r := ⟨.one (oIntss (L.map (fun r => subR p r cur (gt r (leadN row1))) ++ [cur])), []⟩) (fn := Go.Proofs.Tryz.f118)
          (K := 3648) (by rw [named_ne _ _ (by decide), named_ne _ _ (by decide)]; exact fix_none hw (by decide)) (by simp) (by simp) ?_
        intro c3
        refine J.reV (d := 57) (K := 3648) (c := c3) (by simp) (by simp) ?_
        have S3 := @vc_sound (((w0.named 64011 c).named 64002 c2).named 3648 c3) _ hF ⟨.one (oIntss (L.map (fun r => subR p r cur (gt r (leadN row1))) ++ [cur])), []⟩ Go.Proofs.Tryz.f118 rfl (by simp)
        refine S3 3 _ _ ?_
        simp [hjm]
        refine J.in' (ky := 1) (K := 3648) (i := j) (j := 0) (e := 75) (z := 1) (xs := (mid.map fun xs => [oInts xs]).set j [.v c3]) (E := [.v c3]) (e' := 2) (z' := 1) (ys := ints r') (c := c3)
          (by simp) (by simp) (by simp) (by simp [hjm]) (by simp) (by decide) (by simp) ?_
        refine J.reOb (d := 2) (K := 64002) (c := c2) (by rw [named_ne _ _ (by decide)]; simp) (by simp) ?_
        have hms2 : List.take (j + 1) (List.map ((fun xs => [oInts xs]) ∘ fun r => subR p r cur (gt r (leadN row1))) L) ++ List.drop (j + 1) (List.map (fun xs => [oInts xs]) L) = (mid.map fun xs => [oInts xs]).set j [oInts r'] := by
          rw [show [oInts r'] = (fun xs => [oInts xs]) r' from rfl, ← List.map_set, hms]; simp
        refine S3 60 _ _ ?_
        simp
        exact Nxt.mk (j + 1) hlt (by simp [wrapS (i := j) (n := L.length) hlt (by omega), hms2]) (by omega)
      · have e : mid = L.map (fun r => subR p r cur (gt r (leadN row1))) := by
          have hin : j = L.length := by omega
          rw [← hmd, hin, List.drop_of_length_le (Nat.le_refl _), List.append_nil, List.take_of_length_le (Nat.le_refl _)]
        rw [← e] at S ⊢
        refine S 60 _ _ ?_
        simp
        refine BsW.move hF (e := 75) (es := [[oInts cur]]) (ks := [64002]) (by decide) rfl rfl rfl (by simp) (by simp) rfl (by decide) (by decide) (by simp) ?_
        refine S 60 _ _ ?_
        simp
        omega
  · have h0 : leadZ row1 = -1 := if_neg hld
    rw [h0] at c2
    rw [if_neg hld] at ht
    rw [ht] at S ⊢
    simp
    refine CallW.ok (by decide) (by simp) c1 (by simp) (S 60 _ _ ?_)
    simp
    refine CallW.ok (by decide) (by simp) c2 (by simp) (S 60 _ _ ?_)
    simp

theorem redL_take {p : Int} {rows : List (List Int)} {i : Nat} {r : List Int} (h : rows[i]? = some r) : redL p (rows.take (i + 1)) = takeL p (redL p (rows.take i)) r := by
  unfold redL; rw [List.take_add_one, h]; simp
theorem both_all {p : Int} {n : Nat} (hp : Pr p) {rows : List (List Int)} (h : ∀ r ∈ rows, RowOk p n r) : Both p n (redL p rows) (echL p rows) := both_ok hp rows (both_nil p n) h
theorem redL_len {p : Int} {rows : List (List Int)} : (redL p rows).length ≤ rows.length := by have := red_len (p := p) (rows := rows) (L := []); simpa [redL] using this

theorem reduce_ok (p : Int) (n : Nat) (rows : List (List Int)) (hp : Pr p) (hn : n ≤ 1048576) (hl : rows.length ≤ 1000000) (hL : ∀ r ∈ rows, RowOk p n r) : CallOK Go.Proofs.Tryz.prog 61 [.one (i64 p), .one (vIntss rows)] (.one (oIntss (echL p rows))) := by
  have hF := fnOk 23 [.tmp 4]
  refine callOK hF 60 Go.Proofs.Tryz.func61 rfl rfl rfl (by decide) (by simp) rfl ?_
  intro w0 hw
  have S := @vc_sound w0 _ hF ⟨(.one (oIntss (echL p rows))), []⟩ Go.Proofs.Tryz.f61 rfl (by simp)
  simp
  refine J.loop hw (fun i : Nat => ⟨[(0, .c (.d (i64 p))), (9, .c (.d (vIntss rows))), (10, .c (.d (i64 rows.length))), (11, .c (.d (i64 i))), (5, .c (.ob 64005))], [(64005, .arr 75 1 ((redL p (rows.take i)).map fun xs => [oInts xs]))]⟩)
    (fun i => i ≤ rows.length) (fun i => rows.length - i) 0 (by simp) (by simp [redL]) ?_
  intro i hi
  refine S 8 _ _ ?_
  simp
  refine ⟨fun hlt => ?_, fun hge => ?_⟩
  · obtain ⟨r, hr⟩ : ∃ r, rows[i]? = some r := ⟨rows[i], List.getElem?_eq_getElem hlt⟩
    have hb := both_all (n := n) hp (rows := rows.take i) fun q hq => hL q (List.take_subset _ _ hq)
    have hln := redL_len (p := p) (rows := rows.take i)
    have hst := redL_take (p := p) hr
    have c1 := take_ok p n (redL p (rows.take i)) r hp hn (by simp at hln; omega) hb.1.rws (hL r (List.mem_of_getElem? hr))
    generalize redL p (rows.take i) = L at c1 hst ⊢
    refine S 8 _ _ ?_
    simp
    refine ⟨hlt, fun r' hr' => ?_⟩
    obtain rfl : r = r' := Option.some.inj (hr.symm.trans hr')
    refine J.keep [0, 5, 7, 9, 10, 11] ?_
    simp
    refine S 60 _ _ ?_
    simp
    refine CallW.mut c1 (by decide) (by simp) (by simp) (by simp) (by simp) (by simp) (by simp) (S 60 _ _ ?_)
    simp
    exact Nxt.mk (i + 1) hlt (by simp [wrapS (i := i) (n := rows.length) hlt (by omega), hst]) (by omega)
  · have e : rows.take i = rows := List.take_of_length_le hge
    rw [e]
    have hb := both_all (n := n) hp hL
    have hln := redL_len (p := p) (rows := rows)
    have c2 := sortRows_ok (redL p rows) (echL p rows) (by omega) (fun r hr => by rw [(hb.1.rws r hr).1.1]; exact hn) (fun r hr => (hb.1.rws r hr).2) hb.2.1 hb.2.2
    generalize redL p rows = L at c2 ⊢
    refine S 60 _ _ ?_
    simp
    refine CallW.mut c2 (by decide) (by simp) (by simp) (by simp) (by simp) (by simp) (by simp) (S 60 _ _ ?_)
    simp

end Go.Sm

namespace Go.Sm
open Go.RowKit

theorem echL_take {p : Int} {rows : List (List Int)} {i : Nat} {r : List Int} (h : rows[i]? = some r) : echL p (rows.take (i + 1)) = echS p (echL p (rows.take i)) r := by
  unfold echL; rw [List.take_add_one, h]; simp
theorem insL_cons (f : List Int → List Int) (w : List Int) (k : Nat) (r : List Int) (rs : List (List Int)) : insL f w k (r :: rs) = if k < leadN r then w :: f r :: rs.map f else f r :: insL f w k rs := rfl

/-- The place of a row that may have been given away. -/
def echSt (p : Int) (rows : List (List Int)) (i : Nat) (E : List (List Int)) (w : List Int) (k : Nat) (j : Nat) (next : List (List Int)) : Bool → St
  | false => ⟨[(0, .c (.d (i64 p))), (1, .c (.d (vIntss rows))), (5, .c (.ob 64005)), (6, .c (.d (i64 i))), (7, .c (.ob 64007)), (8, .c (.d (i64 k))), (11, .c (.ob 64011)), (12, .c (.d (bo false))), (13, .c (.d (i64 j)))],
      [(64005, .arr 75 1 (E.map fun xs => [oInts xs])), (64011, .arr 75 1 (next.map fun xs => [oInts xs])), (64007, .arr 2 1 (ints w))]⟩
  | true => ⟨[(0, .c (.d (i64 p))), (1, .c (.d (vIntss rows))), (5, .c (.ob 64005)), (6, .c (.d (i64 i))), (7, .c (.d (.vw false 1 (ints w)))), (8, .c (.d (i64 k))), (11, .c (.ob 64011)), (12, .c (.d (bo true))), (13, .c (.d (i64 j)))],
      [(64005, .arr 75 1 (E.map fun xs => [oInts xs])), (64011, .arr 75 1 (next.map fun xs => [oInts xs]))]⟩

set_option maxHeartbeats 1000000 in
theorem l01Echelon_ok (p : Int) (n : Nat) (rows : List (List Int)) (hp : Pr p) (hn : n ≤ 1048576) (hl : rows.length ≤ 1000000) (hL : ∀ r ∈ rows, RowOk p n r) : CallOK Go.Proofs.Tryz.prog 55 [.one (i64 p), .one (vIntss rows)] (.one (oIntss (echL p rows))) := by
  have hF := fnOk 102 [.tmp 4]
  refine callOK hF 60 Go.Proofs.Tryz.func55 rfl rfl rfl (by decide) (by simp) rfl ?_
  intro w0 hw
  have S := @vc_sound w0 _ hF ⟨(.one (oIntss (echL p rows))), []⟩ Go.Proofs.Tryz.f55 rfl (by simp)
  have hpp := prPos hp
  simp
  refine J.loop hw (fun i : Nat => ⟨[(0, .c (.d (i64 p))), (1, .c (.d (vIntss rows))), (5, .c (.ob 64005)), (6, .c (.d (i64 i)))], [(64005, .arr 75 1 ((echL p (rows.take i)).map fun xs => [oInts xs]))]⟩)
    (fun i => i ≤ rows.length) (fun i => rows.length - i) 0 (by simp) (by simp [echL]) ?_
  intro i hi
  refine S 12 _ _ ?_
  simp
  refine ⟨fun hlt => ?_, fun hge => ?_⟩
  · obtain ⟨r, hr⟩ : ∃ r, rows[i]? = some r := ⟨rows[i], List.getElem?_eq_getElem hlt⟩
    have hrow := hL r (List.mem_of_getElem? hr)
    have hb := both_all (n := n) hp (rows := rows.take i) fun q hq => hL q (List.take_subset _ _ hq)
    have hln := redL_len (p := p) (rows := rows.take i)
    have hst := echL_take (p := p) hr
    generalize echL p (rows.take i) = E at hb hst ⊢
    have hEl : E.length ≤ 1000000 := by rw [hb.2.1.length_eq]; simp at hln; omega
    have hE : Rws p n E := fun q hq => hb.1.rws q (hb.2.1.subset hq)
    have c1 := l01Rest_ok p n E r hp hn (by omega) hE hrow
    have r1 := less_row (n := n) (p := p) (L := E) (row := r) (by omega) (fun q hq => (hE q hq).1) hrow
    have c2 := l01Lead_ok (lessL p E r) (by rw [r1.1]; exact hn)
    have ht : echS p E r = if Led (lessL p E r) then insL (fun q => subR p q (nrm p (lessL p E r)) (gt q (leadN (lessL p E r)))) (nrm p (lessL p E r)) (leadN (lessL p E r)) E else E := rfl
    generalize lessL p E r = row1 at c1 c2 r1 ht
    refine S 60 _ _ ?_
    simp
    refine ⟨hlt, fun r' hr' => ?_⟩
    obtain rfl : r = r' := Option.some.inj (hr.symm.trans hr')
    refine CallW.ok (by decide) (by simp) c1 (by simp) (S 60 _ _ ?_)
    simp
    by_cases hld : Led row1
    · rw [led_leadZ hld] at c2
      rw [if_pos hld] at ht
      have hld' : leadN row1 < row1.length := hld
      have e1 := r1.1
      have g1 := gt_get hld'
      have g2 := gt_range (by omega) r1 (leadN row1)
      have g3 := gt_lead hld
      have c3 := l01Inverse_ok (gt row1 (leadN row1)) p hp g2.1 g2.2
      obtain ⟨_, v1, v2⟩ := inv_ok hp (n := gt row1 (leadN row1)) (by omega) g2.2
      obtain ⟨n1, n2, n3, _⟩ := nrm_ok hp r1 hld
      have hnt : ∀ i, i < row1.length → (nrm p row1).take (i + 1) = (nrm p row1).take i ++ [gt row1 i * invN (gt row1 (leadN row1)) p % p] := fun i hi => nrm_take hi
      generalize hwn : nrm p row1 = wn at ht n1 n2 n3 hnt
      generalize hvi : invN (gt row1 (leadN row1)) p = vi at c3 v1 v2 hnt
      have hp0 : p ≠ 0 := by omega
      rw [ht] at hst
      refine CallW.ok (by decide) (by simp) c2 (by simp) (S 60 _ _ ?_)
      simp
      refine ⟨fun h => absurd h (by omega), ⟨hld', fun a ha => ?_⟩⟩
      obtain rfl := Option.some.inj (g1.symm.trans ha)
      refine CallW.ok (by decide) (by simp) c3 (by simp) (S 60 _ _ ?_)
      simp
      refine J.loop hw (fun j : Nat => ⟨[(0, .c (.d (i64 p))), (1, .c (.d (vIntss rows))), (5, .c (.ob 64005)), (6, .c (.d (i64 i))), (7, .c (.ob 64007)), (8, .c (.d (i64 (leadN row1)))), (9, .c (.d (i64 vi))), (10, .c (.d (i64 j)))],
          [(64005, .arr 75 1 (E.map fun xs => [oInts xs])), (64007, .arr 2 1 (ints (wn.take j ++ row1.drop j)))]⟩)
        (fun j => j ≤ row1.length) (fun j => row1.length - j) 0 (by simp) (by simp) ?_
      intro j hj
      have hwl : (wn.take j).length = j := by rw [List.length_take, n1.1]; omega
      have hnt2 := hnt j
      generalize hcr : wn.take j ++ row1.drop j = cur
      have hcl : cur.length = row1.length := by rw [← hcr]; simp [n1.1]; omega
      refine S 12 _ _ ?_
      simp
      refine ⟨fun hlt2 => ?_, fun hge2 => ?_⟩
      · have q1 := gt_get (r := row1) (i := j) (by omega)
        have q2 := gt_range (by omega) r1 j
        have q3 := hnt2 (by omega)
        generalize gt row1 j = x at q1 q2 q3
        have m1 : 0 ≤ x * vi := Int.mul_nonneg q2.1 (by omega)
        have m2 : x * vi ≤ 13 * 13 := Int.mul_le_mul (by omega) (by omega) (by omega) (by omega)
        have w1 : IntKind.i64.wrap (x * vi) = x * vi := wrap64 (by omega) (by omega)
        have hmod : (x * vi).tmod p = x * vi % p := Int.tmod_eq_emod_of_nonneg m1
        have gc : cur[j]? = some x := by
          rw [← hcr, List.getElem?_append_right (by omega), hwl, Nat.sub_self, List.getElem?_drop]; simpa using q1
        have hs : cur.set j (x * vi % p) = wn.take (j + 1) ++ row1.drop (j + 1) := by
          rw [← hcr, List.set_append, if_neg (by omega), hwl, Nat.sub_self, q3, drop_cons q1]
          simp
        have hs2 : List.take (j + 1) (List.map (fun i => [D.v (Value.int IntKind.i64 i)]) wn) ++ List.drop (j + 1) (List.map (fun i => [D.v (Value.int IntKind.i64 i)]) row1) = (ints cur).set j [i64 (x * vi % p)] := by
          rw [← List.map_take, ← List.map_drop, ← List.map_append, ← hs, List.map_set]
        refine S 60 _ _ ?_
        simp
        refine ⟨by omega, fun x' hx' => ?_⟩
        obtain rfl : x = x' := Option.some.inj (gc.symm.trans hx')
        simp [w1, hmod, hp0]
        exact ⟨by omega, Nxt.mk (j + 1) (by omega) (by simp [wrapS (i := j) (n := row1.length) (by omega) (by omega), hs2]) (by omega)⟩
      · have e : cur = wn := by
          have hin : j = row1.length := by omega
          rw [← hcr, hin, List.drop_of_length_le (Nat.le_refl _), List.append_nil, List.take_of_length_le (by rw [n1.1]; omega)]
        subst e
        refine S 60 _ _ ?_
        simp
        clear hj hwl hnt2 hcr hcl hge2
        generalize hk : leadN row1 = k at hst n2 n3 S ⊢
        refine J.loop hw (fun q : Nat × List (List Int) × Bool => echSt p rows i E cur k q.1 q.2.1 q.2.2)
          (fun q => q.1 ≤ E.length ∧ q.2.1.length ≤ q.1 + (if q.2.2 then 1 else 0) ∧ q.2.1 ++ (if q.2.2 then (E.drop q.1).map (fun r => subR p r cur (gt r k)) else insL (fun r => subR p r cur (gt r k)) cur k (E.drop q.1)) = insL (fun r => subR p r cur (gt r k)) cur k E) (fun q => E.length - q.1) (0, [], false) (by simp) (by simp [echSt]) ?_
        rintro ⟨j, next, placed⟩ ⟨hj, hnl, hnx⟩
        simp only at hj hnl hnx
        simp only [echSt]
        cases placed with
        | false =>
          have hnl : next.length ≤ j := by simpa using hnl
          refine S 12 _ _ ?_
          simp
          refine ⟨fun hlt3 => ?_, fun hge3 => ?_⟩
          · obtain ⟨q, hq⟩ : ∃ q, E[j]? = some q := ⟨E[j], List.getElem?_eq_getElem hlt3⟩
            obtain ⟨b1, b2⟩ := hE q (List.mem_of_getElem? hq)
            have hql := b1.1
            have d1 := l01Lead_ok q (by rw [b1.1]; exact hn)
            rw [led_leadZ b2] at d1
            have hkq := gt_get (r := q) (i := k) (by rw [b1.1, ← e1]; omega)
            have hkr := gt_range (by omega) b1 k
            have d2 := l01Less_ok p n q cur (gt q k) hp hn b1 n1 hkr
            have hdr := drop_cons hq
            rw [hdr, if_neg (by simp), insL_cons] at hnx
            generalize hqs : subR p q cur (gt q k) = q' at d2 hnx
            generalize gt q k = c at hkq hkr d2
            refine S 60 _ _ ?_
            simp
            refine ⟨hlt3, fun q'' hq'' => ?_⟩
            obtain rfl : q = q'' := Option.some.inj (hq.symm.trans hq'')
            refine CallW.ok (by decide) (by simp) d1 (by simp) (S 5 _ _ ?_)
            simp
            refine ⟨fun hkl => ?_, fun hkl => ?_⟩
            · rw [if_pos hkl] at hnx
              refine S 60 _ _ ?_
              simp
              refine BsW.moveV hF (e := 75) (es := [[oInts cur]]) (ks := [64007]) (rt := 7) (K := 64007) (e1 := 2) (z1 := 1) (ys := ints cur) (by decide) rfl rfl rfl (by simp) (by simp) rfl (by decide) (by decide) (by simp) (by simp) (by simp) (by simp) (by decide) ?_
              refine S 4 _ _ ?_
              simp
              refine ⟨⟨by omega, by omega⟩, S 60 _ _ ?_⟩
              simp
              refine J.dr3 hF mixed 16 [[], [], [], [], [2, 3], [2, 3, 4], [], [], [], [7, 8], [7, 8, 9], [], [7, 8, 9, 10, 11], [7, 8, 9, 10, 11, 12], [1, 2, 3, 4, 5, 6, 7, 8, 9, 10, 11, 12, 13], [1, 2, 3, 4, 5, 6, 7, 8, 9, 10, 11, 12, 13, 14], [0, 1, 2, 3, 4, 5, 6, 7, 8, 9, 10, 11, 12, 13, 14, 15], [0, 1, 2, 3, 4, 5, 6, 7, 8, 9, 10, 11, 12, 13, 14, 15, 16]] [[77, 78, 79, 80, 81, 82, 83, 84, 85, 86, 87, 88, 89, 90, 91, 92], [77, 78, 79, 80, 81, 82, 83, 84, 85, 86, 87, 88, 89, 90, 91, 92], [77, 78, 79, 80, 81, 82, 83, 84, 85, 86, 87, 88, 89, 90, 91, 92], [77, 78, 79, 80, 81, 82, 83, 84, 85, 86, 87, 88, 89, 90, 91, 92], [77, 78, 81, 82, 83, 84, 85, 86, 87, 88, 89, 90, 91, 92], [77, 78, 82, 83, 84, 85, 86, 87, 88, 89, 90, 91, 92], [77, 78, 79, 80, 81, 82, 83, 84, 85, 86, 87, 88, 89, 90, 91, 92], [77, 78, 79, 80, 81, 82, 83, 84, 85, 86, 87, 88, 89, 90, 91, 92], [77, 78, 79, 80, 81, 82, 83, 84, 85, 86, 87, 88, 89, 90, 91, 92], [77, 78, 79, 80, 81, 82, 83, 86, 87, 88, 89, 90, 91, 92], [77, 78, 79, 80, 81, 82, 83, 87, 88, 89, 90, 91, 92], [77, 78, 79, 80, 81, 82, 83, 84, 85, 86, 87, 88, 89, 90, 91, 92], [77, 78, 79, 80, 81, 82, 83, 89, 90, 91, 92], [77, 78, 79, 80, 81, 82, 83, 90, 91, 92], [77, 91, 92], [77, 92]] [[], [], [], [], [], [], [], [], [], [], [], [], [], [], [], [5824]] [[5824], [], [], [], [], [], [], [], [], [], [], [], [], [], [], []] [] [] (by decide) ?_
              rw [← List.take_append_drop 6 (List.take _ _)]
              generalize htl : List.drop 6 (List.take _ _) = tl
              simp
              refine ⟨hlt3, fun q'' hq'' => ?_⟩
              obtain rfl : q = q'' := Option.some.inj (hq.symm.trans hq'')
              subst htl
              rw [← List.take_append_drop 5 (List.drop 6 _)]
              generalize htl : List.drop 5 (List.drop 6 _) = tl
              simp
              refine ⟨hlt3, fun q'' hq'' => ?_⟩
              obtain rfl : q = q'' := Option.some.inj (hq.symm.trans hq'')
              subst htl
              rw [← List.take_append_drop 3 (List.drop 5 (List.drop 6 _))]
              generalize htl : List.drop 3 (List.drop 5 (List.drop 6 _)) = tl
              simp
              refine ⟨by omega, fun c' hc' => ?_⟩
              obtain rfl : c = c' := Option.some.inj (hkq.symm.trans hc')
              subst htl
              simp
              refine DrC3.ok hF (by rfl) (by simp) d2 (by simp) (by simp) ?_
              simp
              refine DrB3.move hF (by rfl) (e := 75) (es := [[oInts q']]) (ks := [5824]) (by decide) rfl rfl rfl (by simp) (by simp) rfl (by decide) (by decide) (by simp) (by simp) ?_
              simp
              refine S 60 _ _ ?_
              simp
              refine ⟨⟨by omega, by omega⟩, ?_⟩
              exact Nxt.mk (j + 1, (next ++ [cur]) ++ [q'], true) (⟨hlt3, by simp; omega, by rw [← hnx]; simp⟩) (by simp [wrapS (i := j) (n := E.length) hlt3 (by omega)]) (by show E.length - (j + 1) < E.length - j; omega)
            · rw [if_neg (by omega)] at hnx
              refine S 4 _ _ ?_
              simp
              refine J.dr3 hF mixed 16 [[], [], [], [], [2, 3], [2, 3, 4], [], [], [], [7, 8], [7, 8, 9], [], [7, 8, 9, 10, 11], [7, 8, 9, 10, 11, 12], [1, 2, 3, 4, 5, 6, 7, 8, 9, 10, 11, 12, 13], [1, 2, 3, 4, 5, 6, 7, 8, 9, 10, 11, 12, 13, 14], [0, 1, 2, 3, 4, 5, 6, 7, 8, 9, 10, 11, 12, 13, 14, 15], [0, 1, 2, 3, 4, 5, 6, 7, 8, 9, 10, 11, 12, 13, 14, 15, 16]] [[77, 78, 79, 80, 81, 82, 83, 84, 85, 86, 87, 88, 89, 90, 91, 92], [77, 78, 79, 80, 81, 82, 83, 84, 85, 86, 87, 88, 89, 90, 91, 92], [77, 78, 79, 80, 81, 82, 83, 84, 85, 86, 87, 88, 89, 90, 91, 92], [77, 78, 79, 80, 81, 82, 83, 84, 85, 86, 87, 88, 89, 90, 91, 92], [77, 78, 81, 82, 83, 84, 85, 86, 87, 88, 89, 90, 91, 92], [77, 78, 82, 83, 84, 85, 86, 87, 88, 89, 90, 91, 92], [77, 78, 79, 80, 81, 82, 83, 84, 85, 86, 87, 88, 89, 90, 91, 92], [77, 78, 79, 80, 81, 82, 83, 84, 85, 86, 87, 88, 89, 90, 91, 92], [77, 78, 79, 80, 81, 82, 83, 84, 85, 86, 87, 88, 89, 90, 91, 92], [77, 78, 79, 80, 81, 82, 83, 86, 87, 88, 89, 90, 91, 92], [77, 78, 79, 80, 81, 82, 83, 87, 88, 89, 90, 91, 92], [77, 78, 79, 80, 81, 82, 83, 84, 85, 86, 87, 88, 89, 90, 91, 92], [77, 78, 79, 80, 81, 82, 83, 89, 90, 91, 92], [77, 78, 79, 80, 81, 82, 83, 90, 91, 92], [77, 91, 92], [77, 92]] [[], [], [], [], [], [], [], [], [], [], [], [], [], [], [], [5824]] [[5824], [], [], [], [], [], [], [], [], [], [], [], [], [], [], []] [] [] (by decide) ?_
              rw [← List.take_append_drop 6 (List.take _ _)]
              generalize htl : List.drop 6 (List.take _ _) = tl
              simp
              refine ⟨hlt3, fun q'' hq'' => ?_⟩
              obtain rfl : q = q'' := Option.some.inj (hq.symm.trans hq'')
              subst htl
              rw [← List.take_append_drop 5 (List.drop 6 _)]
              generalize htl : List.drop 5 (List.drop 6 _) = tl
              simp
              refine ⟨hlt3, fun q'' hq'' => ?_⟩
              obtain rfl : q = q'' := Option.some.inj (hq.symm.trans hq'')
              subst htl
              rw [← List.take_append_drop 3 (List.drop 5 (List.drop 6 _))]
              generalize htl : List.drop 3 (List.drop 5 (List.drop 6 _)) = tl
              simp
              refine ⟨by omega, fun c' hc' => ?_⟩
              obtain rfl : c = c' := Option.some.inj (hkq.symm.trans hc')
              subst htl
              simp
              refine DrC3.ok hF (by rfl) (by simp) d2 (by simp) (by simp) ?_
              simp
              refine DrB3.move hF (by rfl) (e := 75) (es := [[oInts q']]) (ks := [5824]) (by decide) rfl rfl rfl (by simp) (by simp) rfl (by decide) (by decide) (by simp) (by simp) ?_
              simp
              refine S 60 _ _ ?_
              simp
              refine ⟨⟨by omega, by omega⟩, ?_⟩
              exact Nxt.mk (j + 1, next ++ [q'], false) (⟨hlt3, by simp; omega, by rw [← hnx]; simp⟩) (by simp [wrapS (i := j) (n := E.length) hlt3 (by omega)]) (by show E.length - (j + 1) < E.length - j; omega)
          · have hnil : E.drop j = [] := List.drop_eq_nil_of_le hge3
            rw [hnil, if_neg (by simp)] at hnx
            have hnx : next ++ [cur] = _ := hnx
            rw [← hnx] at hst
            refine S 60 _ _ ?_
            simp
            refine BsW.move hF (e := 75) (es := [[oInts cur]]) (ks := [64007]) (by decide) rfl rfl rfl (by simp) (by simp) rfl (by decide) (by decide) (by simp) ?_
            refine S 60 _ _ ?_
            simp
            refine ⟨⟨by omega, by omega⟩, ?_⟩
            exact Nxt.mk (i + 1) hlt (by simp [wrapS (i := i) (n := rows.length) hlt (by omega), hst]) (by omega)
        | true =>
          have hnl : next.length ≤ j + 1 := by simpa using hnl
          refine S 12 _ _ ?_
          simp
          refine ⟨fun hlt3 => ?_, fun hge3 => ?_⟩
          · obtain ⟨q, hq⟩ : ∃ q, E[j]? = some q := ⟨E[j], List.getElem?_eq_getElem hlt3⟩
            obtain ⟨b1, b2⟩ := hE q (List.mem_of_getElem? hq)
            have hql := b1.1
            have hkq := gt_get (r := q) (i := k) (by rw [b1.1, ← e1]; omega)
            have hkr := gt_range (by omega) b1 k
            have d2 := l01Less_ok p n q cur (gt q k) hp hn b1 n1 hkr
            have hdr := drop_cons hq
            rw [hdr, if_pos rfl, List.map_cons] at hnx
            generalize hqs : subR p q cur (gt q k) = q' at d2 hnx
            generalize gt q k = c at hkq hkr d2
            refine S 60 _ _ ?_
            simp
            refine J.dr3 hF mixed 16 [[], [], [], [], [2, 3], [2, 3, 4], [], [], [], [7, 8], [7, 8, 9], [], [7, 8, 9, 10, 11], [7, 8, 9, 10, 11, 12], [1, 2, 3, 4, 5, 6, 7, 8, 9, 10, 11, 12, 13], [1, 2, 3, 4, 5, 6, 7, 8, 9, 10, 11, 12, 13, 14], [0, 1, 2, 3, 4, 5, 6, 7, 8, 9, 10, 11, 12, 13, 14, 15], [0, 1, 2, 3, 4, 5, 6, 7, 8, 9, 10, 11, 12, 13, 14, 15, 16]] [[77, 78, 79, 80, 81, 82, 83, 84, 85, 86, 87, 88, 89, 90, 91, 92], [77, 78, 79, 80, 81, 82, 83, 84, 85, 86, 87, 88, 89, 90, 91, 92], [77, 78, 79, 80, 81, 82, 83, 84, 85, 86, 87, 88, 89, 90, 91, 92], [77, 78, 79, 80, 81, 82, 83, 84, 85, 86, 87, 88, 89, 90, 91, 92], [77, 78, 81, 82, 83, 84, 85, 86, 87, 88, 89, 90, 91, 92], [77, 78, 82, 83, 84, 85, 86, 87, 88, 89, 90, 91, 92], [77, 78, 79, 80, 81, 82, 83, 84, 85, 86, 87, 88, 89, 90, 91, 92], [77, 78, 79, 80, 81, 82, 83, 84, 85, 86, 87, 88, 89, 90, 91, 92], [77, 78, 79, 80, 81, 82, 83, 84, 85, 86, 87, 88, 89, 90, 91, 92], [77, 78, 79, 80, 81, 82, 83, 86, 87, 88, 89, 90, 91, 92], [77, 78, 79, 80, 81, 82, 83, 87, 88, 89, 90, 91, 92], [77, 78, 79, 80, 81, 82, 83, 84, 85, 86, 87, 88, 89, 90, 91, 92], [77, 78, 79, 80, 81, 82, 83, 89, 90, 91, 92], [77, 78, 79, 80, 81, 82, 83, 90, 91, 92], [77, 91, 92], [77, 92]] [[], [], [], [], [], [], [], [], [], [], [], [], [], [], [], [5824]] [[5824], [], [], [], [], [], [], [], [], [], [], [], [], [], [], []] [] [] (by decide) ?_
            rw [← List.take_append_drop 6 (List.take _ _)]
            generalize htl : List.drop 6 (List.take _ _) = tl
            simp
            refine ⟨hlt3, fun q'' hq'' => ?_⟩
            obtain rfl : q = q'' := Option.some.inj (hq.symm.trans hq'')
            subst htl
            rw [← List.take_append_drop 5 (List.drop 6 _)]
            generalize htl : List.drop 5 (List.drop 6 _) = tl
            simp
            refine ⟨hlt3, fun q'' hq'' => ?_⟩
            obtain rfl : q = q'' := Option.some.inj (hq.symm.trans hq'')
            subst htl
            rw [← List.take_append_drop 3 (List.drop 5 (List.drop 6 _))]
            generalize htl : List.drop 3 (List.drop 5 (List.drop 6 _)) = tl
            simp
            refine ⟨by omega, fun c' hc' => ?_⟩
            obtain rfl : c = c' := Option.some.inj (hkq.symm.trans hc')
            subst htl
            simp
            refine DrC3.ok hF (by rfl) (by simp) d2 (by simp) (by simp) ?_
            simp
            refine DrB3.move hF (by rfl) (e := 75) (es := [[oInts q']]) (ks := [5824]) (by decide) rfl rfl rfl (by simp) (by simp) rfl (by decide) (by decide) (by simp) (by simp) ?_
            simp
            refine S 60 _ _ ?_
            simp
            refine ⟨⟨by omega, by omega⟩, ?_⟩
            exact Nxt.mk (j + 1, next ++ [q'], true) (⟨hlt3, by simp; omega, by rw [← hnx]; simp⟩) (by simp [wrapS (i := j) (n := E.length) hlt3 (by omega)]) (by show E.length - (j + 1) < E.length - j; omega)
          · have hnil : E.drop j = [] := List.drop_eq_nil_of_le hge3
            rw [hnil, if_pos rfl, List.map_nil, List.append_nil] at hnx
            subst hnx
            refine S 60 _ _ ?_
            simp
            exact Nxt.mk (i + 1) hlt (by simp [wrapS (i := i) (n := rows.length) hlt (by omega), hst]) (by omega)
    · have h0 : leadZ row1 = -1 := if_neg hld
      rw [h0] at c2
      rw [if_neg hld] at ht
      rw [ht] at hst
      refine CallW.ok (by decide) (by simp) c2 (by simp) (S 60 _ _ ?_)
      simp
      exact Nxt.mk (i + 1) hlt (by simp [wrapS (i := i) (n := rows.length) hlt (by omega), hst]) (by omega)
  · have e : rows.take i = rows := List.take_of_length_le hge
    rw [e]
    refine S 60 _ _ ?_
    simp

end Go.Sm

namespace Go.Sm
open Go.RowKit

theorem isLength_ok (n : Int) : CallOK Go.Proofs.Tryz.prog 86 [.one (i64 n)] (.one (bo (decide (1 ≤ n ∧ n ≤ 10)))) := by
  have hF := fnOk 9 [.tmp 2]
  refine callOK hF 60 Go.Proofs.Tryz.func86 rfl rfl rfl (by decide) (by simp) rfl ?_
  intro w0 hw
  have S := @vc_sound w0 _ hF ⟨(.one (bo (decide (1 ≤ n ∧ n ≤ 10)))), []⟩ Go.Proofs.Tryz.f86 rfl (by simp)
  simp
  refine ⟨fun h => ?_, fun h => ?_⟩
  · simp [h]
  · have : ¬ 1 ≤ n := by omega
    simp [this]

theorem sameInts_ok (xs ys : List Int) (hl : xs.length ≤ 2000000) : CallOK Go.Proofs.Tryz.prog 46 [.one (vInts xs), .one (vInts ys)] (.one (bo (decide (xs = ys)))) := by
  have hF := fnOk 26 [.tmp 4]
  refine callOK hF 60 Go.Proofs.Tryz.func46 rfl rfl rfl (by decide) (by simp) rfl ?_
  intro w0 hw
  have S := @vc_sound w0 _ hF ⟨(.one (bo (decide (xs = ys)))), []⟩ Go.Proofs.Tryz.f46 rfl (by simp)
  simp
  refine ⟨fun hne e => hne (by rw [e]), fun he => ?_⟩
  refine J.loop hw (fun i : Nat => ⟨[(0, .c (.d (vInts xs))), (1, .c (.d (vInts ys))), (12, .c (.d (i64 xs.length))), (13, .c (.d (i64 i)))], []⟩)
    (fun i => i ≤ xs.length ∧ xs.take i = ys.take i) (fun i => xs.length - i) 0 (by simp) (by simp) ?_
  rintro i ⟨hi, ht⟩
  refine S 8 _ _ ?_
  simp
  refine ⟨fun hlt => ?_, fun hge => ?_⟩
  · refine S 60 _ _ ?_
    simp
    obtain ⟨a, ha⟩ : ∃ a, xs[i]? = some a := ⟨xs[i], List.getElem?_eq_getElem hlt⟩
    obtain ⟨b, hb⟩ : ∃ b, ys[i]? = some b := ⟨ys[i]'(by omega), List.getElem?_eq_getElem (by omega)⟩
    refine J.dr hF mixed 8 [[], [], [0, 1], [0, 1, 2], [], [], [4, 5], [4, 5, 6], [0, 1, 2, 3, 4, 5, 6, 7]] [[16, 17, 18, 19, 20, 21, 22, 23], [16, 17, 18, 19, 20, 21, 22, 23], [18, 19, 20, 21, 22, 23], [19, 20, 21, 22, 23], [16, 17, 18, 19, 20, 21, 22, 23], [16, 17, 18, 19, 20, 21, 22, 23], [16, 17, 18, 19, 22, 23], [16, 17, 18, 19, 23]] (by decide) ?_
    rw [← List.take_append_drop 4 (List.take _ _)]
    generalize htl : List.drop 4 (List.take _ _) = tl
    simp
    refine ⟨hlt, fun a' ha' => ?_⟩
    obtain rfl : a = a' := Option.some.inj (ha.symm.trans ha')
    subst htl
    simp
    refine ⟨by omega, fun b' hb' => ?_⟩
    obtain rfl : b = b' := Option.some.inj (hb.symm.trans hb')
    refine S 60 _ _ ?_
    simp
    refine ⟨fun hne e => ?_, fun h1 => ?_⟩
    · subst e
      rw [ha] at hb
      exact hne (Option.some.inj hb)
    · subst h1
      refine Nxt.mk (i + 1) ⟨hlt, ?_⟩ (by simp [wrapS (i := i) (n := xs.length) hlt (by omega)]) (by omega)
      rw [List.take_add_one, List.take_add_one, ht, ha, hb]
  · refine S 60 _ _ ?_
    simp
    have h1 : xs = xs.take i := by rw [List.take_of_length_le (by omega)]
    have h2 : ys = ys.take i := by rw [List.take_of_length_le (by omega)]
    rw [h1, h2, ht]

theorem sameRows_ok (L M : List (List Int)) (hl : L.length ≤ 2000000) (hr : ∀ r ∈ L, r.length ≤ 2000000) : CallOK Go.Proofs.Tryz.prog 88 [.one (vIntss L), .one (vIntss M), .one (fnD 46)] (.one (bo (decide (L = M)))) := by
  have hF := fnOk 32 [.tmp 6]
  refine callOK hF 60 Go.Proofs.Tryz.func88 rfl rfl rfl (by decide) (by simp) rfl ?_
  intro w0 hw
  have S := @vc_sound w0 _ hF ⟨(.one (bo (decide (L = M)))), []⟩ Go.Proofs.Tryz.f88 rfl (by simp)
  simp
  refine ⟨fun hne e => hne (by rw [e]), fun he => ?_⟩
  refine J.loop hw (fun i : Nat => ⟨[(1, .c (.d (vIntss M))), (2, .c (.d (fnD 46))), (15, .c (.d (vIntss L))), (16, .c (.d (i64 L.length))), (17, .c (.d (i64 i)))], []⟩)
    (fun i => i ≤ L.length ∧ L.take i = M.take i) (fun i => L.length - i) 0 (by simp) (by simp) ?_
  rintro i ⟨hi, ht⟩
  refine S 8 _ _ ?_
  simp
  refine ⟨fun hlt => ?_, fun hge => ?_⟩
  · obtain ⟨a, ha⟩ : ∃ a, L[i]? = some a := ⟨L[i], List.getElem?_eq_getElem hlt⟩
    obtain ⟨b, hb⟩ : ∃ b, M[i]? = some b := ⟨M[i]'(by omega), List.getElem?_eq_getElem (by omega)⟩
    have c1 := sameInts_ok a b (hr a (List.mem_of_getElem? ha))
    refine S 7 _ _ ?_
    simp
    refine ⟨hlt, fun a' ha' => ?_⟩
    obtain rfl : a = a' := Option.some.inj (ha.symm.trans ha')
    refine S 60 _ _ ?_
    simp
    refine ⟨by omega, fun b' hb' => ?_⟩
    obtain rfl : b = b' := Option.some.inj (hb.symm.trans hb')
    by_cases hab : a = b
    · rw [decide_eq_true hab] at c1
      refine CallW.ok (by decide) (by simp) c1 (by simp) (S 60 _ _ ?_)
      simp
      refine Nxt.mk (i + 1) ⟨hlt, ?_⟩ (by simp [wrapS (i := i) (n := L.length) hlt (by omega)]) (by omega)
      rw [List.take_add_one, List.take_add_one, ht, ha, hb, hab]
    · rw [decide_eq_false hab] at c1
      refine CallW.ok (by decide) (by simp) c1 (by simp) (S 60 _ _ ?_)
      simp
      intro e
      rw [e, hb] at ha
      exact hab (Option.some.inj ha.symm)
  · refine S 60 _ _ ?_
    simp
    have h1 : L = L.take i := by rw [List.take_of_length_le (by omega)]
    have h2 : M = M.take i := by rw [List.take_of_length_le (by omega)]
    rw [h1, h2, ht]

/-- What is asked of one row. -/
def RowP (p l : Int) (r : List Int) : Prop := (r.length : Int) = l ∧ ∀ x ∈ r, 0 ≤ x ∧ x < p
instance (p l : Int) (r : List Int) : Decidable (RowP p l r) := by unfold RowP; infer_instance
def GoodRows (p l : Int) (rows : List (List Int)) : Prop := (Pr p ∧ 1 ≤ l ∧ l ≤ 10) ∧ ∀ r ∈ rows, RowP p l r
instance (p l : Int) (rows : List (List Int)) : Decidable (GoodRows p l rows) := by unfold GoodRows; infer_instance

theorem areRows_ok (p l : Int) (rows : List (List Int)) (hl : rows.length ≤ 1048576) (hr : ∀ r ∈ rows, r.length ≤ 1048576) : CallOK Go.Proofs.Tryz.prog 87 [.one (i64 p), .one (i64 l), .one (vIntss rows)] (.one (bo (decide (rows.length ≤ 100 ∧ ∀ r ∈ rows, RowP p l r)))) := by
  have hF := fnOk 29 [.tmp 6]
  refine callOK hF 60 Go.Proofs.Tryz.func87 rfl rfl rfl (by decide) (by simp) rfl ?_
  intro w0 hw
  have S := @vc_sound w0 _ hF ⟨(.one (bo (decide (rows.length ≤ 100 ∧ ∀ r ∈ rows, RowP p l r)))), []⟩ Go.Proofs.Tryz.f87 rfl (by simp)
  generalize hb : decide (rows.length ≤ 100 ∧ ∀ r ∈ rows, RowP p l r) = b at S ⊢
  simp
  refine ⟨fun h => ?_, fun h => ?_⟩
  · rw [← hb]; simp; omega
  · have hbad : ∀ r ∈ rows, ¬ RowP p l r → b = false := fun r hr' hn => by
      rw [← hb]; simp; intro _; exact ⟨r, hr', hn⟩
    refine J.loop hw (fun i : Nat => ⟨[(0, .c (.d (i64 p))), (1, .c (.d (i64 l))), (12, .c (.d (vIntss rows))), (13, .c (.d (i64 rows.length))), (14, .c (.d (i64 i)))], []⟩)
      (fun i => i ≤ rows.length ∧ ∀ r ∈ rows.take i, RowP p l r) (fun i => rows.length - i) 0 (by simp) (by simp) ?_
    rintro i ⟨hi, hall⟩
    refine S 8 _ _ ?_
    simp
    refine ⟨fun hlt => ?_, fun hge => ?_⟩
    · obtain ⟨r, hr'⟩ : ∃ r, rows[i]? = some r := ⟨rows[i], List.getElem?_eq_getElem hlt⟩
      have hm := List.mem_of_getElem? hr'
      have c1 := field_ok p r (hr r hm)
      have hbr := hbad r hm
      refine S 7 _ _ ?_
      simp
      refine ⟨hlt, fun r'' hr'' => ?_⟩
      obtain rfl : r = r'' := Option.some.inj (hr'.symm.trans hr'')
      refine S 60 _ _ ?_
      simp
      refine ⟨fun hle => ?_, fun hne => hbr fun hq => hne hq.1⟩
      by_cases hf : ∀ x ∈ r, 0 ≤ x ∧ x < p
      · rw [decide_eq_true hf] at c1
        refine CallW.ok (by decide) (by simp) c1 (by simp) (S 60 _ _ ?_)
        simp
        refine Nxt.mk (i + 1) ⟨hlt, fun q hq => ?_⟩ (by simp [wrapS (i := i) (n := rows.length) hlt (by omega)]) (by omega)
        rw [List.take_add_one, hr'] at hq
        simp only [Option.toList, List.mem_append, List.mem_singleton] at hq
        rcases hq with h | rfl
        · exact hall q h
        · exact ⟨hle, hf⟩
      · rw [decide_eq_false hf] at c1
        refine CallW.ok (by decide) (by simp) c1 (by simp) (S 60 _ _ ?_)
        simp
        exact hbr fun hq => hf hq.2
    · refine S 60 _ _ ?_
      simp
      rw [← hb]
      simp
      rw [List.take_of_length_le (by omega)] at hall
      exact ⟨by omega, hall⟩

theorem l10Numbers_ok (p l : Int) (r : List Int) (hr : r.length ≤ 1048576) : CallOK Go.Proofs.Tryz.prog 124 [.one (i64 p), .one (i64 l), .one (vInts r)] (.one (bo (decide ((r.length : Int) = l ∧ ∀ x ∈ r, 0 ≤ x ∧ x ≤ IntKind.i64.wrap (p - 1))))) := by
  have hF := fnOk 26 [.tmp 6]
  refine callOK hF 60 Go.Proofs.Tryz.func124 rfl rfl rfl (by decide) (by simp) rfl ?_
  intro w0 hw
  have S := @vc_sound w0 _ hF ⟨(.one (bo (decide ((r.length : Int) = l ∧ ∀ x ∈ r, 0 ≤ x ∧ x ≤ IntKind.i64.wrap (p - 1))))), []⟩ Go.Proofs.Tryz.f124 rfl (by simp)
  generalize hb : decide ((r.length : Int) = l ∧ ∀ x ∈ r, 0 ≤ x ∧ x ≤ IntKind.i64.wrap (p - 1)) = b at S ⊢
  simp
  have hbad : ∀ x ∈ r, ¬ (0 ≤ x ∧ x ≤ IntKind.i64.wrap (p - 1)) → b = false := fun x hx hn => by
    rw [← hb]; simp only [decide_eq_false_iff_not]; intro h; exact hn (h.2 x hx)
  refine J.loop hw (fun i : Nat => ⟨[(0, .c (.d (i64 p))), (1, .c (.d (i64 l))), (2, .c (.d (vInts r))), (7, .c (.d (i64 i)))], []⟩)
    (fun i => i ≤ r.length ∧ ∀ x ∈ r.take i, 0 ≤ x ∧ x ≤ IntKind.i64.wrap (p - 1)) (fun i => r.length - i) 0 (by simp) (by simp) ?_
  rintro i ⟨hi, hall⟩
  refine S 12 _ _ ?_
  simp
  refine ⟨fun hlt => ?_, fun hge => ?_⟩
  · obtain ⟨x, hx⟩ : ∃ x, r[i]? = some x := ⟨r[i], List.getElem?_eq_getElem hlt⟩
    have hbx := hbad x (List.mem_of_getElem? hx)
    have c1 := l01In_ok x 0 (IntKind.i64.wrap (p - 1))
    refine S 60 _ _ ?_
    simp
    refine ⟨hlt, fun x' hx' => ?_⟩
    obtain rfl : x = x' := Option.some.inj (hx.symm.trans hx')
    by_cases hf : 0 ≤ x ∧ x ≤ IntKind.i64.wrap (p - 1)
    · rw [decide_eq_true hf] at c1
      refine CallW.ok (by decide) (by simp) c1 (by simp) (S 60 _ _ ?_)
      simp
      refine Nxt.mk (i + 1) ⟨hlt, fun q hq => ?_⟩ (by simp [wrapS (i := i) (n := r.length) hlt (by omega)]) (by omega)
      rw [List.take_add_one, hx] at hq
      simp only [Option.toList, List.mem_append, List.mem_singleton] at hq
      rcases hq with h | rfl
      · exact hall q h
      · exact hf
    · rw [decide_eq_false hf] at c1
      refine CallW.ok (by decide) (by simp) c1 (by simp) (S 60 _ _ ?_)
      simp
      exact hbx hf
  · rw [List.take_of_length_le (by omega)] at hall
    refine S 60 _ _ ?_
    simp
    rw [← hb]
    by_cases h : (r.length : Int) = l
    · have e : ((r.length : Int) == l) = true := by simpa using h
      rw [e]
      exact (decide_eq_true ⟨h, hall⟩).symm
    · have e : ((r.length : Int) == l) = false := by simpa using h
      rw [e]
      exact (decide_eq_false fun hq => h hq.1).symm

theorem l10Rows_ok (p l : Int) (rows : List (List Int)) (hl : rows.length ≤ 4611686018427387900) (hr : ∀ r ∈ rows, r.length ≤ 1048576) : CallOK Go.Proofs.Tryz.prog 73 [.one (i64 p), .one (i64 l), .one (vIntss rows)] (.one (bo (decide (GoodRows p l rows)))) := by
  have hF := fnOk 28 [.tmp 6]
  refine callOK hF 60 Go.Proofs.Tryz.func73 rfl rfl rfl (by decide) (by simp) rfl ?_
  intro w0 hw
  have S := @vc_sound w0 _ hF ⟨(.one (bo (decide (GoodRows p l rows)))), []⟩ Go.Proofs.Tryz.f73 rfl (by simp)
  generalize hb : decide (GoodRows p l rows) = b at S ⊢
  have hbad : ∀ r ∈ rows, ¬ ((r.length : Int) = l ∧ ∀ x ∈ r, 0 ≤ x ∧ x ≤ IntKind.i64.wrap (p - 1)) → b = false := fun r hm hn => by
    rw [← hb]; simp only [decide_eq_false_iff_not]
    rintro ⟨⟨hp, h1, h2⟩, hall⟩
    have hpp := prPos hp
    have hw1 : IntKind.i64.wrap (p - 1) = p - 1 := wrap64 (by omega) (by omega)
    rw [hw1] at hn
    obtain ⟨h3, h4⟩ := hall r hm
    exact hn ⟨h3, fun x hx => by have := h4 x hx; omega⟩
  have c2 := l01Prime_ok p
  have c3 := l01In_ok l 1 10
  simp
  refine J.loop hw (fun i : Nat => ⟨[(0, .c (.d (i64 p))), (1, .c (.d (i64 l))), (2, .c (.d (vIntss rows))), (7, .c (.d (i64 i)))], []⟩)
    (fun i => i ≤ rows.length ∧ ∀ r ∈ rows.take i, ((r.length : Int) = l ∧ ∀ x ∈ r, 0 ≤ x ∧ x ≤ IntKind.i64.wrap (p - 1))) (fun i => rows.length - i) 0 (by simp) (by simp) ?_
  rintro i ⟨hi, hall⟩
  refine S 12 _ _ ?_
  simp
  refine ⟨fun hlt => ?_, fun hge => ?_⟩
  · obtain ⟨r, hr'⟩ : ∃ r, rows[i]? = some r := ⟨rows[i], List.getElem?_eq_getElem hlt⟩
    have hm := List.mem_of_getElem? hr'
    have c1 := l10Numbers_ok p l r (hr r hm)
    have hbr := hbad r hm
    generalize hP : ((r.length : Int) = l ∧ ∀ x ∈ r, 0 ≤ x ∧ x ≤ IntKind.i64.wrap (p - 1)) = P at hbr
    refine S 60 _ _ ?_
    simp
    refine ⟨hlt, fun r'' hr'' => ?_⟩
    obtain rfl : r = r'' := Option.some.inj (hr'.symm.trans hr'')
    by_cases hf : ((r.length : Int) = l ∧ ∀ x ∈ r, 0 ≤ x ∧ x ≤ IntKind.i64.wrap (p - 1))
    · rw [decide_eq_true hf] at c1
      refine CallW.ok (by decide) (by simp) c1 (by simp) (S 60 _ _ ?_)
      simp
      refine Nxt.mk (i + 1) ⟨hlt, fun q hq => ?_⟩ (by simp [wrapS (i := i) (n := rows.length) hlt (by omega)]) (by omega)
      rw [List.take_add_one, hr'] at hq
      simp only [Option.toList, List.mem_append, List.mem_singleton] at hq
      rcases hq with h | rfl
      · exact hall q h
      · exact hf
    · rw [decide_eq_false hf] at c1
      have := hbr (by rw [← hP]; exact hf)
      refine CallW.ok (by decide) (by simp) c1 (by simp) (S 60 _ _ ?_)
      simp [this]
  · rw [List.take_of_length_le (by omega)] at hall
    refine S 60 _ _ ?_
    simp
    by_cases hp : Pr p
    · rw [decide_eq_true hp] at c2
      have hpp := prPos hp
      have hw1 : IntKind.i64.wrap (p - 1) = p - 1 := wrap64 (by omega) (by omega)
      rw [hw1] at hall
      refine CallW.ok (by decide) (by simp) c2 (by simp) (S 60 _ _ ?_)
      simp
      have e : decide (1 ≤ l ∧ l ≤ 10) = b := by
        rw [← hb]
        exact decide_eq_decide.2 ⟨fun h => ⟨⟨hp, h⟩, fun r hm => ⟨(hall r hm).1, fun x hx => by have := (hall r hm).2 x hx; omega⟩⟩, fun h => h.1.2⟩
      rw [e] at c3
      refine CallW.ok (by decide) (by simp) c3 (by simp) (S 60 _ _ ?_)
      simp
    · rw [decide_eq_false hp] at c2
      have e : b = false := by rw [← hb]; exact decide_eq_false fun h => hp h.1.1
      refine CallW.ok (by decide) (by simp) c2 (by simp) (S 60 _ _ ?_)
      simp [e]

/-- A code, as a result and as an argument. -/
theorem GoodRows.rows {p l : Int} {rows : List (List Int)} (h : GoodRows p l rows) : ∀ r ∈ rows, RowOk p l.toNat r := fun r hr => ⟨by have := (h.2 r hr).1; omega, (h.2 r hr).2⟩

theorem ech_facts {p : Int} {n : Nat} (hp : Pr p) {rows : List (List Int)} (h : ∀ r ∈ rows, RowOk p n r) : (echL p rows).length ≤ rows.length ∧ ∀ r ∈ echL p rows, RowOk p n r := by
  have hb := both_all hp h
  exact ⟨by rw [hb.2.1.length_eq]; exact redL_len, fun r hr => (hb.1.rws r (hb.2.1.subset hr)).1⟩

end Go.Sm

namespace Go.Sm
open Go.RowKit

/-- The order of lists of one length. -/
def cmpI : List Int → List Int → Int
  | x :: xs, y :: ys => if x < y then -1 else if y < x then 1 else cmpI xs ys
  | _, _ => 0
theorem cmpI_zero : ∀ {xs ys : List Int}, xs.length = ys.length → (cmpI xs ys = 0 ↔ xs = ys)
  | [], [], _ => by simp [cmpI]
  | [], _ :: _, h => by simp at h
  | _ :: _, [], h => by simp at h
  | x :: xs, y :: ys, h => by
    have ih := cmpI_zero (xs := xs) (ys := ys) (by simpa using h)
    unfold cmpI
    by_cases h1 : x < y
    · simp [h1]; omega
    · by_cases h2 : y < x
      · simp [h1, h2]; omega
      · have : x = y := by omega
        subst this
        simp [ih]
theorem cmpI_drop {xs ys : List Int} {i : Nat} {x y : Int} (hx : xs[i]? = some x) (hy : ys[i]? = some y) : cmpI (xs.drop i) (ys.drop i) = if x < y then -1 else if y < x then 1 else cmpI (xs.drop (i + 1)) (ys.drop (i + 1)) := by
  rw [drop_cons hx, drop_cons hy]; rfl

theorem l02Compare_ok (xs ys : List Int) (hl : xs.length ≤ 1048576) (hle : xs.length ≤ ys.length) : CallOK Go.Proofs.Tryz.prog 125 [.one (vInts xs), .one (vInts ys)] (.one (i64 (cmpI xs ys))) := by
  have hF := fnOk 32 [.tmp 4]
  refine callOK hF 60 Go.Proofs.Tryz.func125 rfl rfl rfl (by decide) (by simp) rfl ?_
  intro w0 hw
  have S := @vc_sound w0 _ hF ⟨(.one (i64 (cmpI xs ys))), []⟩ Go.Proofs.Tryz.f125 rfl (by simp)
  generalize hc : cmpI xs ys = c at S ⊢
  simp
  refine J.loop hw (fun i : Nat => ⟨[(0, .c (.d (vInts xs))), (1, .c (.d (vInts ys))), (5, .c (.d (i64 i)))], []⟩)
    (fun i => i ≤ xs.length ∧ cmpI (xs.drop i) (ys.drop i) = c) (fun i => xs.length - i) 0 ⟨by omega, by simpa using hc⟩ (by simp) ?_
  rintro i ⟨hi, hd⟩
  refine S 12 _ _ ?_
  simp
  refine ⟨fun hlt => ?_, fun hge => ?_⟩
  · obtain ⟨x, hx⟩ : ∃ x, xs[i]? = some x := ⟨xs[i], List.getElem?_eq_getElem hlt⟩
    obtain ⟨y, hy⟩ : ∃ y, ys[i]? = some y := ⟨ys[i]'(by omega), List.getElem?_eq_getElem (by omega)⟩
    rw [cmpI_drop hx hy] at hd
    refine S 60 _ _ ?_
    simp
    refine J.dr hF mixed 8 [[], [], [0, 1], [0, 1, 2], [], [], [4, 5], [4, 5, 6], [0, 1, 2, 3, 4, 5, 6, 7], [0, 1, 2, 3, 4, 5, 6, 7, 8]] [[13, 14, 15, 16, 17, 18, 19, 20], [13, 14, 15, 16, 17, 18, 19, 20], [15, 16, 17, 18, 19, 20], [16, 17, 18, 19, 20], [13, 14, 15, 16, 17, 18, 19, 20], [13, 14, 15, 16, 17, 18, 19, 20], [13, 14, 15, 16, 19, 20], [13, 14, 15, 16, 20]] (by decide) ?_
    rw [← List.take_append_drop 4 (List.take _ _)]
    generalize htl : List.drop 4 (List.take _ _) = tl
    simp
    refine ⟨hlt, fun x' hx' => ?_⟩
    obtain rfl : x = x' := Option.some.inj (hx.symm.trans hx')
    subst htl
    simp
    refine ⟨by omega, fun y' hy' => ?_⟩
    obtain rfl : y = y' := Option.some.inj (hy.symm.trans hy')
    refine S 60 _ _ ?_
    simp
    refine ⟨fun h1 => ?_, fun h1 => ?_⟩
    · rw [if_pos h1] at hd; exact hd
    · rw [if_neg (by omega)] at hd
      refine J.dr hF mixed 8 [[], [], [0, 1], [0, 1, 2], [], [], [4, 5], [4, 5, 6], [0, 1, 2, 3, 4, 5, 6, 7], [0, 1, 2, 3, 4, 5, 6, 7, 8]] [[23, 24, 25, 26, 27, 28, 29, 30], [23, 24, 25, 26, 27, 28, 29, 30], [25, 26, 27, 28, 29, 30], [26, 27, 28, 29, 30], [23, 24, 25, 26, 27, 28, 29, 30], [23, 24, 25, 26, 27, 28, 29, 30], [23, 24, 25, 26, 29, 30], [23, 24, 25, 26, 30]] (by decide) ?_
      rw [← List.take_append_drop 4 (List.take _ _)]
      generalize htl : List.drop 4 (List.take _ _) = tl
      simp
      refine ⟨hlt, fun x' hx' => ?_⟩
      obtain rfl : x = x' := Option.some.inj (hx.symm.trans hx')
      subst htl
      simp
      refine ⟨by omega, fun y' hy' => ?_⟩
      obtain rfl : y = y' := Option.some.inj (hy.symm.trans hy')
      refine S 60 _ _ ?_
      simp
      refine ⟨fun h2 => ?_, fun h2 => ?_⟩
      · rw [if_pos h2] at hd; exact hd
      · rw [if_neg (by omega)] at hd
        exact Nxt.mk (i + 1) ⟨hlt, hd⟩ (by simp [wrapS (i := i) (n := xs.length) hlt (by omega)]) (by omega)
  · refine S 60 _ _ ?_
    simp
    rw [← hd, List.drop_of_length_le (by omega)]
    simp [cmpI]

theorem l10Same_ok (n : Nat) (L M : List (List Int)) (hn : n ≤ 1048576) (hl : L.length ≤ 2000000) (h1 : ∀ r ∈ L, r.length = n) (h2 : ∀ r ∈ M, r.length = n) : CallOK Go.Proofs.Tryz.prog 74 [.one (vIntss L), .one (vIntss M)] (.one (bo (decide (L = M)))) := by
  have hF := fnOk 27 [.tmp 4]
  refine callOK hF 60 Go.Proofs.Tryz.func74 rfl rfl rfl (by decide) (by simp) rfl ?_
  intro w0 hw
  have S := @vc_sound w0 _ hF ⟨(.one (bo (decide (L = M)))), []⟩ Go.Proofs.Tryz.f74 rfl (by simp)
  simp
  refine ⟨fun hne e => hne (by rw [e]), fun he => ?_⟩
  refine J.loop hw (fun i : Nat => ⟨[(0, .c (.d (vIntss L))), (1, .c (.d (vIntss M))), (5, .c (.d (i64 i)))], []⟩)
    (fun i => i ≤ L.length ∧ L.take i = M.take i) (fun i => L.length - i) 0 (by simp) (by simp) ?_
  rintro i ⟨hi, ht⟩
  refine S 12 _ _ ?_
  simp
  refine ⟨fun hlt => ?_, fun hge => ?_⟩
  · obtain ⟨a, ha⟩ : ∃ a, L[i]? = some a := ⟨L[i], List.getElem?_eq_getElem hlt⟩
    obtain ⟨b, hb⟩ : ∃ b, M[i]? = some b := ⟨M[i]'(by omega), List.getElem?_eq_getElem (by omega)⟩
    have la := h1 a (List.mem_of_getElem? ha)
    have lb := h2 b (List.mem_of_getElem? hb)
    have c1 := l02Compare_ok a b (by omega) (by omega)
    have hz := cmpI_zero (xs := a) (ys := b) (by omega)
    generalize cmpI a b = c at c1 hz
    refine S 60 _ _ ?_
    simp
    refine J.dr hF mixed 8 [[], [], [0, 1], [0, 1, 2], [], [], [4, 5], [4, 5, 6], [0, 1, 2, 3, 4, 5, 6, 7], [0, 1, 2, 3, 4, 5, 6, 7, 8]] [[17, 18, 19, 20, 21, 22, 23, 24], [17, 18, 19, 20, 21, 22, 23, 24], [19, 20, 21, 22, 23, 24], [20, 21, 22, 23, 24], [17, 18, 19, 20, 21, 22, 23, 24], [17, 18, 19, 20, 21, 22, 23, 24], [17, 18, 19, 20, 23, 24], [17, 18, 19, 20, 24]] (by decide) ?_
    rw [← List.take_append_drop 4 (List.take _ _)]
    generalize htl : List.drop 4 (List.take _ _) = tl
    simp
    refine ⟨hlt, fun a' ha' => ?_⟩
    obtain rfl : a = a' := Option.some.inj (ha.symm.trans ha')
    subst htl
    simp
    refine ⟨by omega, fun b' hb' => ?_⟩
    obtain rfl : b = b' := Option.some.inj (hb.symm.trans hb')
    refine S 60 _ _ ?_
    simp
    refine CallW.ok (by decide) (by simp) c1 (by simp) (S 60 _ _ ?_)
    simp
    refine ⟨fun hne e => ?_, fun h0 => ?_⟩
    · rw [e, hb] at ha
      exact hne (hz.2 (Option.some.inj ha.symm))
    · have hab := hz.1 h0
      refine Nxt.mk (i + 1) ⟨hlt, ?_⟩ (by simp [wrapS (i := i) (n := L.length) hlt (by omega)]) (by omega)
      rw [List.take_add_one, List.take_add_one, ht, ha, hb, hab]
  · refine S 60 _ _ ?_
    simp
    have h1 : L = L.take i := by rw [List.take_of_length_le (by omega)]
    have h2 : M = M.take i := by rw [List.take_of_length_le (by omega)]
    rw [h1, h2, ht]

/-- Is it a canonical code. -/
def GoodC (p l : Int) (rows : List (List Int)) : Prop := GoodRows p l rows ∧ (rows.length : Int) ≤ l ∧ echL p rows = rows
instance (p l : Int) (rows : List (List Int)) : Decidable (GoodC p l rows) := by unfold GoodC; infer_instance

set_option maxHeartbeats 1000000 in
theorem l10Is_ok (p l : Int) (rows : List (List Int)) (hl : rows.length ≤ 1048576) (hr : ∀ r ∈ rows, r.length ≤ 1048576) : CallOK Go.Proofs.Tryz.prog 28 [vCode p l rows] (.one (bo (decide (GoodC p l rows)))) := by
  have hF := fnOk 28 [.tmp 2]
  refine callOK hF 60 Go.Proofs.Tryz.func28 rfl rfl rfl (by decide) (by simp) rfl ?_
  intro w0 hw
  have S := @vc_sound w0 _ hF ⟨(.one (bo (decide (GoodC p l rows)))), []⟩ Go.Proofs.Tryz.f28 rfl (by simp)
  have c1 := l10Rows_ok p l rows (by omega) hr
  by_cases hg : GoodRows p l rows
  · rw [decide_eq_true hg] at c1
    have h10 := hg.1.2
    by_cases hle : (rows.length : Int) ≤ l
    · have c2 := l01Echelon_ok p l.toNat rows hg.1.1 (by omega) (by omega) hg.rows
      obtain ⟨f1, f2⟩ := ech_facts hg.1.1 hg.rows
      have c3 := l10Same_ok l.toNat (echL p rows) rows (by omega) (by omega) (fun r hr => (f2 r hr).1) (fun r hr => (hg.rows r hr).1)
      have e : decide (GoodC p l rows) = decide (echL p rows = rows) := decide_eq_decide.2 ⟨fun h => h.2.2, fun h => ⟨hg, hle, h⟩⟩
      rw [e] at S ⊢
      generalize decide (echL p rows = rows) = b at c3 S ⊢
      simp
      refine J.dr hF mixed 23 [[], [0], [], [2], [], [4], [0, 1, 2, 3, 4, 5], [0, 1, 2, 3, 4, 5, 6], [0, 1, 2, 3, 4, 5, 6, 7], [0, 1, 2, 3, 4, 5, 6, 7, 8], [0, 1, 2, 3, 4, 5, 6, 7, 8, 9], [0, 1, 2, 3, 4, 5, 6, 7], [0, 1, 2, 3, 4, 5, 6, 7, 11], [0, 1, 2, 3, 4, 5, 6, 7, 8, 9, 10, 11, 12], [0, 1, 2, 3, 4, 5, 6, 7, 8, 9, 10, 11, 12, 13], [0, 1, 2, 3, 4, 5, 6, 7, 8, 9, 10, 11, 12, 13, 14], [0, 1, 2, 3, 4, 5, 6, 7, 8, 9, 10, 11, 12, 13, 14, 15], [0, 1, 2, 3, 4, 5, 6, 7, 8, 9, 10, 11, 12, 13, 14, 15, 16], [0, 1, 2, 3, 4, 5, 6, 7, 8, 9, 10, 11, 12, 13, 14, 15], [0, 1, 2, 3, 4, 5, 6, 7, 8, 9, 10, 11, 12, 13, 14, 15, 18], [0, 1, 2, 3, 4, 5, 6, 7, 8, 9, 10, 11, 12, 13, 14, 15, 16, 17, 18, 19], [0, 1, 2, 3, 4, 5, 6, 7, 8, 9, 10, 11, 12, 13, 14, 15], [0, 1, 2, 3, 4, 5, 6, 7, 8, 9, 10, 11, 12, 13, 14, 15, 21], [0, 1, 2, 3, 4, 5, 6, 7, 8, 9, 10, 11, 12, 13, 14, 15, 16, 17, 18, 19, 20, 21, 22], [0, 1, 2, 3, 4, 5, 6, 7, 8, 9, 10, 11, 12, 13, 14, 15, 16, 17, 18, 19, 20, 21, 22, 23], [0, 1, 2, 3, 4, 5, 6, 7, 8, 9, 10, 11, 12, 13, 14, 15, 16, 17, 18, 19, 20, 21, 22, 23, 24]] [[3, 4, 5, 6, 7, 8, 9, 10, 11, 12, 13, 14, 15, 16, 17, 18, 19, 20, 21, 22, 23, 24, 25], [4, 5, 6, 7, 8, 9, 10, 11, 12, 13, 14, 15, 16, 17, 18, 19, 20, 21, 22, 23, 24, 25], [3, 4, 5, 6, 7, 8, 9, 10, 11, 12, 13, 14, 15, 16, 17, 18, 19, 20, 21, 22, 23, 24, 25], [3, 4, 6, 7, 8, 9, 10, 11, 12, 13, 14, 15, 16, 17, 18, 19, 20, 21, 22, 23, 24, 25], [3, 4, 5, 6, 7, 8, 9, 10, 11, 12, 13, 14, 15, 16, 17, 18, 19, 20, 21, 22, 23, 24, 25], [3, 4, 5, 6, 8, 9, 10, 11, 12, 13, 14, 15, 16, 17, 18, 19, 20, 21, 22, 23, 24, 25], [9, 10, 11, 12, 13, 14, 15, 16, 17, 18, 19, 20, 21, 22, 23, 24, 25], [10, 11, 12, 13, 14, 15, 16, 17, 18, 19, 20, 21, 22, 23, 24, 25], [11, 12, 13, 14, 15, 16, 17, 18, 19, 20, 21, 22, 23, 24, 25], [12, 13, 14, 15, 16, 17, 18, 19, 20, 21, 22, 23, 24, 25], [13, 14, 15, 16, 17, 18, 19, 20, 21, 22, 23, 24, 25], [11, 12, 13, 14, 15, 16, 17, 18, 19, 20, 21, 22, 23, 24, 25], [11, 12, 13, 15, 16, 17, 18, 19, 20, 21, 22, 23, 24, 25], [16, 17, 18, 19, 20, 21, 22, 23, 24, 25], [17, 18, 19, 20, 21, 22, 23, 24, 25], [18, 19, 20, 21, 22, 23, 24, 25], [19, 20, 21, 22, 23, 24, 25], [20, 21, 22, 23, 24, 25], [19, 20, 21, 22, 23, 24, 25], [19, 20, 22, 23, 24, 25], [23, 24, 25], [19, 20, 21, 22, 23, 24, 25], [19, 20, 21, 22, 23, 25]] (by decide) ?_
      simp
      refine DrC.ok hF (by rfl) (by simp) c1 (by simp) (by simp) ?_
      simp [hle]
      refine DrC.ok hF (by rfl) (by simp) c2 (by simp) (by simp) ?_
      simp
      refine S 60 _ _ ?_
      simp
      refine CallW.ok (by decide) (by simp) c3 (by simp) (S 60 _ _ ?_)
      simp
    · have e : decide (GoodC p l rows) = false := decide_eq_false fun h => hle h.2.1
      rw [e] at S ⊢
      simp
      refine J.dr hF mixed 23 [[], [0], [], [2], [], [4], [0, 1, 2, 3, 4, 5], [0, 1, 2, 3, 4, 5, 6], [0, 1, 2, 3, 4, 5, 6, 7], [0, 1, 2, 3, 4, 5, 6, 7, 8], [0, 1, 2, 3, 4, 5, 6, 7, 8, 9], [0, 1, 2, 3, 4, 5, 6, 7], [0, 1, 2, 3, 4, 5, 6, 7, 11], [0, 1, 2, 3, 4, 5, 6, 7, 8, 9, 10, 11, 12], [0, 1, 2, 3, 4, 5, 6, 7, 8, 9, 10, 11, 12, 13], [0, 1, 2, 3, 4, 5, 6, 7, 8, 9, 10, 11, 12, 13, 14], [0, 1, 2, 3, 4, 5, 6, 7, 8, 9, 10, 11, 12, 13, 14, 15], [0, 1, 2, 3, 4, 5, 6, 7, 8, 9, 10, 11, 12, 13, 14, 15, 16], [0, 1, 2, 3, 4, 5, 6, 7, 8, 9, 10, 11, 12, 13, 14, 15], [0, 1, 2, 3, 4, 5, 6, 7, 8, 9, 10, 11, 12, 13, 14, 15, 18], [0, 1, 2, 3, 4, 5, 6, 7, 8, 9, 10, 11, 12, 13, 14, 15, 16, 17, 18, 19], [0, 1, 2, 3, 4, 5, 6, 7, 8, 9, 10, 11, 12, 13, 14, 15], [0, 1, 2, 3, 4, 5, 6, 7, 8, 9, 10, 11, 12, 13, 14, 15, 21], [0, 1, 2, 3, 4, 5, 6, 7, 8, 9, 10, 11, 12, 13, 14, 15, 16, 17, 18, 19, 20, 21, 22], [0, 1, 2, 3, 4, 5, 6, 7, 8, 9, 10, 11, 12, 13, 14, 15, 16, 17, 18, 19, 20, 21, 22, 23], [0, 1, 2, 3, 4, 5, 6, 7, 8, 9, 10, 11, 12, 13, 14, 15, 16, 17, 18, 19, 20, 21, 22, 23, 24]] [[3, 4, 5, 6, 7, 8, 9, 10, 11, 12, 13, 14, 15, 16, 17, 18, 19, 20, 21, 22, 23, 24, 25], [4, 5, 6, 7, 8, 9, 10, 11, 12, 13, 14, 15, 16, 17, 18, 19, 20, 21, 22, 23, 24, 25], [3, 4, 5, 6, 7, 8, 9, 10, 11, 12, 13, 14, 15, 16, 17, 18, 19, 20, 21, 22, 23, 24, 25], [3, 4, 6, 7, 8, 9, 10, 11, 12, 13, 14, 15, 16, 17, 18, 19, 20, 21, 22, 23, 24, 25], [3, 4, 5, 6, 7, 8, 9, 10, 11, 12, 13, 14, 15, 16, 17, 18, 19, 20, 21, 22, 23, 24, 25], [3, 4, 5, 6, 8, 9, 10, 11, 12, 13, 14, 15, 16, 17, 18, 19, 20, 21, 22, 23, 24, 25], [9, 10, 11, 12, 13, 14, 15, 16, 17, 18, 19, 20, 21, 22, 23, 24, 25], [10, 11, 12, 13, 14, 15, 16, 17, 18, 19, 20, 21, 22, 23, 24, 25], [11, 12, 13, 14, 15, 16, 17, 18, 19, 20, 21, 22, 23, 24, 25], [12, 13, 14, 15, 16, 17, 18, 19, 20, 21, 22, 23, 24, 25], [13, 14, 15, 16, 17, 18, 19, 20, 21, 22, 23, 24, 25], [11, 12, 13, 14, 15, 16, 17, 18, 19, 20, 21, 22, 23, 24, 25], [11, 12, 13, 15, 16, 17, 18, 19, 20, 21, 22, 23, 24, 25], [16, 17, 18, 19, 20, 21, 22, 23, 24, 25], [17, 18, 19, 20, 21, 22, 23, 24, 25], [18, 19, 20, 21, 22, 23, 24, 25], [19, 20, 21, 22, 23, 24, 25], [20, 21, 22, 23, 24, 25], [19, 20, 21, 22, 23, 24, 25], [19, 20, 22, 23, 24, 25], [23, 24, 25], [19, 20, 21, 22, 23, 24, 25], [19, 20, 21, 22, 23, 25]] (by decide) ?_
      simp
      refine DrC.ok hF (by rfl) (by simp) c1 (by simp) (by simp) ?_
      simp [hle]
      refine S 60 _ _ ?_
      simp
  · rw [decide_eq_false hg] at c1
    have e : decide (GoodC p l rows) = false := decide_eq_false fun h => hg h.1
    rw [e] at S ⊢
    simp
    refine J.dr hF mixed 23 [[], [0], [], [2], [], [4], [0, 1, 2, 3, 4, 5], [0, 1, 2, 3, 4, 5, 6], [0, 1, 2, 3, 4, 5, 6, 7], [0, 1, 2, 3, 4, 5, 6, 7, 8], [0, 1, 2, 3, 4, 5, 6, 7, 8, 9], [0, 1, 2, 3, 4, 5, 6, 7], [0, 1, 2, 3, 4, 5, 6, 7, 11], [0, 1, 2, 3, 4, 5, 6, 7, 8, 9, 10, 11, 12], [0, 1, 2, 3, 4, 5, 6, 7, 8, 9, 10, 11, 12, 13], [0, 1, 2, 3, 4, 5, 6, 7, 8, 9, 10, 11, 12, 13, 14], [0, 1, 2, 3, 4, 5, 6, 7, 8, 9, 10, 11, 12, 13, 14, 15], [0, 1, 2, 3, 4, 5, 6, 7, 8, 9, 10, 11, 12, 13, 14, 15, 16], [0, 1, 2, 3, 4, 5, 6, 7, 8, 9, 10, 11, 12, 13, 14, 15], [0, 1, 2, 3, 4, 5, 6, 7, 8, 9, 10, 11, 12, 13, 14, 15, 18], [0, 1, 2, 3, 4, 5, 6, 7, 8, 9, 10, 11, 12, 13, 14, 15, 16, 17, 18, 19], [0, 1, 2, 3, 4, 5, 6, 7, 8, 9, 10, 11, 12, 13, 14, 15], [0, 1, 2, 3, 4, 5, 6, 7, 8, 9, 10, 11, 12, 13, 14, 15, 21], [0, 1, 2, 3, 4, 5, 6, 7, 8, 9, 10, 11, 12, 13, 14, 15, 16, 17, 18, 19, 20, 21, 22], [0, 1, 2, 3, 4, 5, 6, 7, 8, 9, 10, 11, 12, 13, 14, 15, 16, 17, 18, 19, 20, 21, 22, 23], [0, 1, 2, 3, 4, 5, 6, 7, 8, 9, 10, 11, 12, 13, 14, 15, 16, 17, 18, 19, 20, 21, 22, 23, 24]] [[3, 4, 5, 6, 7, 8, 9, 10, 11, 12, 13, 14, 15, 16, 17, 18, 19, 20, 21, 22, 23, 24, 25], [4, 5, 6, 7, 8, 9, 10, 11, 12, 13, 14, 15, 16, 17, 18, 19, 20, 21, 22, 23, 24, 25], [3, 4, 5, 6, 7, 8, 9, 10, 11, 12, 13, 14, 15, 16, 17, 18, 19, 20, 21, 22, 23, 24, 25], [3, 4, 6, 7, 8, 9, 10, 11, 12, 13, 14, 15, 16, 17, 18, 19, 20, 21, 22, 23, 24, 25], [3, 4, 5, 6, 7, 8, 9, 10, 11, 12, 13, 14, 15, 16, 17, 18, 19, 20, 21, 22, 23, 24, 25], [3, 4, 5, 6, 8, 9, 10, 11, 12, 13, 14, 15, 16, 17, 18, 19, 20, 21, 22, 23, 24, 25], [9, 10, 11, 12, 13, 14, 15, 16, 17, 18, 19, 20, 21, 22, 23, 24, 25], [10, 11, 12, 13, 14, 15, 16, 17, 18, 19, 20, 21, 22, 23, 24, 25], [11, 12, 13, 14, 15, 16, 17, 18, 19, 20, 21, 22, 23, 24, 25], [12, 13, 14, 15, 16, 17, 18, 19, 20, 21, 22, 23, 24, 25], [13, 14, 15, 16, 17, 18, 19, 20, 21, 22, 23, 24, 25], [11, 12, 13, 14, 15, 16, 17, 18, 19, 20, 21, 22, 23, 24, 25], [11, 12, 13, 15, 16, 17, 18, 19, 20, 21, 22, 23, 24, 25], [16, 17, 18, 19, 20, 21, 22, 23, 24, 25], [17, 18, 19, 20, 21, 22, 23, 24, 25], [18, 19, 20, 21, 22, 23, 24, 25], [19, 20, 21, 22, 23, 24, 25], [20, 21, 22, 23, 24, 25], [19, 20, 21, 22, 23, 24, 25], [19, 20, 22, 23, 24, 25], [23, 24, 25], [19, 20, 21, 22, 23, 24, 25], [19, 20, 21, 22, 23, 25]] (by decide) ?_
    simp
    refine DrC.ok hF (by rfl) (by simp) c1 (by simp) (by simp) ?_
    simp
    refine S 60 _ _ ?_
    simp

theorem IsCode_ok (p l : Int) (rows : List (List Int)) (hl : rows.length ≤ 1048576) (hr : ∀ r ∈ rows, r.length ≤ 1048576) : CallOK Go.Proofs.Tryz.prog 34 [vCode p l rows] (.one (bo (decide (GoodC p l rows)))) := by
  have hF := fnOk 39 [.tmp 2]
  refine callOK hF 60 Go.Proofs.Tryz.func34 rfl rfl rfl (by decide) (by simp) rfl ?_
  intro w0 hw
  have S := @vc_sound w0 _ hF ⟨(.one (bo (decide (GoodC p l rows)))), []⟩ Go.Proofs.Tryz.f34 rfl (by simp)
  have c1 := isPrime_ok p
  have c2 := isLength_ok l
  have c3 := areRows_ok p l rows hl hr
  by_cases hp : Pr p
  · rw [decide_eq_true hp] at c1
    by_cases hl1 : 1 ≤ l ∧ l ≤ 10
    · rw [decide_eq_true hl1] at c2
      by_cases hle : (rows.length : Int) ≤ l
      · have hle' : ¬ l < (rows.length : Int) := by omega
        by_cases ha : rows.length ≤ 100 ∧ ∀ r ∈ rows, RowP p l r
        · rw [decide_eq_true ha] at c3
          have hg : GoodRows p l rows := ⟨⟨hp, hl1⟩, ha.2⟩
          have c4 := reduce_ok p l.toNat rows hp (by omega) (by omega) hg.rows
          obtain ⟨f1, f2⟩ := ech_facts hp hg.rows
          have c5 := sameRows_ok (echL p rows) rows (by omega) (fun r hr => by rw [(f2 r hr).1]; omega)
          have e : decide (GoodC p l rows) = decide (echL p rows = rows) := decide_eq_decide.2 ⟨fun h => h.2.2, fun h => ⟨hg, hle, h⟩⟩
          rw [e] at S ⊢
          generalize decide (echL p rows = rows) = b at c5 S ⊢
          simp
          refine CallW.ok (by decide) (by simp) c1 (by simp) (S 60 _ _ ?_)
          simp
          refine CallW.ok (by decide) (by simp) c2 (by simp) (S 60 _ _ ?_)
          simp [hle']
          refine CallW.ok (by decide) (by simp) c3 (by simp) (S 60 _ _ ?_)
          simp
          refine J.dr hF mixed 7 [[], [0], [], [2], [0, 1, 2, 3], [], [5], [0, 1, 2, 3, 4, 5, 6], [0, 1, 2, 3, 4, 5, 6, 7]] [[31, 32, 33, 34, 35, 36, 37], [32, 33, 34, 35, 36, 37], [31, 32, 33, 34, 35, 36, 37], [31, 32, 34, 35, 36, 37], [35, 36, 37], [31, 32, 33, 34, 35, 36, 37], [31, 32, 33, 34, 35, 37]] (by decide) ?_
          simp
          refine DrC.ok hF (by rfl) (by simp) c4 (by simp) (by simp) ?_
          simp
          refine S 60 _ _ ?_
          simp
          refine CallW.ok (by decide) (by simp) c5 (by simp) (S 60 _ _ ?_)
          simp
        · rw [decide_eq_false ha] at c3
          have e : decide (GoodC p l rows) = false := decide_eq_false fun h => ha ⟨by omega, h.1.2⟩
          rw [e] at S ⊢
          simp
          refine CallW.ok (by decide) (by simp) c1 (by simp) (S 60 _ _ ?_)
          simp
          refine CallW.ok (by decide) (by simp) c2 (by simp) (S 60 _ _ ?_)
          simp [hle']
          refine CallW.ok (by decide) (by simp) c3 (by simp) (S 60 _ _ ?_)
          simp
      · have hle' : l < (rows.length : Int) := by omega
        have e : decide (GoodC p l rows) = false := decide_eq_false fun h => hle h.2.1
        rw [e] at S ⊢
        simp
        refine CallW.ok (by decide) (by simp) c1 (by simp) (S 60 _ _ ?_)
        simp
        refine CallW.ok (by decide) (by simp) c2 (by simp) (S 60 _ _ ?_)
        simp [hle']
    · rw [decide_eq_false hl1] at c2
      have e : decide (GoodC p l rows) = false := decide_eq_false fun h => hl1 h.1.1.2
      rw [e] at S ⊢
      simp
      refine CallW.ok (by decide) (by simp) c1 (by simp) (S 60 _ _ ?_)
      simp
      refine CallW.ok (by decide) (by simp) c2 (by simp) (S 60 _ _ ?_)
      simp
  · rw [decide_eq_false hp] at c1
    have e : decide (GoodC p l rows) = false := decide_eq_false fun h => hp h.1.1.1
    rw [e] at S ⊢
    simp
    refine CallW.ok (by decide) (by simp) c1 (by simp) (S 60 _ _ ?_)
    simp

end Go.Sm
