/- Towards the rows of this seat: what the functions do, as contracts over plain data. -/
import Derived.Shelf.SlLaysF0
import Derived.Ground.SlsfProg
import Derived.Test.YtdfihhfnnogpeaaGreatProg
import Derived.Shelf.SlSortCmp.NoneTotal
import Derived.Test.YtdfihhfnnogpeaaGreatPkQrNewRelationsBK3
namespace Go.Proofs
open Go.Shelf
def Tryz.sortT_ren : Go.Shelf.Ren := ⟨fun | 6 => 105 | 15 => 109 | 14 => 113 | 28 => 122 | 29 => 123 | 20 => 124 | 21 => 125 | 22 => 126 | 23 => 127 | 24 => 128 | 25 => 129 | 26 => 130 | 27 => 131 | 46 => 137 | 47 => 133 | 48 => 134 | 49 => 138 | 50 => 139 | 57 => 141 | n => n, fun | 22 => 42 | 24 => 70 | 25 => 112 | 3 => 3 | 39 => 115 | 0 => 0 | 53 => 126 | 55 => 128 | 4 => 4 | 46 => 119 | 45 => 118 | 50 => 123 | 5 => 5 | 9 => 9 | 66 => 134 | 70 => 138 | 76 => 142 | 77 => 143 | n => n, fun | n => n⟩
theorem Tryz.sortT : Go.Proofs.SlLaysF0.n6 Tryz.prog Tryz.sortT_ren := {
  mixed := by kernel_rfl
  f6 := ⟨Tryz.f105.name, by decide, Tryz.func105.trans (congrArg some (by kernel_rfl))⟩
  f14 := ⟨Tryz.f113.name, by decide, Tryz.func113.trans (congrArg some (by kernel_rfl))⟩
  f15 := Tryz.func109.trans (congrArg some (by kernel_rfl))
  f20 := ⟨Tryz.f124.name, by decide, Tryz.func124.trans (congrArg some (by kernel_rfl))⟩
  f21 := ⟨Tryz.f125.name, by decide, Tryz.func125.trans (congrArg some (by kernel_rfl))⟩
  f22 := ⟨Tryz.f126.name, by decide, Tryz.func126.trans (congrArg some (by kernel_rfl))⟩
  f23 := ⟨Tryz.f127.name, by decide, Tryz.func127.trans (congrArg some (by kernel_rfl))⟩
  f24 := ⟨Tryz.f128.name, by decide, Tryz.func128.trans (congrArg some (by kernel_rfl))⟩
  f25 := ⟨Tryz.f129.name, by decide, Tryz.func129.trans (congrArg some (by kernel_rfl))⟩
  f26 := ⟨Tryz.f130.name, by decide, Tryz.func130.trans (congrArg some (by kernel_rfl))⟩
  f27 := ⟨Tryz.f131.name, by decide, Tryz.func131.trans (congrArg some (by kernel_rfl))⟩
  f28 := Tryz.func122.trans (congrArg some (by kernel_rfl))
  f29 := Tryz.func123.trans (congrArg some (by kernel_rfl))
  f46 := ⟨Tryz.f137.name, by decide, Tryz.func137.trans (congrArg some (by kernel_rfl))⟩
  f47 := Tryz.func133.trans (congrArg some (by kernel_rfl))
  f48 := Tryz.func134.trans (congrArg some (by kernel_rfl))
  f49 := ⟨Tryz.f138.name, by decide, Tryz.func138.trans (congrArg some (by kernel_rfl))⟩
  f50 := ⟨Tryz.f139.name, by decide, Tryz.func139.trans (congrArg some (by kernel_rfl))⟩
  f57 := ⟨Tryz.f141.name, by decide, Tryz.func141.trans (congrArg some (by kernel_rfl))⟩
  t0 := Tryz.underlying0
  a0 := Tryz.isAgg0
  z0 := Tryz.sizeOf0
  v0 := Tryz.zeroValue0
  t3 := Tryz.underlying3
  a3 := Tryz.isAgg3
  z3 := Tryz.sizeOf3
  v3 := Tryz.zeroValue3
  t4 := Tryz.underlying4
  a4 := Tryz.isAgg4
  z4 := Tryz.sizeOf4
  v4 := Tryz.zeroValue4
  t5 := Tryz.underlying5
  a5 := Tryz.isAgg5
  z5 := Tryz.sizeOf5
  v5 := Tryz.zeroValue5
  t9 := Tryz.underlying9
  a9 := Tryz.isAgg9
  z9 := Tryz.sizeOf9
  v9 := Tryz.zeroValue9
  t22 := Tryz.underlying42
  a22 := Tryz.isAgg42
  z22 := Tryz.sizeOf42
  v22 := Tryz.zeroValue42
  t25 := Tryz.underlying112
  a25 := Tryz.isAgg112
  z25 := Tryz.sizeOf112
  v25 := Tryz.zeroValue112
  t39 := Tryz.underlying115
  a39 := Tryz.isAgg115
  z39 := Tryz.sizeOf115
  v39 := Tryz.zeroValue115
  t45 := Tryz.underlying118
  a45 := Tryz.isAgg118
  z45 := Tryz.sizeOf118
  v45 := Tryz.zeroValue118
  t46 := Tryz.underlying119
  a46 := Tryz.isAgg119
  z46 := Tryz.sizeOf119
  v46 := Tryz.zeroValue119
  t50 := Tryz.underlying123
  a50 := Tryz.isAgg123
  z50 := Tryz.sizeOf123
  v50 := Tryz.zeroValue123
  t53 := Tryz.underlying126
  a53 := Tryz.isAgg126
  z53 := Tryz.sizeOf126
  v53 := Tryz.zeroValue126
  t55 := Tryz.underlying128
  a55 := Tryz.isAgg128
  z55 := Tryz.sizeOf128
  v55 := Tryz.zeroValue128
  t66 := Tryz.underlying134
  a66 := Tryz.isAgg134
  z66 := Tryz.sizeOf134
  v66 := Tryz.zeroValue134
  t70 := Tryz.underlying138
  a70 := Tryz.isAgg138
  z70 := Tryz.sizeOf138
  v70 := Tryz.zeroValue138
  t76 := Tryz.underlying142
  a76 := Tryz.isAgg142
  z76 := Tryz.sizeOf142
  v76 := Tryz.zeroValue142
  t77 := Tryz.underlying143
  a77 := Tryz.isAgg143
  z77 := Tryz.sizeOf143
  v77 := Tryz.zeroValue143 }
end Go.Proofs

namespace Go.Sm
open Go.RowKit Go.Shelf Go.Sort

/-! ### the order of monomials -/
theorem u8_toNat_inj {x y : UInt8} (h : (x.toNat : Int) = y.toNat) : x = y := UInt8.toNat_inj.1 (by omega)
/-- A monomial's place among all. -/
def Ex.key (e : Ex) : Int := e.deg * 65536 + (255 - (e.a.toNat : Int)) * 256 + (255 - (e.b.toNat : Int))
theorem cmpE_key (x y : Ex) : cmpE x y < 0 ↔ x.key < y.key := by
  have := u8_lt x.a; have := u8_lt x.b; have := u8_lt y.a; have := u8_lt y.b
  unfold cmpE Ex.key
  split
  · omega
  · rename_i h
    split
    · rename_i ha
      have hna : (x.a.toNat : Int) ≠ y.a.toNat := fun e => ha (u8_toNat_inj e)
      omega
    · rename_i ha
      have : x.a = y.a := Decidable.not_not.1 ha
      rw [this]; omega
theorem cmpE_zero (x y : Ex) : cmpE x y = 0 ↔ x = y := by
  refine ⟨fun h => ?_, fun h => by rw [h]; exact cmpE_self y⟩
  unfold cmpE at h
  split at h
  · omega
  · rename_i h0
    split at h
    · rename_i ha; exact absurd (u8_toNat_inj (by omega)) ha
    · rename_i ha
      have ha : x.a = y.a := Decidable.not_not.1 ha
      have hb : x.b = y.b := u8_toNat_inj (by omega)
      have hc : x.c = y.c := by
        unfold Ex.deg at h0
        rw [ha, hb] at h0
        exact u8_toNat_inj (by omega)
      cases x; cases y; simp_all
theorem key_inj {x y : Ex} (h : x.key = y.key) : x = y := by
  have h1 : ¬ cmpE x y < 0 := by rw [cmpE_key]; omega
  have h2 : ¬ cmpE y x < 0 := by rw [cmpE_key]; omega
  refine (cmpE_zero x y).1 ?_
  unfold cmpE at h1 h2 ⊢
  have e1 : y.deg - x.deg = -(x.deg - y.deg) := by omega
  by_cases hd : x.deg - y.deg = 0
  · have hd' : y.deg - x.deg = 0 := by omega
    simp only [hd, hd', ne_eq, not_true_eq_false, if_false] at h1 h2 ⊢
    by_cases ha : x.a = y.a
    · simp only [ha, not_true_eq_false, if_false] at h1 h2 ⊢; omega
    · have ha' : ¬ y.a = x.a := fun e => ha e.symm
      simp only [ha, ha', not_false_eq_true, if_true] at h1 h2 ⊢; omega
  · have hd' : ¬ y.deg - x.deg = 0 := by omega
    simp only [hd, hd', ne_eq, not_false_eq_true, if_true] at h1 h2 ⊢; omega

theorem poly1_ok (x y : Tm) : CallOK Go.Proofs.Tryz.prog 106 [.agg [u8 x.e.a, u8 x.e.b, u8 x.e.c, i64 x.v], .agg [u8 y.e.a, u8 y.e.b, u8 y.e.c, i64 y.v]] (.one (i64 (cmpE x.e y.e))) := by
  have hF := fnOk 10 [.tmp 4]
  refine callOK hF 60 Go.Proofs.Tryz.func106 rfl rfl rfl (by decide) (by simp) rfl ?_
  intro w0 hw
  have S := @vc_sound w0 _ hF ⟨(.one (i64 (cmpE x.e y.e))), []⟩ Go.Proofs.Tryz.f106 rfl (by simp)
  have c1 := compareExps_ok x.e y.e
  simp
  refine CallW.ok (by decide) (by simp) c1 (by simp) (S 60 _ _ ?_)
  simp

def Tm.vs (t : Tm) : List Value := [.int .u8 t.e.a.toNat, .int .u8 t.e.b.toNat, .int .u8 t.e.c.toNat, .int .i64 t.v]

theorem bel_grow {w w' : World} (h : Bel w.heap.size w w') : ∃ q os, w' = grow (w.drewN q) os := by
  refine ⟨w'.drawn - w.drawn, w'.heap.extract w.heap.size w'.heap.size, ?_⟩
  have hh : w'.heap = w.heap ++ w'.heap.extract w.heap.size w'.heap.size := by
    apply Array.ext_getElem?
    intro i
    by_cases hi : i < w.heap.size
    · rw [Array.getElem?_append_left hi, h.block i hi]
    · rw [Array.getElem?_append_right (by omega), Array.getElem?_extract]
      split
      · congr 1; omega
      · rename_i h2
        exact Array.getElem?_eq_none (by omega)
  have hd : w'.drawn = w.drawn + (w'.drawn - w.drawn) := by have := h.drawn; omega
  have e1 := h.os; have e2 := h.tape; have e3 := h.output
  cases w' with
  | mk heap tape drawn os output =>
    simp only at hh hd e1 e2 e3
    subst e1; subst e2; subst e3
    unfold grow World.drewN
    simp only [World.mk.injEq, and_true, true_and]
    exact ⟨hh, hd⟩

theorem cmp_lays (blk off size : Nat) (w : World) : Go.Proofs.CmpLays Go.Proofs.Tryz.prog 106 #[] Tm.vs 4 (fun x y => cmpE x.e y.e) blk off size w := by
  intro m os dk hs x y
  have h := (poly1_ok x y).2 (Go.Proofs.sortWorldK Tm.vs 4 w blk off m dk os) [.agg x.vs.toArray, .agg y.vs.toArray]
    ⟨_, _, rfl, ⟨x.vs, rfl, by simp, by simp [Tm.vs, DsV, Rd, Value.oneCell']⟩, _, _, rfl, ⟨y.vs, rfl, by simp, by simp [Tm.vs, DsV, Rd, Value.oneCell']⟩, rfl⟩
  refine Calls.mono h fun e w' hq => ?_
  obtain ⟨v, rfl, ⟨us, h1, h2, h3, _⟩, hb⟩ := hq
  refine ⟨?_, bel_grow hb⟩
  simp only [RShape] at h1
  subst h1
  obtain ⟨u, r, he, hr, _⟩ := h3
  simp only [List.cons.injEq] at he
  rw [he.1]
  simp only [Rd] at hr
  rw [hr.1]

theorem swoT : SWO (Go.Proofs.ltOf fun x y : Tm => cmpE x.e y.e) where
  irrefl x := by unfold Go.Proofs.ltOf; simp [cmpE_self]
  trans x y z h1 h2 := by
    unfold Go.Proofs.ltOf at *
    rw [decide_eq_true_eq, cmpE_key] at *; omega
  ntrans x y z h1 h2 := by
    unfold Go.Proofs.ltOf at *
    rw [decide_eq_false_iff_not, cmpE_key] at *; omega

def leT (a b : Tm) : Prop := ¬ cmpE b.e a.e < 0
/-- One strictly ascending list among the orders of a list. -/
theorem sorted_one {d ys : List Tm} (hp : ys.Perm d) (hs : ys.Pairwise fun a b => cmpE a.e b.e < 0) (hd : d.Pairwise leT) : d = ys := by
  have h2 : ys.Pairwise leT := by
    refine hs.imp fun {a b} h => ?_
    unfold leT
    rw [cmpE_key] at *; omega
  have h1 : ∀ a b, a ∈ d → b ∈ ys → leT a b → leT b a → a = b := by
    intro a b ha hb h1 h2
    have ha' : a ∈ ys := hp.symm.subset ha
    obtain ⟨i, hi, rfl⟩ := List.getElem_of_mem ha'
    obtain ⟨j, hj, rfl⟩ := List.getElem_of_mem hb
    rcases Nat.lt_trichotomy i j with h | h | h
    · exact absurd (List.pairwise_iff_getElem.1 hs i j hi hj h) h2
    · subst h; rfl
    · exact absurd (List.pairwise_iff_getElem.1 hs j i hj hi h) h1
  exact List.Perm.eq_of_pairwise h1 hd h2 hp.symm

theorem flat_get {α : Type} [Inhabited α] (enc : α → List Value) {k : Nat} (hk : ∀ x, (enc x).length = k) : ∀ (xs : List α) (t : Nat), t < xs.length * k → (xs.flatMap enc)[t]? = some ((enc xs.toArray[t / k]!)[t % k]!)
  | [], t, h => by simp at h
  | x :: xs, t, h => by
    have k0 : 0 < k := Nat.pos_of_ne_zero fun e => by subst e; simp at h
    rw [List.flatMap_cons]
    by_cases ht : t < k
    · rw [List.getElem?_append_left (by rw [hk]; exact ht), Nat.div_eq_of_lt ht, Nat.mod_eq_of_lt ht]
      have : (x :: xs).toArray[0]! = x := rfl
      rw [this, List.getElem?_eq_getElem (by rw [hk]; exact ht), getElem!_pos (enc x) t (by rw [hk]; exact ht)]
    · obtain ⟨u, rfl⟩ : ∃ u, t = u + k := ⟨t - k, by omega⟩
      have hu : u < xs.length * k := by rw [List.length_cons, Nat.add_mul] at h; omega
      rw [List.getElem?_append_right (by rw [hk]; omega), hk, Nat.add_sub_cancel, flat_get enc hk xs u hu, Nat.add_div_right _ k0, Nat.add_mod_right]
      have hl : u / k < xs.length := (Nat.div_lt_iff_lt_mul k0).2 hu
      have : (x :: xs).toArray[(u / k).succ]! = xs.toArray[u / k]! := by
        rw [getElem!_pos _ _ (by simpa using hl), getElem!_pos _ _ (by simpa using hl)]
        simp
      rw [this]

theorem Tm.vs_len (t : Tm) : t.vs.length = 4 := rfl
theorem terms_EsV {w : World} {B M : Nat → Prop} : ∀ (ts : List Tm), EsV (Rd w B M) 4 (terms ts) (ts.flatMap Tm.vs)
  | [] => rfl
  | t :: ts => by
    simp only [terms, List.map_cons, List.flatMap_cons]
    refine ⟨t.vs, _, rfl, rfl, ?_, terms_EsV ts⟩
    simp [Tm.vs, DsV, Rd, Value.oneCell']
theorem terms_EsV_eq {w : World} {B M : Nat → Prop} : ∀ {ts : List Tm} {vs : List Value}, EsV (Rd w B M) 4 (terms ts) vs → vs = ts.flatMap Tm.vs
  | [], vs, h => h
  | t :: ts, vs, h => by
    obtain ⟨u, r, rfl, _, h1, h2⟩ := h
    rw [List.flatMap_cons, terms_EsV_eq h2]
    congr 1
    simp only [DsV, Rd] at h1
    obtain ⟨_, _, rfl, ⟨rfl, _⟩, _, _, rfl, ⟨rfl, _⟩, _, _, rfl, ⟨rfl, _⟩, _, _, rfl, ⟨rfl, _⟩, rfl⟩ := h1
    rfl
theorem terms_noOwn (ts : List Tm) : (terms ts).all (fun e => e.all noOwn) = true := by simp [terms]

theorem perm_of_permIn {d d' : Array Tm} (h : PermIn 0 d.size d d') : d'.toList.Perm d.toList := by
  obtain ⟨h1, _, h3⟩ := h
  have e1 : d'.extract 0 d.size = d' := by rw [← h1]; simp
  have e2 : d.extract 0 d.size = d := by simp
  rwa [e1, e2] at h3

theorem sortTerms_ok (xs ys : List Tm) (hl : xs.length < 4611686018427387904) (hp : ys.Perm xs) (hs : ys.Pairwise fun a b => cmpE a.e b.e < 0) :
    CallX Go.Proofs.Tryz.prog 105 [.one (oTerms xs), .one (.v (.func (.func 106) #[] #[]))] ⟨.tup [], [(0, oTerms ys)]⟩ := by
  refine ⟨⟨Go.Proofs.Tryz.f105, Go.Proofs.Tryz.func105, rfl, rfl⟩, fun w X vs us hA hnd => ?_⟩
  obtain ⟨v1, q1, x1, c1, rfl, rfl, h1, h2, v2, q2, x2, c2, rfl, rfl, h3, h4, rfl, rfl⟩ := hA
  simp only [RShape] at h1 h3
  subst h1; subst h3
  obtain ⟨_, _, he, hr1, _⟩ := h2
  simp only [List.cons.injEq] at he
  obtain ⟨rfl, rfl⟩ := he
  obtain ⟨_, _, he, hr2, _⟩ := h4
  simp only [List.cons.injEq] at he
  obtain ⟨rfl, rfl⟩ := he
  simp only [ArgX, Rd] at hr2
  obtain ⟨rfl, _⟩ := hr2
  obtain ⟨hr, _, hX⟩ := hr1
  have hlen : ys.length = xs.length := hp.length_eq
  simp only [Rd] at hr
  rcases hr with ⟨hn, rfl⟩ | ⟨b, cap, cur, rfl, hcap, _, hh, hmax, hsz, hes⟩
  · have hx : xs = [] := by simpa [terms] using hn
    subst hx
    have hy : ys = [] := List.length_eq_zero_iff.1 hlen
    subst hy
    have hc := Go.Proofs.AnyF.slices_SortFunc_none (P := Go.Proofs.Tryz.prog) (ρ := Go.Proofs.Tryz.sortT_ren) { Go.Proofs.Tryz.sortT with } none 0 (.func (.func 106) #[] #[]) w
    refine Calls.mono hc fun e w' hq => ?_
    obtain ⟨rfl, rfl⟩ := hq
    refine ⟨_, rfl, ⟨[nilV], [], ⟨[], rfl, rfl, rfl⟩, ?_, rfl, ?_, ?_, ?_⟩, Low.refl _ _⟩
    · rfl
    · exact ⟨nilV, [], rfl, by simp [Rd, terms], rfl⟩
    · simp [fpDs, fp, cellsR]
    · intro b hb; simp [fpDs, fp, cellsR] at hb
  · obtain ⟨vs, hv1, hv2⟩ := RdEs.vals hes
    have hvs := terms_EsV_eq hv1
    subst hvs
    have hlt := lt_of_heap hh
    have hcell : ∀ (j : Nat) (u : Value), (xs.flatMap Tm.vs)[j]? = some u → cur[j]? = some u := by
      intro j u hj
      have := hv2 j u hj
      simpa [World.cell?, hh] using this
    have hH : HoldsK Tm.vs 4 w b 0 xs.toArray := by
      intro j hj
      have hj' : j < xs.length * 4 := by simpa using hj
      have hg := flat_get Tm.vs Tm.vs_len xs j hj'
      refine ⟨?_, by simp [World.frozen?, hh]⟩
      rw [hv2 j _ hg, get_flatK _ _ _ _ (by simpa using hj')]
      rfl
    have eg : ∀ args w, (callFunc 106 args).run Go.Proofs.Tryz.prog w = .ok (.enter 106 args) w := Go.Proofs.enters_of Go.Proofs.Tryz.func106 (by kernel_rfl) rfl
    have hc := Go.Proofs.AnyQ.slices_SortFunc Go.Proofs.Tryz.sortT 4 (fun w => tyOk70.isAgg w) (fun w => tyOk70.sizeOf w) Tm.vs Tm.vs_len
      (fun x v hv => by simp [Tm.vs] at hv; rcases hv with rfl | rfl | rfl | rfl <;> rfl) (fun x y => cmpE x.e y.e) swoT 106 #[] b 0 cap xs.toArray w eg (cmp_lays b 0 _ w) hH hlt (by simpa using hl)
    have hll : (terms xs).length = xs.toArray.size := by simp [terms]
    rw [hll]
    refine Calls.mono hc fun e w' hq => ?_
    obtain ⟨rfl, d', n, os, hperm, hsort, rfl⟩ := hq
    have hd' : d'.toList = ys := by
      refine sorted_one (hp.trans (perm_of_permIn hperm).symm) hs ?_
      rw [List.pairwise_iff_getElem]
      intro i j hi hj hij
      have hn : d'.size = xs.toArray.size := hperm.1
      have hi' : i < d'.size := by simpa using hi
      have hj' : j < d'.size := by simpa using hj
      have := hsort i j (Nat.zero_le _) hij (by omega)
      unfold Go.Proofs.ltOf at this
      rw [getElem!_pos d' i hi', getElem!_pos d' j hj'] at this
      simpa [leT] using this
    subst hd'
    have hds : d'.size = xs.length := by simpa using hlen
    have hW : (Go.Proofs.sortWorldK Tm.vs 4 w b 0 n d' os).heap = (w.heap.modify b (onCells (putCells id 0 (flatK Tm.vs 4 d')))) ++ os := rfl
    have hnew : (Go.Proofs.sortWorldK Tm.vs 4 w b 0 n d' os).heap[b]? = some (.cells (putCells id 0 (flatK Tm.vs 4 d') cur) 70 (0, 0)) := by
      rw [hW, Array.getElem?_append_left (by simpa using hlt), Array.getElem?_modify]
      simp [hh, onCells]
    have hcells : ∀ (j : Nat) (u : Value), (d'.toList.flatMap Tm.vs)[j]? = some u → (Go.Proofs.sortWorldK Tm.vs 4 w b 0 n d' os).cell? ⟨b, 0 + j, none⟩ = some u := by
      intro j u hj
      have hjl : j < d'.toList.length * 4 := by
        have := (List.getElem?_eq_some_iff.1 hj).1
        rw [(terms_EsV (w := w) (B := fun _ => False) (M := fun _ => False) d'.toList).length] at this
        simpa [terms] using this
      have hjs : j < d'.size * 4 := by simpa using hjl
      have hcu : j < cur.size := by
        rw [hsz]
        have : xs.length ≤ cap := by simpa [terms] using hcap
        omega
      simp only [World.cell?, hnew, putCells]
      have hg := flat_get Tm.vs Tm.vs_len d'.toList j hjl
      rw [hj] at hg
      simp only [Option.some.injEq] at hg
      subst hg
      have hF := get_flatK Tm.vs 4 d' j hjs
      have hjF : j < (flatK Tm.vs 4 d').size := by simpa using hjs
      simp [hcu, hF]
      omega
    have hread : Rd (Go.Proofs.sortWorldK Tm.vs 4 w b 0 n d' os) (fun _ => False) (fun _ => False) (oTerms d'.toList) (.slice (some ⟨b, 0, none⟩) xs.toArray.size cap) := by
      simp only [Rd]
      refine .inr ⟨b, cap, _, ?_, ?_, not_false, hnew, hmax, ?_, RdEs.ofV (terms_EsV _) hcells⟩
      · simp [terms, hds]
      · simp [terms, hds]; simpa [terms] using hcap
      · simp [putCells, hsz]
    have hfp : fp (Go.Proofs.sortWorldK Tm.vs 4 w b 0 n d' os) (oTerms d'.toList) (.slice (some ⟨b, 0, none⟩) xs.toArray.size cap) = [b] := by
      rw [fp_own_some, fpEs_vals (terms d'.toList) _ 0 (terms_EsV (w := w) (B := fun _ => False) (M := fun _ => False) _) (fun j u hj => hcells j u hj), fpVs_noOwn _ (terms_noOwn _)]
    have hXb : X b := hX b (by rw [fp_own_some]; exact List.mem_cons_self ..)
    refine ⟨_, rfl, ⟨[.slice (some ⟨b, 0, none⟩) xs.toArray.size cap], [], ⟨[], rfl, rfl, rfl⟩, rfl, ?_, ⟨_, _, rfl, hread, rfl⟩, ?_, ?_⟩, ?_⟩
    · simp [terms, freshCs, D.fresh, cellsR]
    · show (fpDs _ [oTerms d'.toList] [_]).Nodup
      simp only [fpDs, List.headD_cons, hfp, List.append_nil]
      simp
    · intro y hy
      have hy : y ∈ fpDs _ [oTerms d'.toList] [_] := hy
      simp only [fpDs, List.headD_cons, hfp, List.append_nil, List.mem_singleton] at hy
      subst hy
      exact .inr hXb
    · refine ⟨rfl, rfl, rfl, ?_, ?_, Nat.le_add_right _ _⟩
      · rw [hW]; simp
      · intro y hy
        have hyb : y ≠ b := fun e => hy.2 (by rw [e]; exact hXb)
        have hylt : y < w.heap.size := hy.1
        rw [hW, Array.getElem?_append_left (by simpa using hylt), Array.getElem?_modify, if_neg (fun e => hyb e.symm)]

end Go.Sm

namespace Go.Sm
open Go.RowKit

/-- An entry of a sum. -/
abbrev sumE (p : Ex × Int) : List Int × Value := ([(p.1.a.toNat : Int), p.1.b.toNat, p.1.c.toNat], .int .i64 p.2)
abbrev sumM (l : List (Ex × Int)) : MD := ⟨.u8, 3, l.map fun p => sumE p⟩
abbrev sumD (l : List (Ex × Int)) : D := .mp (sumM l)

/-- What of a sum is not 0. -/
def kept (p : Int) (l : List (Ex × Int)) : List Tm := l.filterMap fun x => if x.2 % p = 0 then none else some ⟨x.1, x.2 % p⟩
def srt (l : List Tm) : List Tm := l.mergeSort fun a b => decide (a.e.key ≤ b.e.key)
def ofSum (p : Int) (l : List (Ex × Int)) : List Tm := srt (kept p l)

theorem srt_perm (l : List Tm) : (srt l).Perm l := List.mergeSort_perm l _
theorem srt_sorted {l : List Tm} (h : (l.map (·.e)).Nodup) : (srt l).Pairwise fun a b => cmpE a.e b.e < 0 := by
  have h1 : (srt l).Pairwise fun a b => decide (a.e.key ≤ b.e.key) = true := by
    refine List.pairwise_mergeSort ?_ ?_ l
    · intro a b c h1 h2
      rw [decide_eq_true_eq] at *; omega
    · intro a b
      simp only [Bool.or_eq_true, decide_eq_true_eq]; omega
  have h2 : ((srt l).map (·.e)).Nodup := (((srt_perm l).map _).nodup_iff).2 h
  have h3 : (srt l).Pairwise fun a b => a.e ≠ b.e := by
    rw [List.Nodup, List.pairwise_map] at h2
    exact h2
  refine (h1.and h3).imp fun {a b} hab => ?_
  rw [cmpE_key]
  have := hab.1
  rw [decide_eq_true_eq] at this
  have hne : a.e.key ≠ b.e.key := fun e => hab.2 (key_inj e)
  omega
theorem kept_keys {p : Int} : ∀ {l : List (Ex × Int)}, (l.map (·.1)).Nodup → ((kept p l).map (·.e)).Nodup
  | [], _ => by simp [kept]
  | x :: l, h => by
    simp only [List.map_cons, List.nodup_cons] at h
    have ih := kept_keys (p := p) h.2
    unfold kept at ih ⊢
    rw [List.filterMap_cons]
    split
    · exact ih
    · rename_i t ht
      split at ht
      · cases ht
      · simp only [Option.some.injEq] at ht; subst ht
        simp only [List.map_cons, List.nodup_cons]
        refine ⟨fun hm => h.1 ?_, ih⟩
        obtain ⟨t, ht, he⟩ := List.mem_map.1 hm
        obtain ⟨y, hy, hy2⟩ := List.mem_filterMap.1 ht
        split at hy2
        · cases hy2
        · simp only [Option.some.injEq] at hy2; subst hy2
          simp only at he
          rw [← he]; exact List.mem_map_of_mem hy
theorem kept_length (p : Int) (l : List (Ex × Int)) : (kept p l).length ≤ l.length := List.length_filterMap_le _ _

@[simp] theorem map_erase' {α γ : Type} (f : α → γ) (L : List α) (j : Nat) : (L.map f).eraseIdx j = (L.eraseIdx j).map f := map_erase f L j

theorem kept_take {p : Int} : ∀ {rem : List (Ex × Int)} {i : Nat} {x : Ex × Int}, rem[i]? = some x → (kept p rem).Perm (kept p [x] ++ kept p (rem.eraseIdx i))
  | [], i, x, h => by simp at h
  | y :: rem, 0, x, h => by
    simp at h; subst h
    simp only [List.eraseIdx_zero, List.tail_cons]
    have : kept p (y :: rem) = kept p [y] ++ kept p rem := by
      rw [show y :: rem = [y] ++ rem from rfl]
      unfold kept; rw [List.filterMap_append]
    rw [this]
  | y :: rem, i + 1, x, h => by
    have ih := kept_take (p := p) (rem := rem) (i := i) (x := x) (by simpa using h)
    have e1 : ∀ l, kept p (y :: l) = kept p [y] ++ kept p l := by
      intro l
      rw [show y :: l = [y] ++ l from rfl]
      unfold kept; rw [List.filterMap_append]
    rw [List.eraseIdx_cons_succ, e1 rem, e1 (rem.eraseIdx i)]
    refine (ih.append_left _).trans ?_
    rw [← List.append_assoc, ← List.append_assoc]
    exact List.Perm.append_right _ List.perm_append_comm

theorem poly_ok (p d : Int) (l : List (Ex × Int)) (hl : l.length ≤ 1048576) (hn : (l.map (·.1)).Nodup) (hp : 0 < p) (hp2 : p < 4000000000000000000) : CallOK Go.Proofs.Tryz.prog 94 [.one (sumD l), .one (i64 p), .one (i64 d)] (po p d (ofSum p l)) := by
  have hF := fnOk 41 [.cell 6 44]
  refine callOK hF 60 Go.Proofs.Tryz.func94 rfl rfl rfl (by decide) (by simp) rfl ?_
  intro w0 hw
  have S := @vc_sound w0 _ hF ⟨(po p d (ofSum p l)), []⟩ Go.Proofs.Tryz.f94 rfl (by simp)
  simp
  refine J.loop hw (fun q : List Tm × List (Ex × Int) × Option (List Int × Value) => ⟨[(1, .c (.d (i64 p))), (6, .c (.ref 64006 0)), (7, .c (.ref 64008 0)), (14, .c (.ref 64010 0))],
      [(64006, .var [.d (i64 0), .d (i64 0), .ob 64007]), (64007, .arr 70 4 []), (64008, .var [.d (i64 p), .d (i64 d), .ob 64009]), (64009, .arr 70 4 (terms q.1)), (64010, .it (sumM l) (q.2.1.map fun p => sumE p) q.2.2)]⟩)
    (fun q => (q.1 ++ kept p q.2.1).Perm (kept p l)) (fun q => q.2.1.length) ([], l, none) (by simp) (by simp) ?_
  rintro ⟨acc, rem, last⟩ hperm
  simp only at hperm
  refine S 60 _ _ ?_
  simp
  have hal : acc.length ≤ 1048576 := by
    have h1 := hperm.length_eq
    have h2 := kept_length p l
    simp only [List.length_append] at h1
    omega
  refine OpW.next (key := 64010) (m := sumM l) (rem := rem.map fun p => sumE p) (last := last) rfl rfl (by decide) (by rfl) (by rfl) (fun h0 => ?_) (fun i e he => ?_)
  · have h0 : rem = [] := by simpa using h0
    subst h0
    have hperm : acc.Perm (kept p l) := by simpa [kept] using hperm
    refine S 60 _ _ ?_
    simp
    refine CallW.mut (sortTerms_ok acc (ofSum p l) (by omega) ((srt_perm _).trans hperm.symm) (srt_sorted (kept_keys hn))) (by decide) (by simp) (by simp) (by simp) (by simp) (by simp) (by simp) ?_
    refine S 60 _ _ ?_
    simp
  · obtain ⟨x, hx, rfl⟩ : ∃ x, rem[i]? = some x ∧ e = sumE x := by
      rw [List.getElem?_map] at he
      cases hq : rem[i]? with
      | none => rw [hq] at he; cases he
      | some x => rw [hq] at he; simp only [Option.map_some, Option.some.injEq] at he; exact ⟨x, rfl, he.symm⟩
    have hr := tmod_range x.2 p hp
    have h0 : p ≠ 0 := by omega
    have hmod : (IntKind.i64.wrap (x.2.tmod p + p)).tmod p = x.2 % p := by rw [wrap64 (by omega) (by omega), tmod_mod _ _ hp]
    have hk := kept_take (p := p) hx
    have hdec : (rem.eraseIdx i).length < rem.length := by
      have := (List.getElem?_eq_some_iff.1 hx).1
      rw [List.length_eraseIdx]; split <;> omega
    refine S 60 _ _ ?_
    simp [keyFV, h0, hmod]
    refine ⟨fun hnz => ?_, fun hz => ?_⟩
    · have hk1 : kept p [x] = [⟨x.1, x.2 % p⟩] := by simp [kept, hnz]
      refine ⟨⟨by omega, by omega⟩, ?_⟩
      refine Nxt.mk (acc ++ [Tm.mk x.1 (x.2 % p)], rem.eraseIdx i, some (sumE x)) ?_ (by simp) hdec
      show ((acc ++ [Tm.mk x.1 (x.2 % p)]) ++ kept p (rem.eraseIdx i)).Perm (kept p l)
      rw [List.append_assoc, ← hk1]
      exact (hk.symm.append_left acc).trans hperm
    · have hk1 : kept p [x] = [] := by simp [kept, hz]
      refine Nxt.mk (acc, rem.eraseIdx i, some (sumE x)) ?_ (by simp) hdec
      show (acc ++ kept p (rem.eraseIdx i)).Perm (kept p l)
      rw [hk1, List.nil_append] at hk
      exact (hk.symm.append_left acc).trans hperm

end Go.Sm

namespace Go.Sm
open Go.RowKit

def by8 (n : Int) : UInt8 := UInt8.ofNat (n % 256).toNat
@[simp] theorem wrapu8 (n : Int) : IntKind.u8.wrap n = ((by8 n).toNat : Int) := by
  have h1 := Int.emod_nonneg n (show (256 : Int) ≠ 0 by decide)
  have h2 := Int.emod_lt_of_pos n (show (0 : Int) < 256 by decide)
  have : IntKind.u8.wrap n = n % 256 := by
    unfold IntKind.wrap
    simp [IntKind.signed, IntKind.bits]
  rw [this]
  unfold by8
  rw [UInt8.toNat_ofNat']
  omega
@[simp] theorem by8_toNat (x : UInt8) : by8 (x.toNat : Int) = x := by
  have := u8_lt x
  unfold by8
  apply UInt8.toNat_inj.1
  rw [UInt8.toNat_ofNat']
  omega

theorem eqExps_ok (x y : Ex) : CallOK Go.Proofs.Tryz.prog 92 [.agg x.ds, .agg y.ds] (.one (bo (decide (x = y)))) := by
  have hF := fnOk 17 [.tmp 4]
  refine callOK hF 60 Go.Proofs.Tryz.func92 rfl rfl rfl (by decide) (by simp) rfl ?_
  intro w0 hw
  have S := @vc_sound w0 _ hF ⟨(.one (bo (decide (x = y)))), []⟩ Go.Proofs.Tryz.f92 rfl (by simp)
  simp
  refine J.rounds 5 (LpW.step (S 60 _ _ ?_))
  simp
  refine J.dr hF mixed 6 [[], [0], [0, 1], [], [3], [3, 4], [0, 1, 2, 3, 4, 5]] [[10, 11, 12, 13, 14, 15], [11, 12, 13, 14, 15], [12, 13, 14, 15], [10, 11, 12, 13, 14, 15], [10, 11, 12, 14, 15], [10, 11, 12, 15]] (by decide) ?_
  simp
  refine S 60 _ _ ?_
  simp
  refine ⟨fun ha e => ha (by rw [e]), fun ha => LpW.inv (LpW.step (S 60 _ _ ?_))⟩
  simp
  refine J.dr hF mixed 6 [[], [0], [0, 1], [], [3], [3, 4], [0, 1, 2, 3, 4, 5]] [[10, 11, 12, 13, 14, 15], [11, 12, 13, 14, 15], [12, 13, 14, 15], [10, 11, 12, 13, 14, 15], [10, 11, 12, 14, 15], [10, 11, 12, 15]] (by decide) ?_
  simp
  refine S 60 _ _ ?_
  simp
  refine ⟨fun hb e => hb (by rw [e]), fun hb => LpW.inv (LpW.step (S 60 _ _ ?_))⟩
  simp
  refine J.dr hF mixed 6 [[], [0], [0, 1], [], [3], [3, 4], [0, 1, 2, 3, 4, 5]] [[10, 11, 12, 13, 14, 15], [11, 12, 13, 14, 15], [12, 13, 14, 15], [10, 11, 12, 13, 14, 15], [10, 11, 12, 14, 15], [10, 11, 12, 15]] (by decide) ?_
  simp
  refine S 60 _ _ ?_
  simp
  refine ⟨fun hc e => hc (by rw [e]), fun hc => LpW.inv (LpW.step (S 60 _ _ ?_))⟩
  simp
  cases x; cases y; simp_all

theorem eqTerm_ok (x y : Tm) : CallOK Go.Proofs.Tryz.prog 73 [.agg [u8 x.e.a, u8 x.e.b, u8 x.e.c, i64 x.v], .agg [u8 y.e.a, u8 y.e.b, u8 y.e.c, i64 y.v]] (.one (bo (decide (x = y)))) := by
  have hF := fnOk 16 [.tmp 4]
  refine callOK hF 60 Go.Proofs.Tryz.func73 rfl rfl rfl (by decide) (by simp) rfl ?_
  intro w0 hw
  have S := @vc_sound w0 _ hF ⟨(.one (bo (decide (x = y)))), []⟩ Go.Proofs.Tryz.f73 rfl (by simp)
  have c1 := eqExps_ok x.e y.e
  simp
  by_cases he : x.e = y.e
  · rw [decide_eq_true he] at c1
    refine CallW.ok (by decide) (by simp) c1 (by simp) (S 60 _ _ ?_)
    simp
    refine ⟨fun hv e => hv (by rw [e]), fun hv => ?_⟩
    cases x; cases y; simp_all
  · rw [decide_eq_false he] at c1
    refine CallW.ok (by decide) (by simp) c1 (by simp) (S 60 _ _ ?_)
    simp
    exact fun e => he (by rw [e])

theorem eqTermS_ok (xs ys : List Tm) (hl : xs.length ≤ 2000000) : CallOK Go.Proofs.Tryz.prog 49 [.one (vTerms xs), .one (vTerms ys)] (.one (bo (decide (xs = ys)))) := by
  have hF := fnOk 27 [.tmp 4]
  refine callOK hF 60 Go.Proofs.Tryz.func49 rfl rfl rfl (by decide) (by simp) rfl ?_
  intro w0 hw
  have S := @vc_sound w0 _ hF ⟨(.one (bo (decide (xs = ys)))), []⟩ Go.Proofs.Tryz.f49 rfl (by simp)
  simp
  refine ⟨fun hne e => hne (by rw [e]), fun he => ?_⟩
  refine J.loop hw (fun i : Nat => ⟨[(0, .c (.d (vTerms xs))), (1, .c (.d (vTerms ys))), (5, .c (.d (i64 i)))], []⟩)
    (fun i => i ≤ xs.length ∧ xs.take i = ys.take i) (fun i => xs.length - i) 0 (by simp) (by simp) ?_
  rintro i ⟨hi, ht⟩
  refine S 60 _ _ ?_
  simp
  refine ⟨fun hlt => ?_, fun hge => ?_⟩
  · refine J.dr hF mixed 8 [[], [], [0, 1], [0, 1, 2], [], [], [4, 5], [4, 5, 6], [0, 1, 2, 3, 4, 5, 6, 7], [0, 1, 2, 3, 4, 5, 6, 7, 8]] [[17, 18, 19, 20, 21, 22, 23, 24], [17, 18, 19, 20, 21, 22, 23, 24], [19, 20, 21, 22, 23, 24], [20, 21, 22, 23, 24], [17, 18, 19, 20, 21, 22, 23, 24], [17, 18, 19, 20, 21, 22, 23, 24], [17, 18, 19, 20, 23, 24], [17, 18, 19, 20, 24]] (by decide) ?_
    simp
    refine ⟨hlt, fun a ha => ⟨by omega, fun b hb => ?_⟩⟩
    have c1 := eqTerm_ok a b
    by_cases hab : a = b
    · rw [decide_eq_true hab] at c1
      refine S 60 _ _ ?_
      simp
      refine CallW.ok (by decide) (by simp) c1 (by simp) (S 60 _ _ ?_)
      simp
      subst hab
      refine Nxt.mk (i + 1) ⟨hlt, ?_⟩ (by simp [wrapS (i := i) (n := xs.length) hlt (by omega)]) (by omega)
      rw [List.take_add_one, List.take_add_one, ht, ha, hb]
    · rw [decide_eq_false hab] at c1
      refine S 60 _ _ ?_
      simp
      refine CallW.ok (by decide) (by simp) c1 (by simp) (S 60 _ _ ?_)
      simp
      intro e
      subst e
      rw [ha] at hb
      exact hab (Option.some.inj hb)
  · have h1 : xs = xs.take i := by rw [List.take_of_length_le (by omega)]
    have h2 : ys = ys.take i := by rw [List.take_of_length_le (by omega)]
    rw [h1, h2, ht]

theorem eqPoly_ok (p d p' d' : Int) (xs ys : List Tm) (hl : xs.length ≤ 2000000) : CallOK Go.Proofs.Tryz.prog 25 [pv p d xs, pv p' d' ys] (.one (bo (decide (p = p' ∧ d = d' ∧ xs = ys)))) := by
  have hF := fnOk 21 [.tmp 4]
  refine callOK hF 60 Go.Proofs.Tryz.func25 rfl rfl rfl (by decide) (by simp) rfl ?_
  intro w0 hw
  have S := @vc_sound w0 _ hF ⟨(.one (bo (decide (p = p' ∧ d = d' ∧ xs = ys)))), []⟩ Go.Proofs.Tryz.f25 rfl (by simp)
  have c1 := eqTermS_ok xs ys hl
  by_cases hp : p = p'
  · by_cases hd : d = d'
    · subst hp; subst hd
      have e : decide (p = p ∧ d = d ∧ xs = ys) = decide (xs = ys) := by simp
      rw [e] at S ⊢
      simp
      refine CallW.ok (by decide) (by simp) c1 (by simp) (S 60 _ _ ?_)
      by_cases hx : xs = ys
      · rw [decide_eq_true hx]; simp
      · rw [decide_eq_false hx]; simp
    · have hb : (d != d') = true := by simpa using hd
      have e : decide (p = p' ∧ d = d' ∧ xs = ys) = false := by simp [hd]
      rw [e]
      have hb0 : (p != p') = false := by simpa using hp
      simp [hb0, hb]
  · have hb : (p != p') = true := by simpa using hp
    have e : decide (p = p' ∧ d = d' ∧ xs = ys) = false := by simp [hp]
    rw [e]
    simp [hb]

end Go.Sm

namespace Go.Sm
open Go.RowKit

abbrev exs (es : List Ex) : List (List D) := es.map fun e => [u8 e.a, u8 e.b, u8 e.c]
abbrev oExs (es : List Ex) : D := .own 68 3 (exs es)
/-- f (k - 1), f (k - 2), .. -/
def downTo (f : Nat → List Ex) : Nat → List Ex
  | 0 => []
  | k + 1 => f k ++ downTo f k
theorem downTo_len {f : Nat → List Ex} {m : Nat} (h : ∀ k, (f k).length ≤ m) : ∀ k, (downTo f k).length ≤ k * m
  | 0 => by simp [downTo]
  | k + 1 => by
    have := downTo_len h k
    have := h k
    rw [downTo, List.length_append, Nat.add_mul]; omega
def mkE (a b c : Nat) : Ex := ⟨by8 a, by8 b, by8 c⟩
/-- Is it a monomial in d letters. -/
def inD (d : Int) (b c : Nat) : Prop := ¬ (d < 2 ∧ 0 < b) ∧ ¬ (d < 3 ∧ 0 < c)
instance (d : Int) (b c : Nat) : Decidable (inD d b c) := by unfold inD; infer_instance
def monRow (d : Int) (n a : Nat) (b : Nat) : List Ex := if inD d b (n - a - b) then [mkE a b (n - a - b)] else []
def mons (d : Int) (n : Nat) : List Ex := downTo (fun a => downTo (monRow d n a) (n - a + 1)) (n + 1)
theorem monRow_len (d : Int) (n a b : Nat) : (monRow d n a b).length ≤ 1 := by unfold monRow; split <;> simp
theorem mons_len (d : Int) (n : Nat) (hn : n ≤ 12) : (mons d n).length ≤ 169 := by
  have h : ∀ a, (downTo (monRow d n a) (n - a + 1)).length ≤ 13 := by
    intro a
    have := downTo_len (monRow_len d n a) (n - a + 1)
    omega
  have := downTo_len h (n + 1)
  unfold mons
  omega

set_option maxRecDepth 4000 in
set_option maxHeartbeats 1000000 in
theorem monomials_ok (d : Int) (n : Nat) (hd : 1 ≤ d ∧ d ≤ 3) (hn : n ≤ 12) : CallOK Go.Proofs.Tryz.prog 74 [.one (i64 d), .one (i64 n)] (.one (oExs (mons d n))) := by
  have hF := fnOk 52 [.tmp 4]
  refine callOK hF 60 Go.Proofs.Tryz.func74 rfl rfl rfl (by decide) (by simp) rfl ?_
  intro w0 hw
  have S := @vc_sound w0 _ hF ⟨(.one (oExs (mons d n))), []⟩ Go.Proofs.Tryz.f74 rfl (by simp)
  have hml := mons_len d n hn
  simp
  refine J.loop hw (fun q : Nat × List Ex => ⟨[(0, .c (.d (i64 d))), (1, .c (.d (i64 n))), (5, .c (.ob 64005)), (6, .c (.d (i64 ((q.1 : Int) - 1))))], [(64005, .arr 68 3 (exs q.2))]⟩)
    (fun q => q.1 ≤ n + 1 ∧ q.2 ++ downTo (fun a => downTo (monRow d n a) (n - a + 1)) q.1 = mons d n) (fun q => q.1) (n + 1, []) (by simp [mons]) (by simp) ?_
  rintro ⟨A, acc⟩ ⟨hA, hacc⟩
  simp only at hA hacc
  cases A with
  | zero =>
    have : acc = mons d n := by simpa [downTo] using hacc
    refine S 60 _ _ ?_
    simp [this]
  | succ a =>
    have w1 : IntKind.i64.wrap ((n : Int) - a) = ((n - a : Nat) : Int) := by rw [wrap64 (by omega) (by omega)]; omega
    have hge : (0 : Int) ≤ a := by omega
    refine S 60 _ _ ?_
    simp [w1]
    refine J.loop hw (fun q : Nat × List Ex => ⟨[(0, .c (.d (i64 d))), (1, .c (.d (i64 n))), (5, .c (.ob 64005)), (6, .c (.d (i64 (a : Int)))), (7, .c (.d (i64 ((q.1 : Int) - 1))))], [(64005, .arr 68 3 (exs q.2))]⟩)
      (fun q => q.1 ≤ n - a + 1 ∧ q.2 ++ (downTo (monRow d n a) q.1 ++ downTo (fun a => downTo (monRow d n a) (n - a + 1)) a) = mons d n) (fun q => q.1) (n - a + 1, acc) (by simpa [downTo] using hacc) (by simp) ?_
    rintro ⟨B, acc⟩ ⟨hB, hacc⟩
    simp only at hB hacc
    have hal : acc.length ≤ 169 := by
      have := congrArg List.length hacc
      simp only [List.length_append] at this
      omega
    cases B with
    | zero =>
      refine S 60 _ _ ?_
      simp
      refine Nxt.mk (a, acc) ⟨by show a ≤ n + 1; omega, by simpa [downTo] using hacc⟩ ?_ (by show a < a + 1; omega)
      have w2 : IntKind.i64.wrap ((a : Int) - 1) = (a : Int) - 1 := wrap64 (by omega) (by omega)
      simp [w2]
    | succ b =>
      have w3 : IntKind.i64.wrap ((n : Int) - a - b) = ((n - a - b : Nat) : Int) := by rw [wrap64 (by omega) (by omega)]; omega
      have w3' : IntKind.i64.wrap (((n - a : Nat) : Int) - b) = ((n - a - b : Nat) : Int) := by rw [wrap64 (by omega) (by omega)]; omega
      have w4 : IntKind.i64.wrap ((b : Int) - 1) = (b : Int) - 1 := wrap64 (by omega) (by omega)
      have hskip : ¬ inD d b (n - a - b) → b ≤ n - a + 1 ∧ acc ++ (downTo (monRow d n a) b ++ downTo (fun a => downTo (monRow d n a) (n - a + 1)) a) = mons d n := by
        intro h
        have hm : monRow d n a b = [] := by unfold monRow; rw [if_neg h]
        refine ⟨by omega, ?_⟩
        rw [← hacc]; simp [downTo, hm]
      have hput : inD d b (n - a - b) → b ≤ n - a + 1 ∧ (acc ++ [mkE a b (n - a - b)]) ++ (downTo (monRow d n a) b ++ downTo (fun a => downTo (monRow d n a) (n - a + 1)) a) = mons d n := by
        intro h
        have hm : monRow d n a b = [mkE a b (n - a - b)] := by unfold monRow; rw [if_pos h]
        refine ⟨by omega, ?_⟩
        rw [← hacc]; simp [downTo, hm]
      have hb2 : (acc.length + 1) * 3 ≤ 140737488355328 := by omega
      by_cases h2 : d < 2
      · by_cases hb : 0 < b
        · have hbn : ¬ b = 0 := by omega
          refine S 90 _ _ ?_
          simp [w1, w3', h2, hb]
          refine Nxt.mk (b, acc) (hskip (by unfold inD; omega)) (by simp [w4]) (by show b < b + 1; omega)
        · have hb0 : b = 0 := by omega
          have h3 : d < 3 := by omega
          by_cases hc : 0 < n - a - b
          · have hcn : ¬ n - a - b = 0 := by omega
            refine S 90 _ _ ?_
            simp [w1, w3', h2, h3, hb, hc]
            refine Nxt.mk (b, acc) (hskip (by unfold inD; omega)) (by simp [w4]) (by show b < b + 1; omega)
          · refine S 90 _ _ ?_
            simp [w1, w3', h2, h3, hb, hc]
            refine ⟨⟨by omega, by omega⟩, ?_⟩
            refine Nxt.mk (b, acc ++ [mkE a b (n - a - b)]) (hput (by unfold inD; omega)) (by simp [w4, mkE]) (by show b < b + 1; omega)
      · by_cases h3 : d < 3
        · by_cases hc : 0 < n - a - b
          · have hcn : ¬ n - a - b = 0 := by omega
            refine S 90 _ _ ?_
            simp [w1, w3', h2, h3, hc]
            refine Nxt.mk (b, acc) (hskip (by unfold inD; omega)) (by simp [w4]) (by show b < b + 1; omega)
          · refine S 90 _ _ ?_
            simp [w1, w3', h2, h3, hc]
            refine ⟨⟨by omega, by omega⟩, ?_⟩
            refine Nxt.mk (b, acc ++ [mkE a b (n - a - b)]) (hput (by unfold inD; omega)) (by simp [w4, mkE]) (by show b < b + 1; omega)
        · refine S 90 _ _ ?_
          simp [w1, w3', h2, h3]
          refine ⟨⟨by omega, by omega⟩, ?_⟩
          refine Nxt.mk (b, acc ++ [mkE a b (n - a - b)]) (hput (by unfold inD; omega)) (by simp [w4, mkE]) (by show b < b + 1; omega)

theorem by8_nat {n : Nat} (h : n < 256) : (by8 (n : Int)).toNat = n := by
  unfold by8
  rw [UInt8.toNat_ofNat']
  omega
theorem by8_zero {n : Nat} (h : n < 256) : by8 (n : Int) = 0 ↔ n = 0 := by
  refine ⟨fun e => ?_, fun e => by subst e; rfl⟩
  have := by8_nat h
  rw [e] at this
  exact this.symm
theorem inV_mkE {d : Int} {a b c : Nat} (hd : 1 ≤ d) (h : a + b + c ≤ 12) : InV d (mkE a b c) ↔ inD d b c := by
  unfold InV inD mkE Ex.deg
  simp only [by8_zero (show b < 256 by omega), by8_zero (show c < 256 by omega), by8_nat (show a < 256 by omega), by8_nat (show b < 256 by omega), by8_nat (show c < 256 by omega)]
  omega

set_option maxRecDepth 4000 in
set_option maxHeartbeats 1000000 in
theorem l01Monomials_ok (d : Int) (n : Nat) (hd : 1 ≤ d ∧ d ≤ 3) (hn : n ≤ 12) : CallOK Go.Proofs.Tryz.prog 66 [.one (i64 d), .one (i64 n)] (.one (oExs (mons d n))) := by
  have hF := fnOk 41 [.tmp 4]
  refine callOK hF 60 Go.Proofs.Tryz.func66 rfl rfl rfl (by decide) (by simp) rfl ?_
  intro w0 hw
  have S := @vc_sound w0 _ hF ⟨(.one (oExs (mons d n))), []⟩ Go.Proofs.Tryz.f66 rfl (by simp)
  have hml := mons_len d n hn
  simp
  refine J.loop hw (fun q : Nat × List Ex => ⟨[(0, .c (.d (i64 d))), (1, .c (.d (i64 n))), (5, .c (.ob 64005)), (6, .c (.d (i64 ((q.1 : Int) - 1))))], [(64005, .arr 68 3 (exs q.2))]⟩)
    (fun q => q.1 ≤ n + 1 ∧ q.2 ++ downTo (fun a => downTo (monRow d n a) (n - a + 1)) q.1 = mons d n) (fun q => q.1) (n + 1, []) (by simp [mons]) (by simp) ?_
  rintro ⟨A, acc⟩ ⟨hA, hacc⟩
  simp only at hA hacc
  cases A with
  | zero =>
    have : acc = mons d n := by simpa [downTo] using hacc
    refine S 60 _ _ ?_
    simp [this]
  | succ a =>
    have w1 : IntKind.i64.wrap ((n : Int) - a) = ((n - a : Nat) : Int) := by rw [wrap64 (by omega) (by omega)]; omega
    have hge : (0 : Int) ≤ a := by omega
    refine S 60 _ _ ?_
    simp [w1]
    refine J.loop hw (fun q : Nat × List Ex => ⟨[(0, .c (.d (i64 d))), (1, .c (.d (i64 n))), (5, .c (.ob 64005)), (6, .c (.d (i64 (a : Int)))), (7, .c (.d (i64 ((q.1 : Int) - 1))))], [(64005, .arr 68 3 (exs q.2))]⟩)
      (fun q => q.1 ≤ n - a + 1 ∧ q.2 ++ (downTo (monRow d n a) q.1 ++ downTo (fun a => downTo (monRow d n a) (n - a + 1)) a) = mons d n) (fun q => q.1) (n - a + 1, acc) (by simpa [downTo] using hacc) (by simp) ?_
    rintro ⟨B, acc⟩ ⟨hB, hacc⟩
    simp only at hB hacc
    have hal : acc.length ≤ 169 := by
      have := congrArg List.length hacc
      simp only [List.length_append] at this
      omega
    cases B with
    | zero =>
      refine S 60 _ _ ?_
      simp
      refine Nxt.mk (a, acc) ⟨by show a ≤ n + 1; omega, by simpa [downTo] using hacc⟩ ?_ (by show a < a + 1; omega)
      have w2 : IntKind.i64.wrap ((a : Int) - 1) = (a : Int) - 1 := wrap64 (by omega) (by omega)
      simp [w2]
    | succ b =>
      have w3 : IntKind.i64.wrap ((n : Int) - a - b) = ((n - a - b : Nat) : Int) := by rw [wrap64 (by omega) (by omega)]; omega
      have w3' : IntKind.i64.wrap (((n - a : Nat) : Int) - b) = ((n - a - b : Nat) : Int) := by rw [wrap64 (by omega) (by omega)]; omega
      have w4 : IntKind.i64.wrap ((b : Int) - 1) = (b : Int) - 1 := wrap64 (by omega) (by omega)
      have hskip : ¬ inD d b (n - a - b) → b ≤ n - a + 1 ∧ acc ++ (downTo (monRow d n a) b ++ downTo (fun a => downTo (monRow d n a) (n - a + 1)) a) = mons d n := by
        intro h
        have hm : monRow d n a b = [] := by unfold monRow; rw [if_neg h]
        refine ⟨by omega, ?_⟩
        rw [← hacc]; simp [downTo, hm]
      have hput : inD d b (n - a - b) → b ≤ n - a + 1 ∧ (acc ++ [mkE a b (n - a - b)]) ++ (downTo (monRow d n a) b ++ downTo (fun a => downTo (monRow d n a) (n - a + 1)) a) = mons d n := by
        intro h
        have hm : monRow d n a b = [mkE a b (n - a - b)] := by unfold monRow; rw [if_pos h]
        refine ⟨by omega, ?_⟩
        rw [← hacc]; simp [downTo, hm]
      have c1 := l01Exps_ok d (mkE a b (n - a - b)) hd.1 hd.2
      have hiff : InV d (mkE a b (n - a - b)) ↔ inD d b (n - a - b) := inV_mkE hd.1 (by omega)
      by_cases h : inD d b (n - a - b)
      · rw [decide_eq_true (hiff.2 h)] at c1
        refine S 90 _ _ ?_
        simp [w1, w3']
        refine CallW.ok (by decide) (by simp [mkE]) c1 (by simp) (S 60 _ _ ?_)
        simp
        refine ⟨⟨by omega, by omega⟩, ?_⟩
        refine Nxt.mk (b, acc ++ [mkE a b (n - a - b)]) (hput h) (by simp [w4, mkE]) (by show b < b + 1; omega)
      · rw [decide_eq_false (fun q => h (hiff.1 q))] at c1
        refine S 90 _ _ ?_
        simp [w1, w3']
        refine CallW.ok (by decide) (by simp [mkE]) c1 (by simp) (S 60 _ _ ?_)
        simp
        refine Nxt.mk (b, acc) (hskip h) (by simp [w4]) (by show b < b + 1; omega)

end Go.Sm

namespace Go.Sm
open Go.RowKit

abbrev Asc (ts : List Tm) : Prop := ts.Pairwise fun a b => cmpE a.e b.e < 0
/-- Canonical terms. -/
def Can (p : Int) (ts : List Tm) : Prop := Asc ts ∧ ∀ t ∈ ts, 1 ≤ t.v ∧ t.v < p

theorem coef_none : ∀ {ts : List Tm} {e : Ex}, (∀ t ∈ ts, t.e ≠ e) → coef ts e = 0
  | [], _, _ => rfl
  | t :: ts, e, h => by
    rw [coef, if_neg (h t (List.mem_cons_self ..))]
    exact coef_none fun u hu => h u (List.mem_cons_of_mem _ hu)
theorem asc_ne {t : Tm} {ts : List Tm} (h : Asc (t :: ts)) : ∀ u ∈ ts, u.e ≠ t.e := by
  intro u hu e
  have := (List.pairwise_cons.1 h).1 u hu
  rw [e, cmpE_self] at this; omega
theorem coef_mem : ∀ {ts : List Tm} {t : Tm}, (ts.map (·.e)).Nodup → t ∈ ts → coef ts t.e = t.v
  | [], t, _, h => by cases h
  | u :: ts, t, hn, h => by
    simp only [List.map_cons, List.nodup_cons] at hn
    rcases List.mem_cons.1 h with rfl | h
    · simp [coef]
    · have : u.e ≠ t.e := fun e => hn.1 (by rw [e]; exact List.mem_map_of_mem h)
      rw [coef, if_neg this]; exact coef_mem hn.2 h
theorem asc_nodup {ts : List Tm} (h : Asc ts) : (ts.map (·.e)).Nodup := by
  rw [List.Nodup, List.pairwise_map]
  refine h.imp fun {a b} hab e => ?_
  rw [e, cmpE_self] at hab; omega
theorem coef_perm {xs ys : List Tm} (h : xs.Perm ys) (hn : (ys.map (·.e)).Nodup) (e : Ex) : coef xs e = coef ys e := by
  have hn' : (xs.map (·.e)).Nodup := ((h.map _).nodup_iff).2 hn
  by_cases hx : ∃ t ∈ xs, t.e = e
  · obtain ⟨t, ht, rfl⟩ := hx
    rw [coef_mem hn' ht, coef_mem hn (h.subset ht)]
  · have h1 : ∀ t ∈ xs, t.e ≠ e := fun t ht he => hx ⟨t, ht, he⟩
    rw [coef_none h1, coef_none fun t ht => h1 t (h.symm.subset ht)]

/-- Canonical terms with the same coefficients are the same. -/
theorem can_ext {p : Int} : ∀ {xs ys : List Tm}, Can p xs → Can p ys → (∀ e, coef xs e = coef ys e) → xs = ys
  | [], [], _, _, _ => rfl
  | [], u :: ys, _, hy, h => by
    have := h u.e
    simp only [coef, if_true] at this
    have := hy.2 u (List.mem_cons_self ..); omega
  | t :: xs, [], hx, _, h => by
    have := h t.e
    simp only [coef, if_true] at this
    have := hx.2 t (List.mem_cons_self ..); omega
  | t :: xs, u :: ys, hx, hy, h => by
    have ht := hx.2 t (List.mem_cons_self ..)
    have hu := hy.2 u (List.mem_cons_self ..)
    obtain ⟨a1, a2⟩ := List.pairwise_cons.1 hx.1
    obtain ⟨b1, b2⟩ := List.pairwise_cons.1 hy.1
    have htu : t.e = u.e := by
      apply Decidable.byContradiction
      intro hne
      have hk : t.e.key ≠ u.e.key := fun e => hne (key_inj e)
      rcases Int.lt_or_gt_of_ne hk with hlt | hlt
      · have h0 : coef (u :: ys) t.e = 0 := coef_none fun w hw => by
          rcases List.mem_cons.1 hw with rfl | hw
          · exact fun e => hne e.symm
          · have := (cmpE_key _ _).1 (b1 w hw)
            intro e; rw [e] at this; omega
        have := h t.e
        rw [h0] at this
        simp only [coef, if_true] at this; omega
      · have h0 : coef (t :: xs) u.e = 0 := coef_none fun w hw => by
          rcases List.mem_cons.1 hw with rfl | hw
          · exact hne
          · have := (cmpE_key _ _).1 (a1 w hw)
            intro e; rw [e] at this; omega
        have := h u.e
        rw [h0] at this
        simp only [coef, if_true] at this; omega
    have hv : t.v = u.v := by
      have := h t.e
      simp only [coef, if_true, htu] at this; exact this
    have : t = u := by cases t; cases u; simp_all
    subst this
    congr 1
    refine can_ext ⟨a2, fun w hw => hx.2 w (List.mem_cons_of_mem _ hw)⟩ ⟨b2, fun w hw => hy.2 w (List.mem_cons_of_mem _ hw)⟩ fun e => ?_
    by_cases he : t.e = e
    · subst he
      rw [coef_none (asc_ne hx.1), coef_none (asc_ne hy.1)]
    · have := h e
      simpa only [coef, if_neg he] using this

/-! ### a number put to a coefficient -/
theorem putGo_true (e : Ex) (v : Int) : ∀ (ts : List Tm), putGo e v true ts = ts.filter fun t => t.e ≠ e
  | [] => rfl
  | t :: ts => by
    simp only [putGo, Bool.true_or]
    rw [putGo_true e v ts]
    by_cases h : t.e = e <;> simp [h]
theorem coef_filter {e e' : Ex} : ∀ (ts : List Tm), coef (ts.filter fun t => t.e ≠ e) e' = if e' = e then 0 else coef ts e'
  | [] => by simp [coef]
  | t :: ts => by
    have ih := coef_filter (e := e) (e' := e') ts
    rw [List.filter_cons]
    by_cases h : t.e = e
    · rw [if_neg (by simpa using h), ih]
      by_cases h2 : e' = e
      · simp [h2]
      · rw [if_neg h2, if_neg h2, coef, if_neg (fun q => h2 (by rw [← q, h]))]
    · rw [if_pos (by simpa using h), coef, ih]
      by_cases h2 : e' = e
      · rw [if_pos h2, if_pos h2, if_neg (fun q => h (by rw [q, h2]))]
      · rw [if_neg h2, if_neg h2, coef]
theorem putGo_coef {e e' : Ex} {v : Int} : ∀ {ts : List Tm}, Asc ts → coef (putGo e v false ts) e' = if e' = e then v else coef ts e'
  | [], _ => by
    simp only [putGo, coef, Bool.false_eq_true, if_false]
    by_cases h : e' = e
    · simp [h]
    · rw [if_neg (fun q => h q.symm), if_neg h]
  | t :: ts, hs => by
    obtain ⟨h1, h2⟩ := List.pairwise_cons.1 hs
    have ih := putGo_coef (e := e) (e' := e') (v := v) h2
    by_cases hlt : cmpE e t.e < 0
    · have hne : t.e ≠ e := fun q => by rw [q, cmpE_self] at hlt; omega
      simp only [putGo, hlt, decide_true, Bool.or_true, and_self, if_true, if_neg hne, List.cons_append, List.nil_append, coef, putGo_true, coef_filter]
      by_cases h : e' = e
      · simp [h]
      · rw [if_neg (fun q => h q.symm), if_neg h, if_neg h]
    · by_cases he : t.e = e
      · simp only [putGo, hlt, and_false, if_false, if_pos he, List.nil_append, decide_false, Bool.or_false, ih]
        by_cases h : e' = e
        · rw [if_pos h, if_pos h]
        · rw [if_neg h, if_neg h, coef, if_neg (fun q => h (by rw [← q, he]))]
      · simp only [putGo, hlt, and_false, if_false, if_neg he, List.nil_append, List.cons_append, decide_false, Bool.or_false, coef, ih]
        by_cases h : e' = e
        · rw [if_pos h, if_pos h, if_neg (fun q => he (by rw [q, h]))]
        · rw [if_neg h, if_neg h]
theorem putGo_mem {e : Ex} {v : Int} : ∀ {ts : List Tm} {b : Bool} {t : Tm}, t ∈ putGo e v b ts → t = ⟨e, v⟩ ∧ b = false ∨ t ∈ ts ∧ t.e ≠ e
  | [], b, t, h => by
    cases b <;> simp [putGo] at h
    exact .inl ⟨h, rfl⟩
  | u :: ts, b, t, h => by
    simp only [putGo, List.mem_append] at h
    rcases h with h | h | h
    · split at h
      · rename_i hb; simp only [List.mem_singleton] at h; exact .inl ⟨h, hb.1⟩
      · cases h
    · split at h
      · cases h
      · rename_i hu; simp only [List.mem_singleton] at h; exact .inr ⟨by rw [h]; exact List.mem_cons_self .., by rw [h]; exact hu⟩
    · rcases putGo_mem h with ⟨h1, h2⟩ | ⟨h1, h2⟩
      · cases b <;> simp at h2
        exact .inl ⟨h1, rfl⟩
      · exact .inr ⟨List.mem_cons_of_mem _ h1, h2⟩
theorem putGo_asc {e : Ex} {v : Int} : ∀ {ts : List Tm}, Asc ts → Asc (putGo e v false ts)
  | [], _ => by simp [putGo]
  | t :: ts, hs => by
    obtain ⟨h1, h2⟩ := List.pairwise_cons.1 hs
    by_cases hlt : cmpE e t.e < 0
    · have hne : t.e ≠ e := fun q => by rw [q, cmpE_self] at hlt; omega
      have hall : ∀ u ∈ t :: ts, cmpE e u.e < 0 := by
        intro u hu
        rcases List.mem_cons.1 hu with rfl | hu
        · exact hlt
        · have q1 := (cmpE_key _ _).1 hlt
          have q2 := (cmpE_key _ _).1 (h1 u hu)
          exact (cmpE_key _ _).2 (by omega)
      have hf : ts.filter (fun u => u.e ≠ e) = ts := List.filter_eq_self.2 fun u hu => by
        have := hall u (List.mem_cons_of_mem _ hu)
        have : u.e ≠ e := fun q => by rw [q, cmpE_self] at this; omega
        simpa using this
      simp only [putGo, hlt, decide_true, Bool.or_true, and_self, if_true, if_neg hne, List.cons_append, List.nil_append, putGo_true, hf]
      exact List.pairwise_cons.2 ⟨hall, hs⟩
    · by_cases he : t.e = e
      · simp only [putGo, hlt, and_false, if_false, if_pos he, List.nil_append, decide_false, Bool.or_false]
        exact putGo_asc h2
      · simp only [putGo, hlt, and_false, if_false, if_neg he, List.nil_append, List.cons_append, decide_false, Bool.or_false]
        refine List.pairwise_cons.2 ⟨fun u hu => ?_, putGo_asc h2⟩
        rcases putGo_mem hu with ⟨rfl, _⟩ | ⟨hu, _⟩
        · rw [cmpE_key] at *
          have : e.key ≠ t.e.key := fun q => he (key_inj q).symm
          simp only; omega
        · exact h1 u hu
theorem putT_can {p : Int} {ts : List Tm} (hp : 0 < p) (h : Can p ts) (e : Ex) (v : Int) : Can p (putT p ts e v) ∧ ∀ e', coef (putT p ts e v) e' = if e' = e then (v + coef ts e) % p else coef ts e' := by
  unfold putT
  have q1 := Int.emod_nonneg (v + coef ts e) (show p ≠ 0 by omega)
  have q2 := Int.emod_lt_of_pos (v + coef ts e) hp
  by_cases h0 : (v + coef ts e) % p = 0
  · have : ((v + coef ts e) % p == 0) = true := by simpa using h0
    rw [this, putGo_true]
    refine ⟨⟨h.1.sublist List.filter_sublist, fun t ht => h.2 t (List.mem_filter.1 ht).1⟩, fun e' => ?_⟩
    rw [coef_filter, h0]
  · have : ((v + coef ts e) % p == 0) = false := by simpa using h0
    rw [this]
    refine ⟨⟨putGo_asc h.1, fun t ht => ?_⟩, fun e' => putGo_coef h.1⟩
    rcases putGo_mem ht with ⟨rfl, _⟩ | ⟨ht, _⟩
    · simp only; omega
    · exact h.2 t ht
theorem can_nil (p : Int) : Can p [] := ⟨List.Pairwise.nil, fun _ h => by cases h⟩
theorem coef_bound {p : Int} {ts : List Tm} (hp : 0 < p) (h : Can p ts) (e : Ex) : 0 ≤ coef ts e ∧ coef ts e < p := by
  by_cases hx : ∃ t ∈ ts, t.e = e
  · obtain ⟨t, ht, rfl⟩ := hx
    rw [coef_mem (asc_nodup h.1) ht]
    have := h.2 t ht; omega
  · rw [coef_none fun t ht he => hx ⟨t, ht, he⟩]; omega
theorem putGo_length {e : Ex} {v : Int} : ∀ {ts : List Tm} {b : Bool}, (putGo e v b ts).length ≤ ts.length + (if b then 0 else 1)
  | [], b => by cases b <;> simp [putGo]
  | t :: ts, b => by
    have ih := putGo_length (e := e) (v := v) (ts := ts) (b := b || decide (cmpE e t.e < 0))
    simp only [putGo, List.length_append, List.length_cons]
    by_cases h1 : cmpE e t.e < 0 <;> by_cases h2 : t.e = e <;> cases b <;> simp [h1, h2, cmpE_self] at ih ⊢ <;> omega
theorem putT_length (p : Int) (ts : List Tm) (e : Ex) (v : Int) : (putT p ts e v).length ≤ ts.length + 1 := by
  have := putGo_length (e := e) (v := (v + coef ts e) % p) (ts := ts) (b := (v + coef ts e) % p == 0)
  unfold putT
  split at this <;> omega

/-! ### sums -/
def sget : List (Ex × Int) → Ex → Int
  | [], _ => 0
  | x :: l, e => if x.1 = e then x.2 else sget l e
def sput : List (Ex × Int) → Ex → Int → List (Ex × Int)
  | [], e, v => [(e, v)]
  | x :: l, e, v => if x.1 = e then (e, v) :: l else x :: sput l e v
theorem sget_sput (e e' : Ex) (v : Int) : ∀ l, sget (sput l e v) e' = if e' = e then v else sget l e'
  | [] => by
    simp only [sput, sget]
    by_cases h : e' = e
    · simp [h]
    · rw [if_neg (fun q => h q.symm), if_neg h]
  | x :: l => by
    simp only [sput]
    by_cases hx : x.1 = e
    · rw [if_pos hx]
      simp only [sget]
      by_cases h : e' = e
      · simp [h]
      · rw [if_neg (fun q => h q.symm), if_neg h, if_neg (fun q => h (by rw [← q, hx]))]
    · rw [if_neg hx]
      simp only [sget, sget_sput e e' v l]
      by_cases h : e' = e
      · rw [if_pos h, if_pos h, if_neg (fun q => hx (by rw [q, h]))]
      · rw [if_neg h, if_neg h]
theorem sput_keys (e : Ex) (v : Int) : ∀ l : List (Ex × Int), (sput l e v).map (·.1) = if e ∈ l.map (·.1) then l.map (·.1) else l.map (·.1) ++ [e]
  | [] => by simp [sput]
  | x :: l => by
    have ih := sput_keys e v l
    simp only [sput]
    by_cases hx : x.1 = e
    · simp [hx]
    · rw [if_neg hx, List.map_cons, ih]
      have hx' : ¬ e = x.1 := fun q => hx q.symm
      by_cases h : e ∈ l.map (·.1)
      · rw [if_pos h, if_pos (by simp [h]), List.map_cons]
      · rw [if_neg h, if_neg (by simp only [List.map_cons, List.mem_cons, not_or]; exact ⟨hx', h⟩), List.map_cons, List.cons_append]
theorem sput_nodup {l : List (Ex × Int)} (h : (l.map (·.1)).Nodup) (e : Ex) (v : Int) : ((sput l e v).map (·.1)).Nodup := by
  rw [sput_keys]
  split
  · exact h
  · rename_i hn
    rw [List.nodup_append]
    exact ⟨h, by simp, fun a ha b hb => by simp only [List.mem_singleton] at hb; subst hb; exact fun e => hn (e ▸ ha)⟩
theorem sput_length (l : List (Ex × Int)) (e : Ex) (v : Int) : (sput l e v).length ≤ l.length + 1 := by
  have := congrArg List.length (sput_keys e v l)
  rw [List.length_map] at this
  rw [this]
  split <;> simp
theorem sget_mem : ∀ {l : List (Ex × Int)} {x : Ex × Int}, (l.map (·.1)).Nodup → x ∈ l → sget l x.1 = x.2
  | [], x, _, h => by cases h
  | y :: l, x, hn, h => by
    simp only [List.map_cons, List.nodup_cons] at hn
    rcases List.mem_cons.1 h with rfl | h
    · simp [sget]
    · have : y.1 ≠ x.1 := fun e => hn.1 (by rw [e]; exact List.mem_map_of_mem h)
      rw [sget, if_neg this]; exact sget_mem hn.2 h
theorem sget_none : ∀ {l : List (Ex × Int)} {e : Ex}, (∀ x ∈ l, x.1 ≠ e) → sget l e = 0
  | [], _, _ => rfl
  | x :: l, e, h => by
    rw [sget, if_neg (h x (List.mem_cons_self ..))]
    exact sget_none fun u hu => h u (List.mem_cons_of_mem _ hu)

theorem ofSum_can {p : Int} {l : List (Ex × Int)} (hp : 0 < p) (hn : (l.map (·.1)).Nodup) : Can p (ofSum p l) ∧ ∀ e, coef (ofSum p l) e = sget l e % p := by
  have hk := kept_keys (p := p) hn
  refine ⟨⟨srt_sorted hk, fun t ht => ?_⟩, fun e => ?_⟩
  · have ht := (srt_perm _).subset ht
    obtain ⟨x, hx, hx2⟩ := List.mem_filterMap.1 ht
    split at hx2
    · cases hx2
    · rename_i h0
      simp only [Option.some.injEq] at hx2; subst hx2
      have q1 := Int.emod_nonneg x.2 (show p ≠ 0 by omega)
      have q2 := Int.emod_lt_of_pos x.2 hp
      simp only; omega
  · unfold ofSum
    rw [coef_perm (srt_perm _) hk]
    by_cases hx : ∃ x ∈ l, x.1 = e
    · obtain ⟨x, hx, rfl⟩ := hx
      rw [sget_mem hn hx]
      by_cases h0 : x.2 % p = 0
      · rw [h0]
        refine coef_none fun t ht he => ?_
        obtain ⟨y, hy, hy2⟩ := List.mem_filterMap.1 ht
        split at hy2
        · cases hy2
        · rename_i h1
          simp only [Option.some.injEq] at hy2; subst hy2
          simp only at he
          have a1 := sget_mem hn hx
          have a2 := sget_mem hn hy
          rw [he] at a2
          rw [a1] at a2
          rw [← a2] at h1; exact h1 h0
      · have : (⟨x.1, x.2 % p⟩ : Tm) ∈ kept p l := List.mem_filterMap.2 ⟨x, hx, by rw [if_neg h0]⟩
        exact coef_mem hk this
    · rw [sget_none fun x hxl he => hx ⟨x, hxl, he⟩]
      have : (0 : Int) % p = 0 := by simp
      rw [this]
      refine coef_none fun t ht he => ?_
      obtain ⟨y, hy, hy2⟩ := List.mem_filterMap.1 ht
      split at hy2
      · cases hy2
      · simp only [Option.some.injEq] at hy2; subst hy2
        exact hx ⟨y, hy, he⟩
/-! ### a sum in memory -/
abbrev exK (e : Ex) : List Int := [(e.a.toNat : Int), e.b.toNat, e.c.toNat]
theorem exK_inj {x y : Ex} (h : exK x = exK y) : x = y := by
  simp only [exK, List.cons.injEq, and_true] at h
  obtain ⟨h1, h2, h3⟩ := h
  cases x; cases y
  simp only [Ex.mk.injEq]
  exact ⟨u8_toNat_inj h1, u8_toNat_inj h2, u8_toNat_inj h3⟩
theorem exK_beq (x y : Ex) : (exK x == exK y) = decide (x = y) := by
  by_cases h : x = y
  · subst h; simp
  · rw [decide_eq_false h]
    exact beq_eq_false_iff_ne.2 fun e => h (exK_inj e)
theorem mpIdx_succ (k : List Int) : ∀ (xs : List (List Int × Value)) (i : Nat), mpIdx xs k (i + 1) = (mpIdx xs k i).map fun q => (q.1 + 1, q.2)
  | [], i => rfl
  | x :: xs, i => by
    simp only [mpIdx]
    split
    · rfl
    · exact mpIdx_succ k xs (i + 1)
theorem mpGet_sum (l : List (Ex × Int)) (e : Ex) : (mpGet (l.map fun p => sumE p) (exK e)).getD (.int .i64 0) = .int .i64 (sget l e) := by
  induction l with
  | nil => rfl
  | cons x l ih =>
    unfold mpGet at ih ⊢
    simp only [List.map_cons, mpIdx, sget]
    rw [show (exK e == (sumE x).1) = decide (e = x.1) from exK_beq e x.1]
    by_cases h : x.1 = e
    · simp [h]
    · have h' : ¬ e = x.1 := fun q => h q.symm
      rw [decide_eq_false h', if_neg h]
      simp only [Bool.false_eq_true, if_false, mpIdx_succ, Option.map_map]
      exact ih
theorem mpPut_sum (l : List (Ex × Int)) (e : Ex) (v : Int) : mpPut (l.map fun p => sumE p) (exK e) (.int .i64 v) = (sput l e v).map fun p => sumE p := by
  induction l with
  | nil => rfl
  | cons x l ih =>
    unfold mpPut at ih ⊢
    simp only [List.map_cons, mpIdx, sput]
    rw [show (exK e == (sumE x).1) = decide (e = x.1) from exK_beq e x.1]
    by_cases h : x.1 = e
    · simp [h]
    · have h' : ¬ e = x.1 := fun q => h q.symm
      rw [decide_eq_false h', if_neg h]
      simp only [Bool.false_eq_true, if_false, mpIdx_succ]
      cases hq : mpIdx (l.map fun p => sumE p) (exK e) 0 with
      | none => rw [hq] at ih; simp only [Option.map_none, List.map_cons, List.cons_append]; rw [← ih]
      | some q => rw [hq] at ih; simp only [Option.map_some, List.map_cons, List.set_cons_succ]; rw [← ih]

end Go.Sm

namespace Go.Sm
open Go.RowKit

theorem Pr.pos {p : Int} (h : Pr p) : 2 ≤ p ∧ p ≤ 13 := by unfold Pr at h; omega

theorem downTo_mem {f : Nat → List Ex} {e : Ex} : ∀ {k : Nat}, e ∈ downTo f k → ∃ i < k, e ∈ f i
  | 0, h => by simp [downTo] at h
  | k + 1, h => by
    rw [downTo, List.mem_append] at h
    rcases h with h | h
    · exact ⟨k, by omega, h⟩
    · obtain ⟨i, hi, he⟩ := downTo_mem h
      exact ⟨i, by omega, he⟩
theorem downTo_nodup {f : Nat → List Ex} : ∀ {k : Nat}, (∀ i < k, (f i).Nodup) → (∀ i j, i < k → j < k → i ≠ j → ∀ e ∈ f i, e ∉ f j) → (downTo f k).Nodup
  | 0, _, _ => by simp [downTo]
  | k + 1, h1, h2 => by
    rw [downTo, List.nodup_append]
    refine ⟨h1 k (by omega), downTo_nodup (fun i hi => h1 i (by omega)) (fun i j hi hj => h2 i j (by omega) (by omega)), fun a ha b hb => ?_⟩
    rintro rfl
    obtain ⟨i, hi, hb⟩ := downTo_mem hb
    exact h2 k i (by omega) (by omega) (by omega) a ha hb
theorem monRow_mem {d : Int} {n a b : Nat} {e : Ex} (h : e ∈ monRow d n a b) : e = mkE a b (n - a - b) := by
  unfold monRow at h
  split at h
  · simpa using h
  · cases h
theorem mkE_inj {a b c a' b' c' : Nat} (ha : a < 256) (hb : b < 256) (ha' : a' < 256) (hb' : b' < 256) (h : mkE a b c = mkE a' b' c') : a = a' ∧ b = b' := by
  unfold mkE at h
  simp only [Ex.mk.injEq] at h
  refine ⟨?_, ?_⟩
  · rw [← by8_nat ha, ← by8_nat ha', h.1]
  · rw [← by8_nat hb, ← by8_nat hb', h.2.1]
theorem mons_nodup (d : Int) (n : Nat) (hn : n ≤ 12) : (mons d n).Nodup := by
  unfold mons
  refine downTo_nodup (fun a ha => downTo_nodup (fun b hb => ?_) fun b b' hb hb' hne e he he' => ?_) fun a a' ha ha' hne e he he' => ?_
  · unfold monRow; split <;> simp
  · have h1 := monRow_mem he
    have h2 := monRow_mem he'
    rw [h1] at h2
    exact hne (mkE_inj (by omega) (by omega) (by omega) (by omega) h2).2
  · obtain ⟨b, hb, he⟩ := downTo_mem he
    obtain ⟨b', hb', he'⟩ := downTo_mem he'
    have h1 := monRow_mem he
    have h2 := monRow_mem he'
    rw [h1] at h2
    exact hne (mkE_inj (by omega) (by omega) (by omega) (by omega) h2).1

end Go.Sm
