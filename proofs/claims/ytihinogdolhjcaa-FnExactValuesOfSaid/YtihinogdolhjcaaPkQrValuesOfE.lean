/- Towards FnExactValuesOfSaid: the program's function returns what the reference's returns. Part 5 of 7. -/
import Derived.Shelf.SlLaysF0
import Derived.Ground.SlsfProg
import Derived.Test.YtihinogdolhjcaaProg
import Derived.Shelf.SlSortCmp.NoneTotal
import Derived.Test.YtihinogdolhjcaaPkQrValuesOfA
import Derived.Test.YtihinogdolhjcaaPkQrValuesOfB
import Derived.Test.YtihinogdolhjcaaPkQrValuesOfC
import Derived.Test.YtihinogdolhjcaaPkQrValuesOfD
namespace Go.Proofs
open Go.Shelf
def Try.sortT_ren : Go.Shelf.Ren := ⟨fun | 6 => 120 | 15 => 150 | 14 => 149 | 28 => 176 | 29 => 177 | 20 => 168 | 21 => 169 | 22 => 170 | 23 => 171 | 24 => 172 | 25 => 173 | 26 => 174 | 27 => 175 | 46 => 187 | 47 => 188 | 48 => 189 | 49 => 190 | 50 => 191 | 57 => 195 | n => n, fun | 22 => 37 | 24 => 108 | 25 => 115 | 3 => 3 | 39 => 105 | 0 => 0 | 53 => 158 | 55 => 160 | 4 => 4 | 46 => 151 | 45 => 150 | 50 => 155 | 5 => 5 | 9 => 9 | 66 => 166 | 70 => 170 | 76 => 174 | 77 => 175 | n => n, fun | n => n⟩
theorem Try.sortT : Go.Proofs.SlLaysF0.n6 Try.prog Try.sortT_ren := {
  mixed := by kernel_rfl
  f6 := ⟨Try.f120.name, by decide, Try.func120.trans (congrArg some (by kernel_rfl))⟩
  f14 := ⟨Try.f149.name, by decide, Try.func149.trans (congrArg some (by kernel_rfl))⟩
  f15 := Try.func150.trans (congrArg some (by kernel_rfl))
  f20 := ⟨Try.f168.name, by decide, Try.func168.trans (congrArg some (by kernel_rfl))⟩
  f21 := ⟨Try.f169.name, by decide, Try.func169.trans (congrArg some (by kernel_rfl))⟩
  f22 := ⟨Try.f170.name, by decide, Try.func170.trans (congrArg some (by kernel_rfl))⟩
  f23 := ⟨Try.f171.name, by decide, Try.func171.trans (congrArg some (by kernel_rfl))⟩
  f24 := ⟨Try.f172.name, by decide, Try.func172.trans (congrArg some (by kernel_rfl))⟩
  f25 := ⟨Try.f173.name, by decide, Try.func173.trans (congrArg some (by kernel_rfl))⟩
  f26 := ⟨Try.f174.name, by decide, Try.func174.trans (congrArg some (by kernel_rfl))⟩
  f27 := ⟨Try.f175.name, by decide, Try.func175.trans (congrArg some (by kernel_rfl))⟩
  f28 := Try.func176.trans (congrArg some (by kernel_rfl))
  f29 := Try.func177.trans (congrArg some (by kernel_rfl))
  f46 := ⟨Try.f187.name, by decide, Try.func187.trans (congrArg some (by kernel_rfl))⟩
  f47 := Try.func188.trans (congrArg some (by kernel_rfl))
  f48 := Try.func189.trans (congrArg some (by kernel_rfl))
  f49 := ⟨Try.f190.name, by decide, Try.func190.trans (congrArg some (by kernel_rfl))⟩
  f50 := ⟨Try.f191.name, by decide, Try.func191.trans (congrArg some (by kernel_rfl))⟩
  f57 := ⟨Try.f195.name, by decide, Try.func195.trans (congrArg some (by kernel_rfl))⟩
  t0 := Try.underlying0
  a0 := Try.isAgg0
  z0 := Try.sizeOf0
  v0 := Try.zeroValue0
  t3 := Try.underlying3
  a3 := Try.isAgg3
  z3 := Try.sizeOf3
  v3 := Try.zeroValue3
  t4 := Try.underlying4
  a4 := Try.isAgg4
  z4 := Try.sizeOf4
  v4 := Try.zeroValue4
  t5 := Try.underlying5
  a5 := Try.isAgg5
  z5 := Try.sizeOf5
  v5 := Try.zeroValue5
  t9 := Try.underlying9
  a9 := Try.isAgg9
  z9 := Try.sizeOf9
  v9 := Try.zeroValue9
  t22 := Try.underlying37
  a22 := Try.isAgg37
  z22 := Try.sizeOf37
  v22 := Try.zeroValue37
  t25 := Try.underlying115
  a25 := Try.isAgg115
  z25 := Try.sizeOf115
  v25 := Try.zeroValue115
  t39 := Try.underlying105
  a39 := Try.isAgg105
  z39 := Try.sizeOf105
  v39 := Try.zeroValue105
  t45 := Try.underlying150
  a45 := Try.isAgg150
  z45 := Try.sizeOf150
  v45 := Try.zeroValue150
  t46 := Try.underlying151
  a46 := Try.isAgg151
  z46 := Try.sizeOf151
  v46 := Try.zeroValue151
  t50 := Try.underlying155
  a50 := Try.isAgg155
  z50 := Try.sizeOf155
  v50 := Try.zeroValue155
  t53 := Try.underlying158
  a53 := Try.isAgg158
  z53 := Try.sizeOf158
  v53 := Try.zeroValue158
  t55 := Try.underlying160
  a55 := Try.isAgg160
  z55 := Try.sizeOf160
  v55 := Try.zeroValue160
  t66 := Try.underlying166
  a66 := Try.isAgg166
  z66 := Try.sizeOf166
  v66 := Try.zeroValue166
  t70 := Try.underlying170
  a70 := Try.isAgg170
  z70 := Try.sizeOf170
  v70 := Try.zeroValue170
  t76 := Try.underlying174
  a76 := Try.isAgg174
  z76 := Try.sizeOf174
  v76 := Try.zeroValue174
  t77 := Try.underlying175
  a77 := Try.isAgg175
  z77 := Try.sizeOf175
  v77 := Try.zeroValue175 }
end Go.Proofs

namespace Go.Sm
open Go.RowKit Go.Shelf Go.Sort

/-! ### the order of monomials -/
theorem u8_toNat_inj {x y : UInt8} (h : (x.toNat : Int) = y.toNat) : x = y := UInt8.toNat_inj.1 (by omega)
/-- A monomial's place among all. -/
def Ex.key (e : Ex) : Int := e.deg * 65536 + (255 - (e.a.toNat : Int)) * 256 + (255 - (e.b.toNat : Int))
theorem cmpE_key (x y : Ex) : cmpE x y < 0 ↔ x.key < y.key := by
  have := u8_lt x.a; have := u8_lt x.b; have := u8_lt y.a; have := u8_lt y.b
  unfold cmpE Ex.key
  split
  · omega
  · rename_i h
    split
    · rename_i ha
      have hna : (x.a.toNat : Int) ≠ y.a.toNat := fun e => ha (u8_toNat_inj e)
      omega
    · rename_i ha
      have : x.a = y.a := Decidable.not_not.1 ha
      rw [this]; omega
theorem cmpE_zero (x y : Ex) : cmpE x y = 0 ↔ x = y := by
  refine ⟨fun h => ?_, fun h => by rw [h]; exact cmpE_self y⟩
  unfold cmpE at h
  split at h
  · omega
  · rename_i h0
    split at h
    · rename_i ha; exact absurd (u8_toNat_inj (by omega)) ha
    · rename_i ha
      have ha : x.a = y.a := Decidable.not_not.1 ha
      have hb : x.b = y.b := u8_toNat_inj (by omega)
      have hc : x.c = y.c := by
        unfold Ex.deg at h0
        rw [ha, hb] at h0
        exact u8_toNat_inj (by omega)
      cases x; cases y; simp_all
theorem key_inj {x y : Ex} (h : x.key = y.key) : x = y := by
  have h1 : ¬ cmpE x y < 0 := by rw [cmpE_key]; omega
  have h2 : ¬ cmpE y x < 0 := by rw [cmpE_key]; omega
  refine (cmpE_zero x y).1 ?_
  unfold cmpE at h1 h2 ⊢
  have e1 : y.deg - x.deg = -(x.deg - y.deg) := by omega
  by_cases hd : x.deg - y.deg = 0
  · have hd' : y.deg - x.deg = 0 := by omega
    simp only [hd, hd', ne_eq, not_true_eq_false, if_false] at h1 h2 ⊢
    by_cases ha : x.a = y.a
    · simp only [ha, not_true_eq_false, if_false] at h1 h2 ⊢; omega
    · have ha' : ¬ y.a = x.a := fun e => ha e.symm
      simp only [ha, ha', not_false_eq_true, if_true] at h1 h2 ⊢; omega
  · have hd' : ¬ y.deg - x.deg = 0 := by omega
    simp only [hd, hd', ne_eq, not_false_eq_true, if_true] at h1 h2 ⊢; omega

theorem poly1_ok (x y : Tm) : CallOK Go.Proofs.Try.prog 121 [.agg [u8 x.e.a, u8 x.e.b, u8 x.e.c, i64 x.v], .agg [u8 y.e.a, u8 y.e.b, u8 y.e.c, i64 y.v]] (.one (i64 (cmpE x.e y.e))) := by
  have hF := fnOk 10 [.tmp 4]
  refine callOK hF 60 Go.Proofs.Try.func121 rfl rfl rfl (by decide) (by simp) rfl ?_
  intro w0 hw
  have S := @vc_sound w0 _ hF ⟨(.one (i64 (cmpE x.e y.e))), []⟩ Go.Proofs.Try.f121 rfl (by simp)
  have c1 := compareExps_ok x.e y.e
  simp
  refine CallW.ok (by decide) (by simp) c1 (by simp) (S 60 _ _ ?_)
  simp

def Tm.vs (t : Tm) : List Value := [.int .u8 t.e.a.toNat, .int .u8 t.e.b.toNat, .int .u8 t.e.c.toNat, .int .i64 t.v]

theorem bel_grow {w w' : World} (h : Bel w.heap.size w w') : ∃ q os, w' = grow (w.drewN q) os := by
  refine ⟨w'.drawn - w.drawn, w'.heap.extract w.heap.size w'.heap.size, ?_⟩
  have hh : w'.heap = w.heap ++ w'.heap.extract w.heap.size w'.heap.size := by
    apply Array.ext_getElem?
    intro i
    by_cases hi : i < w.heap.size
    · rw [Array.getElem?_append_left hi, h.block i hi]
    · rw [Array.getElem?_append_right (by omega), Array.getElem?_extract]
      split
      · congr 1; omega
      · rename_i h2
        exact Array.getElem?_eq_none (by omega)
  have hd : w'.drawn = w.drawn + (w'.drawn - w.drawn) := by have := h.drawn; omega
  have e1 := h.os; have e2 := h.tape; have e3 := h.output
  cases w' with
  | mk heap tape drawn os output =>
    simp only at hh hd e1 e2 e3
    subst e1; subst e2; subst e3
    unfold grow World.drewN
    simp only [World.mk.injEq, and_true, true_and]
    exact ⟨hh, hd⟩

theorem cmp_lays (blk off size : Nat) (w : World) : Go.Proofs.CmpLays Go.Proofs.Try.prog 121 #[] Tm.vs 4 (fun x y => cmpE x.e y.e) blk off size w := by
  intro m os dk hs x y
  have h := (poly1_ok x y).2 (Go.Proofs.sortWorldK Tm.vs 4 w blk off m dk os) [.agg x.vs.toArray, .agg y.vs.toArray]
    ⟨_, _, rfl, ⟨x.vs, rfl, by simp, by simp [Tm.vs, DsV, Rd, Value.oneCell']⟩, _, _, rfl, ⟨y.vs, rfl, by simp, by simp [Tm.vs, DsV, Rd, Value.oneCell']⟩, rfl⟩
  refine Calls.mono h fun e w' hq => ?_
  obtain ⟨v, rfl, ⟨us, h1, h2, h3, _⟩, hb⟩ := hq
  refine ⟨?_, bel_grow hb⟩
  simp only [RShape] at h1
  subst h1
  obtain ⟨u, r, he, hr, _⟩ := h3
  simp only [List.cons.injEq] at he
  rw [he.1]
  simp only [Rd] at hr
  rw [hr.1]

theorem swoT : SWO (Go.Proofs.ltOf fun x y : Tm => cmpE x.e y.e) where
  irrefl x := by unfold Go.Proofs.ltOf; simp [cmpE_self]
  trans x y z h1 h2 := by
    unfold Go.Proofs.ltOf at *
    rw [decide_eq_true_eq, cmpE_key] at *; omega
  ntrans x y z h1 h2 := by
    unfold Go.Proofs.ltOf at *
    rw [decide_eq_false_iff_not, cmpE_key] at *; omega

def leT (a b : Tm) : Prop := ¬ cmpE b.e a.e < 0
/-- One strictly ascending list among the orders of a list. -/
theorem sorted_one {d ys : List Tm} (hp : ys.Perm d) (hs : ys.Pairwise fun a b => cmpE a.e b.e < 0) (hd : d.Pairwise leT) : d = ys := by
  have h2 : ys.Pairwise leT := by
    refine hs.imp fun {a b} h => ?_
    unfold leT
    rw [cmpE_key] at *; omega
  have h1 : ∀ a b, a ∈ d → b ∈ ys → leT a b → leT b a → a = b := by
    intro a b ha hb h1 h2
    have ha' : a ∈ ys := hp.symm.subset ha
    obtain ⟨i, hi, rfl⟩ := List.getElem_of_mem ha'
    obtain ⟨j, hj, rfl⟩ := List.getElem_of_mem hb
    rcases Nat.lt_trichotomy i j with h | h | h
    · exact absurd (List.pairwise_iff_getElem.1 hs i j hi hj h) h2
    · subst h; rfl
    · exact absurd (List.pairwise_iff_getElem.1 hs j i hj hi h) h1
  exact List.Perm.eq_of_pairwise h1 hd h2 hp.symm

theorem flat_get {α : Type} [Inhabited α] (enc : α → List Value) {k : Nat} (hk : ∀ x, (enc x).length = k) : ∀ (xs : List α) (t : Nat), t < xs.length * k → (xs.flatMap enc)[t]? = some ((enc xs.toArray[t / k]!)[t % k]!)
  | [], t, h => by simp at h
  | x :: xs, t, h => by
    have k0 : 0 < k := Nat.pos_of_ne_zero fun e => by subst e; simp at h
    rw [List.flatMap_cons]
    by_cases ht : t < k
    · rw [List.getElem?_append_left (by rw [hk]; exact ht), Nat.div_eq_of_lt ht, Nat.mod_eq_of_lt ht]
      have : (x :: xs).toArray[0]! = x := rfl
      rw [this, List.getElem?_eq_getElem (by rw [hk]; exact ht), getElem!_pos (enc x) t (by rw [hk]; exact ht)]
    · obtain ⟨u, rfl⟩ : ∃ u, t = u + k := ⟨t - k, by omega⟩
      have hu : u < xs.length * k := by rw [List.length_cons, Nat.add_mul] at h; omega
      rw [List.getElem?_append_right (by rw [hk]; omega), hk, Nat.add_sub_cancel, flat_get enc hk xs u hu, Nat.add_div_right _ k0, Nat.add_mod_right]
      have hl : u / k < xs.length := (Nat.div_lt_iff_lt_mul k0).2 hu
      have : (x :: xs).toArray[(u / k).succ]! = xs.toArray[u / k]! := by
        rw [getElem!_pos _ _ (by simpa using hl), getElem!_pos _ _ (by simpa using hl)]
        simp
      rw [this]

theorem Tm.vs_len (t : Tm) : t.vs.length = 4 := rfl
theorem terms_EsV {w : World} {B M : Nat → Prop} : ∀ (ts : List Tm), EsV (Rd w B M) 4 (terms ts) (ts.flatMap Tm.vs)
  | [] => rfl
  | t :: ts => by
    simp only [terms, List.map_cons, List.flatMap_cons]
    refine ⟨t.vs, _, rfl, rfl, ?_, terms_EsV ts⟩
    simp [Tm.vs, DsV, Rd, Value.oneCell']
theorem terms_EsV_eq {w : World} {B M : Nat → Prop} : ∀ {ts : List Tm} {vs : List Value}, EsV (Rd w B M) 4 (terms ts) vs → vs = ts.flatMap Tm.vs
  | [], vs, h => h
  | t :: ts, vs, h => by
    obtain ⟨u, r, rfl, _, h1, h2⟩ := h
    rw [List.flatMap_cons, terms_EsV_eq h2]
    congr 1
    simp only [DsV, Rd] at h1
    obtain ⟨_, _, rfl, ⟨rfl, _⟩, _, _, rfl, ⟨rfl, _⟩, _, _, rfl, ⟨rfl, _⟩, _, _, rfl, ⟨rfl, _⟩, rfl⟩ := h1
    rfl
theorem terms_noOwn (ts : List Tm) : (terms ts).all (fun e => e.all noOwn) = true := by simp [terms]

theorem perm_of_permIn {d d' : Array Tm} (h : PermIn 0 d.size d d') : d'.toList.Perm d.toList := by
  obtain ⟨h1, _, h3⟩ := h
  have e1 : d'.extract 0 d.size = d' := by rw [← h1]; simp
  have e2 : d.extract 0 d.size = d := by simp
  rwa [e1, e2] at h3

theorem sortTerms_ok (xs ys : List Tm) (hl : xs.length < 4611686018427387904) (hp : ys.Perm xs) (hs : ys.Pairwise fun a b => cmpE a.e b.e < 0) :
    CallX Go.Proofs.Try.prog 120 [.one (oTerms xs), .one (.v (.func (.func 121) #[] #[]))] ⟨.tup [], [(0, oTerms ys)]⟩ := by
  refine ⟨⟨Go.Proofs.Try.f120, Go.Proofs.Try.func120, rfl, rfl⟩, fun w X vs us hA hnd => ?_⟩
  obtain ⟨v1, q1, x1, c1, rfl, rfl, h1, h2, v2, q2, x2, c2, rfl, rfl, h3, h4, rfl, rfl⟩ := hA
  simp only [RShape] at h1 h3
  subst h1; subst h3
  obtain ⟨_, _, he, hr1, _⟩ := h2
  simp only [List.cons.injEq] at he
  obtain ⟨rfl, rfl⟩ := he
  obtain ⟨_, _, he, hr2, _⟩ := h4
  simp only [List.cons.injEq] at he
  obtain ⟨rfl, rfl⟩ := he
  simp only [ArgX, Rd] at hr2
  obtain ⟨rfl, _⟩ := hr2
  obtain ⟨hr, _, hX⟩ := hr1
  have hlen : ys.length = xs.length := hp.length_eq
  simp only [Rd] at hr
  rcases hr with ⟨hn, rfl⟩ | ⟨b, cap, cur, rfl, hcap, _, hh, hmax, hsz, hes⟩
  · have hx : xs = [] := by simpa [terms] using hn
    subst hx
    have hy : ys = [] := List.length_eq_zero_iff.1 hlen
    subst hy
    have hc := Go.Proofs.AnyF.slices_SortFunc_none (P := Go.Proofs.Try.prog) (ρ := Go.Proofs.Try.sortT_ren) { Go.Proofs.Try.sortT with } none 0 (.func (.func 121) #[] #[]) w
    refine Calls.mono hc fun e w' hq => ?_
    obtain ⟨rfl, rfl⟩ := hq
    refine ⟨_, rfl, ⟨[nilV], [], ⟨[], rfl, rfl, rfl⟩, ?_, rfl, ?_, ?_, ?_⟩, Low.refl _ _⟩
    · rfl
    · exact ⟨nilV, [], rfl, by simp [Rd, terms], rfl⟩
    · simp [fpDs, fp, cellsR]
    · intro b hb; simp [fpDs, fp, cellsR] at hb
  · obtain ⟨vs, hv1, hv2⟩ := RdEs.vals hes
    have hvs := terms_EsV_eq hv1
    subst hvs
    have hlt := lt_of_heap hh
    have hcell : ∀ (j : Nat) (u : Value), (xs.flatMap Tm.vs)[j]? = some u → cur[j]? = some u := by
      intro j u hj
      have := hv2 j u hj
      simpa [World.cell?, hh] using this
    have hH : HoldsK Tm.vs 4 w b 0 xs.toArray := by
      intro j hj
      have hj' : j < xs.length * 4 := by simpa using hj
      have hg := flat_get Tm.vs Tm.vs_len xs j hj'
      refine ⟨?_, by simp [World.frozen?, hh]⟩
      rw [hv2 j _ hg, get_flatK _ _ _ _ (by simpa using hj')]
      rfl
    have eg : ∀ args w, (callFunc 121 args).run Go.Proofs.Try.prog w = .ok (.enter 121 args) w := Go.Proofs.enters_of Go.Proofs.Try.func121 (by kernel_rfl) rfl
    have hc := Go.Proofs.AnyQ.slices_SortFunc Go.Proofs.Try.sortT 4 (fun w => tyOk108.isAgg w) (fun w => tyOk108.sizeOf w) Tm.vs Tm.vs_len
      (fun x v hv => by simp [Tm.vs] at hv; rcases hv with rfl | rfl | rfl | rfl <;> rfl) (fun x y => cmpE x.e y.e) swoT 121 #[] b 0 cap xs.toArray w eg (cmp_lays b 0 _ w) hH hlt (by simpa using hl)
    have hll : (terms xs).length = xs.toArray.size := by simp [terms]
    rw [hll]
    refine Calls.mono hc fun e w' hq => ?_
    obtain ⟨rfl, d', n, os, hperm, hsort, rfl⟩ := hq
    have hd' : d'.toList = ys := by
      refine sorted_one (hp.trans (perm_of_permIn hperm).symm) hs ?_
      rw [List.pairwise_iff_getElem]
      intro i j hi hj hij
      have hn : d'.size = xs.toArray.size := hperm.1
      have hi' : i < d'.size := by simpa using hi
      have hj' : j < d'.size := by simpa using hj
      have := hsort i j (Nat.zero_le _) hij (by omega)
      unfold Go.Proofs.ltOf at this
      rw [getElem!_pos d' i hi', getElem!_pos d' j hj'] at this
      simpa [leT] using this
    subst hd'
    have hds : d'.size = xs.length := by simpa using hlen
    have hW : (Go.Proofs.sortWorldK Tm.vs 4 w b 0 n d' os).heap = (w.heap.modify b (onCells (putCells id 0 (flatK Tm.vs 4 d')))) ++ os := rfl
    have hnew : (Go.Proofs.sortWorldK Tm.vs 4 w b 0 n d' os).heap[b]? = some (.cells (putCells id 0 (flatK Tm.vs 4 d') cur) 108 (0, 0)) := by
      rw [hW, Array.getElem?_append_left (by simpa using hlt), Array.getElem?_modify]
      simp [hh, onCells]
    have hcells : ∀ (j : Nat) (u : Value), (d'.toList.flatMap Tm.vs)[j]? = some u → (Go.Proofs.sortWorldK Tm.vs 4 w b 0 n d' os).cell? ⟨b, 0 + j, none⟩ = some u := by
      intro j u hj
      have hjl : j < d'.toList.length * 4 := by
        have := (List.getElem?_eq_some_iff.1 hj).1
        rw [(terms_EsV (w := w) (B := fun _ => False) (M := fun _ => False) d'.toList).length] at this
        simpa [terms] using this
      have hjs : j < d'.size * 4 := by simpa using hjl
      have hcu : j < cur.size := by
        rw [hsz]
        have : xs.length ≤ cap := by simpa [terms] using hcap
        omega
      simp only [World.cell?, hnew, putCells]
      have hg := flat_get Tm.vs Tm.vs_len d'.toList j hjl
      rw [hj] at hg
      simp only [Option.some.injEq] at hg
      subst hg
      have hF := get_flatK Tm.vs 4 d' j hjs
      have hjF : j < (flatK Tm.vs 4 d').size := by simpa using hjs
      simp [hcu, hF]
      omega
    have hread : Rd (Go.Proofs.sortWorldK Tm.vs 4 w b 0 n d' os) (fun _ => False) (fun _ => False) (oTerms d'.toList) (.slice (some ⟨b, 0, none⟩) xs.toArray.size cap) := by
      simp only [Rd]
      refine .inr ⟨b, cap, _, ?_, ?_, not_false, hnew, hmax, ?_, RdEs.ofV (terms_EsV _) hcells⟩
      · simp [terms, hds]
      · simp [terms, hds]; simpa [terms] using hcap
      · simp [putCells, hsz]
    have hfp : fp (Go.Proofs.sortWorldK Tm.vs 4 w b 0 n d' os) (oTerms d'.toList) (.slice (some ⟨b, 0, none⟩) xs.toArray.size cap) = [b] := by
      rw [fp_own_some, fpEs_vals (terms d'.toList) _ 0 (terms_EsV (w := w) (B := fun _ => False) (M := fun _ => False) _) (fun j u hj => hcells j u hj), fpVs_noOwn _ (terms_noOwn _)]
    have hXb : X b := hX b (by rw [fp_own_some]; exact List.mem_cons_self ..)
    refine ⟨_, rfl, ⟨[.slice (some ⟨b, 0, none⟩) xs.toArray.size cap], [], ⟨[], rfl, rfl, rfl⟩, rfl, ?_, ⟨_, _, rfl, hread, rfl⟩, ?_, ?_⟩, ?_⟩
    · simp [terms, freshCs, D.fresh, cellsR]
    · show (fpDs _ [oTerms d'.toList] [_]).Nodup
      simp only [fpDs, List.headD_cons, hfp, List.append_nil]
      simp
    · intro y hy
      have hy : y ∈ fpDs _ [oTerms d'.toList] [_] := hy
      simp only [fpDs, List.headD_cons, hfp, List.append_nil, List.mem_singleton] at hy
      subst hy
      exact .inr hXb
    · refine ⟨rfl, rfl, rfl, ?_, ?_, Nat.le_add_right _ _⟩
      · rw [hW]; simp
      · intro y hy
        have hyb : y ≠ b := fun e => hy.2 (by rw [e]; exact hXb)
        have hylt : y < w.heap.size := hy.1
        rw [hW, Array.getElem?_append_left (by simpa using hylt), Array.getElem?_modify, if_neg (fun e => hyb e.symm)]

end Go.Sm

namespace Go.Sm
open Go.RowKit

/-- An entry of a sum. -/
abbrev sumE (p : Ex × Int) : List Int × Value := ([(p.1.a.toNat : Int), p.1.b.toNat, p.1.c.toNat], .int .i64 p.2)
abbrev sumM (l : List (Ex × Int)) : MD := ⟨.u8, 3, l.map fun p => sumE p⟩
abbrev sumD (l : List (Ex × Int)) : D := .mp (sumM l)

/-- What of a sum is not 0. -/
def kept (p : Int) (l : List (Ex × Int)) : List Tm := l.filterMap fun x => if x.2 % p = 0 then none else some ⟨x.1, x.2 % p⟩
def srt (l : List Tm) : List Tm := l.mergeSort fun a b => decide (a.e.key ≤ b.e.key)
def ofSum (p : Int) (l : List (Ex × Int)) : List Tm := srt (kept p l)

theorem srt_perm (l : List Tm) : (srt l).Perm l := List.mergeSort_perm l _
theorem srt_sorted {l : List Tm} (h : (l.map (·.e)).Nodup) : (srt l).Pairwise fun a b => cmpE a.e b.e < 0 := by
  have h1 : (srt l).Pairwise fun a b => decide (a.e.key ≤ b.e.key) = true := by
    refine List.pairwise_mergeSort ?_ ?_ l
    · intro a b c h1 h2
      rw [decide_eq_true_eq] at *; omega
    · intro a b
      simp only [Bool.or_eq_true, decide_eq_true_eq]; omega
  have h2 : ((srt l).map (·.e)).Nodup := (((srt_perm l).map _).nodup_iff).2 h
  have h3 : (srt l).Pairwise fun a b => a.e ≠ b.e := by
    rw [List.Nodup, List.pairwise_map] at h2
    exact h2
  refine (h1.and h3).imp fun {a b} hab => ?_
  rw [cmpE_key]
  have := hab.1
  rw [decide_eq_true_eq] at this
  have hne : a.e.key ≠ b.e.key := fun e => hab.2 (key_inj e)
  omega
theorem kept_keys {p : Int} : ∀ {l : List (Ex × Int)}, (l.map (·.1)).Nodup → ((kept p l).map (·.e)).Nodup
  | [], _ => by simp [kept]
  | x :: l, h => by
    simp only [List.map_cons, List.nodup_cons] at h
    have ih := kept_keys (p := p) h.2
    unfold kept at ih ⊢
    rw [List.filterMap_cons]
    split
    · exact ih
    · rename_i t ht
      split at ht
      · cases ht
      · simp only [Option.some.injEq] at ht; subst ht
        simp only [List.map_cons, List.nodup_cons]
        refine ⟨fun hm => h.1 ?_, ih⟩
        obtain ⟨t, ht, he⟩ := List.mem_map.1 hm
        obtain ⟨y, hy, hy2⟩ := List.mem_filterMap.1 ht
        split at hy2
        · cases hy2
        · simp only [Option.some.injEq] at hy2; subst hy2
          simp only at he
          rw [← he]; exact List.mem_map_of_mem hy
theorem kept_length (p : Int) (l : List (Ex × Int)) : (kept p l).length ≤ l.length := List.length_filterMap_le _ _

@[simp] theorem map_erase' {α γ : Type} (f : α → γ) (L : List α) (j : Nat) : (L.map f).eraseIdx j = (L.eraseIdx j).map f := map_erase f L j

theorem kept_take {p : Int} : ∀ {rem : List (Ex × Int)} {i : Nat} {x : Ex × Int}, rem[i]? = some x → (kept p rem).Perm (kept p [x] ++ kept p (rem.eraseIdx i))
  | [], i, x, h => by simp at h
  | y :: rem, 0, x, h => by
    simp at h; subst h
    simp only [List.eraseIdx_zero, List.tail_cons]
    have : kept p (y :: rem) = kept p [y] ++ kept p rem := by
      rw [show y :: rem = [y] ++ rem from rfl]
      unfold kept; rw [List.filterMap_append]
    rw [this]
  | y :: rem, i + 1, x, h => by
    have ih := kept_take (p := p) (rem := rem) (i := i) (x := x) (by simpa using h)
    have e1 : ∀ l, kept p (y :: l) = kept p [y] ++ kept p l := by
      intro l
      rw [show y :: l = [y] ++ l from rfl]
      unfold kept; rw [List.filterMap_append]
    rw [List.eraseIdx_cons_succ, e1 rem, e1 (rem.eraseIdx i)]
    refine (ih.append_left _).trans ?_
    rw [← List.append_assoc, ← List.append_assoc]
    exact List.Perm.append_right _ List.perm_append_comm

theorem poly_ok (p d : Int) (l : List (Ex × Int)) (hl : l.length ≤ 1048576) (hn : (l.map (·.1)).Nodup) (hp : 0 < p) (hp2 : p < 4000000000000000000) : CallOK Go.Proofs.Try.prog 83 [.one (sumD l), .one (i64 p), .one (i64 d)] (po p d (ofSum p l)) := by
  have hF := fnOk 41 [.cell 6 39]
  refine callOK hF 60 Go.Proofs.Try.func83 rfl rfl rfl (by decide) (by simp) rfl ?_
  intro w0 hw
  have S := @vc_sound w0 _ hF ⟨(po p d (ofSum p l)), []⟩ Go.Proofs.Try.f83 rfl (by simp)
  simp
  refine J.loop hw (fun q : List Tm × List (Ex × Int) × Option (List Int × Value) => ⟨[(1, .c (.d (i64 p))), (6, .c (.ref 64006 0)), (7, .c (.ref 64008 0)), (14, .c (.ref 64010 0))],
      [(64006, .var [.d (i64 0), .d (i64 0), .ob 64007]), (64007, .arr 108 4 []), (64008, .var [.d (i64 p), .d (i64 d), .ob 64009]), (64009, .arr 108 4 (terms q.1)), (64010, .it (sumM l) (q.2.1.map fun p => sumE p) q.2.2)]⟩)
    (fun q => (q.1 ++ kept p q.2.1).Perm (kept p l)) (fun q => q.2.1.length) ([], l, none) (by simp) (by simp) ?_
  rintro ⟨acc, rem, last⟩ hperm
  simp only at hperm
  refine S 60 _ _ ?_
  simp
  have hal : acc.length ≤ 1048576 := by
    have h1 := hperm.length_eq
    have h2 := kept_length p l
    simp only [List.length_append] at h1
    omega
  refine OpW.next (key := 64010) (m := sumM l) (rem := rem.map fun p => sumE p) (last := last) rfl rfl (by decide) (by rfl) (by rfl) (fun h0 => ?_) (fun i e he => ?_)
  · have h0 : rem = [] := by simpa using h0
    subst h0
    have hperm : acc.Perm (kept p l) := by simpa [kept] using hperm
    refine S 60 _ _ ?_
    simp
    refine CallW.mut (sortTerms_ok acc (ofSum p l) (by omega) ((srt_perm _).trans hperm.symm) (srt_sorted (kept_keys hn))) (by decide) (by simp) (by simp) (by simp) (by simp) (by simp) (by simp) ?_
    refine S 60 _ _ ?_
    simp
  · obtain ⟨x, hx, rfl⟩ : ∃ x, rem[i]? = some x ∧ e = sumE x := by
      rw [List.getElem?_map] at he
      cases hq : rem[i]? with
      | none => rw [hq] at he; cases he
      | some x => rw [hq] at he; simp only [Option.map_some, Option.some.injEq] at he; exact ⟨x, rfl, he.symm⟩
    have hr := tmod_range x.2 p hp
    have h0 : p ≠ 0 := by omega
    have hmod : (IntKind.i64.wrap (x.2.tmod p + p)).tmod p = x.2 % p := by rw [wrap64 (by omega) (by omega), tmod_mod _ _ hp]
    have hk := kept_take (p := p) hx
    have hdec : (rem.eraseIdx i).length < rem.length := by
      have := (List.getElem?_eq_some_iff.1 hx).1
      rw [List.length_eraseIdx]; split <;> omega
    refine S 60 _ _ ?_
    simp [keyFV, h0, hmod]
    refine ⟨fun hnz => ?_, fun hz => ?_⟩
    · have hk1 : kept p [x] = [⟨x.1, x.2 % p⟩] := by simp [kept, hnz]
      refine ⟨⟨by omega, by omega⟩, ?_⟩
      refine Nxt.mk (acc ++ [Tm.mk x.1 (x.2 % p)], rem.eraseIdx i, some (sumE x)) ?_ (by simp) hdec
      show ((acc ++ [Tm.mk x.1 (x.2 % p)]) ++ kept p (rem.eraseIdx i)).Perm (kept p l)
      rw [List.append_assoc, ← hk1]
      exact (hk.symm.append_left acc).trans hperm
    · have hk1 : kept p [x] = [] := by simp [kept, hz]
      refine Nxt.mk (acc, rem.eraseIdx i, some (sumE x)) ?_ (by simp) hdec
      show (acc ++ kept p (rem.eraseIdx i)).Perm (kept p l)
      rw [hk1, List.nil_append] at hk
      exact (hk.symm.append_left acc).trans hperm

end Go.Sm

namespace Go.Sm
open Go.RowKit

def by8 (n : Int) : UInt8 := UInt8.ofNat (n % 256).toNat
@[simp] theorem wrapu8 (n : Int) : IntKind.u8.wrap n = ((by8 n).toNat : Int) := by
  have h1 := Int.emod_nonneg n (show (256 : Int) ≠ 0 by decide)
  have h2 := Int.emod_lt_of_pos n (show (0 : Int) < 256 by decide)
  have : IntKind.u8.wrap n = n % 256 := by
    unfold IntKind.wrap
    simp [IntKind.signed, IntKind.bits]
  rw [this]
  unfold by8
  rw [UInt8.toNat_ofNat']
  omega
@[simp] theorem by8_toNat (x : UInt8) : by8 (x.toNat : Int) = x := by
  have := u8_lt x
  unfold by8
  apply UInt8.toNat_inj.1
  rw [UInt8.toNat_ofNat']
  omega

theorem eqExps_ok (x y : Ex) : CallOK Go.Proofs.Try.prog 151 [.agg x.ds, .agg y.ds] (.one (bo (decide (x = y)))) := by
  have hF := fnOk 17 [.tmp 4]
  refine callOK hF 60 Go.Proofs.Try.func151 rfl rfl rfl (by decide) (by simp) rfl ?_
  intro w0 hw
  have S := @vc_sound w0 _ hF ⟨(.one (bo (decide (x = y)))), []⟩ Go.Proofs.Try.f151 rfl (by simp)
  simp
  refine J.rounds 5 (LpW.step (S 60 _ _ ?_))
  simp
  refine J.dr hF mixed 6 [[], [0], [0, 1], [], [3], [3, 4], [0, 1, 2, 3, 4, 5]] [[10, 11, 12, 13, 14, 15], [11, 12, 13, 14, 15], [12, 13, 14, 15], [10, 11, 12, 13, 14, 15], [10, 11, 12, 14, 15], [10, 11, 12, 15]] (by decide) ?_
  simp
  refine S 60 _ _ ?_
  simp
  refine ⟨fun ha e => ha (by rw [e]), fun ha => LpW.inv (LpW.step (S 60 _ _ ?_))⟩
  simp
  refine J.dr hF mixed 6 [[], [0], [0, 1], [], [3], [3, 4], [0, 1, 2, 3, 4, 5]] [[10, 11, 12, 13, 14, 15], [11, 12, 13, 14, 15], [12, 13, 14, 15], [10, 11, 12, 13, 14, 15], [10, 11, 12, 14, 15], [10, 11, 12, 15]] (by decide) ?_
  simp
  refine S 60 _ _ ?_
  simp
  refine ⟨fun hb e => hb (by rw [e]), fun hb => LpW.inv (LpW.step (S 60 _ _ ?_))⟩
  simp
  refine J.dr hF mixed 6 [[], [0], [0, 1], [], [3], [3, 4], [0, 1, 2, 3, 4, 5]] [[10, 11, 12, 13, 14, 15], [11, 12, 13, 14, 15], [12, 13, 14, 15], [10, 11, 12, 13, 14, 15], [10, 11, 12, 14, 15], [10, 11, 12, 15]] (by decide) ?_
  simp
  refine S 60 _ _ ?_
  simp
  refine ⟨fun hc e => hc (by rw [e]), fun hc => LpW.inv (LpW.step (S 60 _ _ ?_))⟩
  simp
  cases x; cases y; simp_all

theorem eqTerm_ok (x y : Tm) : CallOK Go.Proofs.Try.prog 123 [.agg [u8 x.e.a, u8 x.e.b, u8 x.e.c, i64 x.v], .agg [u8 y.e.a, u8 y.e.b, u8 y.e.c, i64 y.v]] (.one (bo (decide (x = y)))) := by
  have hF := fnOk 16 [.tmp 4]
  refine callOK hF 60 Go.Proofs.Try.func123 rfl rfl rfl (by decide) (by simp) rfl ?_
  intro w0 hw
  have S := @vc_sound w0 _ hF ⟨(.one (bo (decide (x = y)))), []⟩ Go.Proofs.Try.f123 rfl (by simp)
  have c1 := eqExps_ok x.e y.e
  simp
  by_cases he : x.e = y.e
  · rw [decide_eq_true he] at c1
    refine CallW.ok (by decide) (by simp) c1 (by simp) (S 60 _ _ ?_)
    simp
    refine ⟨fun hv e => hv (by rw [e]), fun hv => ?_⟩
    cases x; cases y; simp_all
  · rw [decide_eq_false he] at c1
    refine CallW.ok (by decide) (by simp) c1 (by simp) (S 60 _ _ ?_)
    simp
    exact fun e => he (by rw [e])

theorem eqTermS_ok (xs ys : List Tm) (hl : xs.length ≤ 2000000) : CallOK Go.Proofs.Try.prog 84 [.one (vTerms xs), .one (vTerms ys)] (.one (bo (decide (xs = ys)))) := by
  have hF := fnOk 27 [.tmp 4]
  refine callOK hF 60 Go.Proofs.Try.func84 rfl rfl rfl (by decide) (by simp) rfl ?_
  intro w0 hw
  have S := @vc_sound w0 _ hF ⟨(.one (bo (decide (xs = ys)))), []⟩ Go.Proofs.Try.f84 rfl (by simp)
  simp
  refine ⟨fun hne e => hne (by rw [e]), fun he => ?_⟩
  refine J.loop hw (fun i : Nat => ⟨[(0, .c (.d (vTerms xs))), (1, .c (.d (vTerms ys))), (5, .c (.d (i64 i)))], []⟩)
    (fun i => i ≤ xs.length ∧ xs.take i = ys.take i) (fun i => xs.length - i) 0 (by simp) (by simp) ?_
  rintro i ⟨hi, ht⟩
  refine S 60 _ _ ?_
  simp
  refine ⟨fun hlt => ?_, fun hge => ?_⟩
  · refine J.dr hF mixed 8 [[], [], [0, 1], [0, 1, 2], [], [], [4, 5], [4, 5, 6], [0, 1, 2, 3, 4, 5, 6, 7], [0, 1, 2, 3, 4, 5, 6, 7, 8]] [[17, 18, 19, 20, 21, 22, 23, 24], [17, 18, 19, 20, 21, 22, 23, 24], [19, 20, 21, 22, 23, 24], [20, 21, 22, 23, 24], [17, 18, 19, 20, 21, 22, 23, 24], [17, 18, 19, 20, 21, 22, 23, 24], [17, 18, 19, 20, 23, 24], [17, 18, 19, 20, 24]] (by decide) ?_
    simp
    refine ⟨hlt, fun a ha => ⟨by omega, fun b hb => ?_⟩⟩
    have c1 := eqTerm_ok a b
    by_cases hab : a = b
    · rw [decide_eq_true hab] at c1
      refine S 60 _ _ ?_
      simp
      refine CallW.ok (by decide) (by simp) c1 (by simp) (S 60 _ _ ?_)
      simp
      subst hab
      refine Nxt.mk (i + 1) ⟨hlt, ?_⟩ (by simp [wrapS (i := i) (n := xs.length) hlt (by omega)]) (by omega)
      rw [List.take_add_one, List.take_add_one, ht, ha, hb]
    · rw [decide_eq_false hab] at c1
      refine S 60 _ _ ?_
      simp
      refine CallW.ok (by decide) (by simp) c1 (by simp) (S 60 _ _ ?_)
      simp
      intro e
      subst e
      rw [ha] at hb
      exact hab (Option.some.inj hb)
  · have h1 : xs = xs.take i := by rw [List.take_of_length_le (by omega)]
    have h2 : ys = ys.take i := by rw [List.take_of_length_le (by omega)]
    rw [h1, h2, ht]

theorem eqPoly_ok (p d p' d' : Int) (xs ys : List Tm) (hl : xs.length ≤ 2000000) : CallOK Go.Proofs.Try.prog 29 [pv p d xs, pv p' d' ys] (.one (bo (decide (p = p' ∧ d = d' ∧ xs = ys)))) := by
  have hF := fnOk 21 [.tmp 4]
  refine callOK hF 60 Go.Proofs.Try.func29 rfl rfl rfl (by decide) (by simp) rfl ?_
  intro w0 hw
  have S := @vc_sound w0 _ hF ⟨(.one (bo (decide (p = p' ∧ d = d' ∧ xs = ys)))), []⟩ Go.Proofs.Try.f29 rfl (by simp)
  have c1 := eqTermS_ok xs ys hl
  by_cases hp : p = p'
  · by_cases hd : d = d'
    · subst hp; subst hd
      have e : decide (p = p ∧ d = d ∧ xs = ys) = decide (xs = ys) := by simp
      rw [e] at S ⊢
      simp
      refine CallW.ok (by decide) (by simp) c1 (by simp) (S 60 _ _ ?_)
      by_cases hx : xs = ys
      · rw [decide_eq_true hx]; simp
      · rw [decide_eq_false hx]; simp
    · have hb : (d != d') = true := by simpa using hd
      have e : decide (p = p' ∧ d = d' ∧ xs = ys) = false := by simp [hd]
      rw [e]
      have hb0 : (p != p') = false := by simpa using hp
      simp [hb0, hb]
  · have hb : (p != p') = true := by simpa using hp
    have e : decide (p = p' ∧ d = d' ∧ xs = ys) = false := by simp [hp]
    rw [e]
    simp [hb]

/-- Marked terms: numbers from k on. -/
def markTs : Nat → Int → List Tm
  | 0, _ => []
  | n + 1, k => ⟨⟨by8 k, by8 (k + 1), by8 (k + 2)⟩, k + 3⟩ :: markTs n (k + 4)
theorem markTs_length : ∀ (n : Nat) (k : Int), (markTs n k).length = n
  | 0, _ => rfl
  | n + 1, k => by simp [markTs, markTs_length n]
theorem markTs_succ : ∀ (n : Nat) (k : Int), markTs (n + 1) k = markTs n k ++ [⟨⟨by8 (k + 4 * n), by8 (k + 4 * n + 1), by8 (k + 4 * n + 2)⟩, k + 4 * n + 3⟩]
  | 0, k => by simp [markTs]
  | n + 1, k => by
    have e : k + 4 + 4 * (n : Int) = k + 4 * ((n + 1 : Nat) : Int) := by omega
    rw [markTs, markTs_succ n (k + 4), markTs, List.cons_append, e]
theorem markTs_get {n : Nat} {k : Int} {i : Nat} {t : Tm} (h : (markTs n k)[i]? = some t) : t = ⟨⟨by8 (k + 4 * i), by8 (k + 4 * i + 1), by8 (k + 4 * i + 2)⟩, k + 4 * i + 3⟩ := by
  induction n generalizing k i with
  | zero => simp [markTs] at h
  | succ n ih =>
    cases i with
    | zero => simp [markTs] at h; rw [← h]; simp
    | succ i =>
      have := ih (k := k + 4) (i := i) (by simpa [markTs] using h)
      rw [this]
      have e : k + 4 + 4 * (i : Int) = k + 4 * ((i + 1 : Nat) : Int) := by omega
      rw [e]

theorem markTermS_ok (ts : List Tm) (k : Int) (hl : ts.length ≤ 2000000) (hk : 0 ≤ k) (hk2 : k ≤ 1000000000) : CallX Go.Proofs.Try.prog 74 [.one (oTerms ts), .one (i64 k)] ⟨(.one (i64 (k + 4 * ts.length))), [(0, oTerms (markTs ts.length k))]⟩ := by
  have hF := fnOk 35 [.tmp 4]
  refine callX hF 60 Go.Proofs.Try.func74 rfl rfl rfl (by decide) (by simp) rfl (by simp) (by simp [ownAt]) ?_
  intro w0 hw hfix
  have S := @vc_sound w0 _ hF ⟨(.one (i64 (k + 4 * ts.length))), [(0, oTerms (markTs ts.length k))]⟩ Go.Proofs.Try.f74 rfl hfix
  simp
  refine J.loop hw (fun p : Nat × List Tm => ⟨[(0, .c (.ob 0)), (1, .c (.d (i64 (k + 4 * p.1)))), (5, .c (.d (i64 p.1)))], [(0, .arr 108 4 (terms p.2))]⟩)
    (fun p => p.1 ≤ ts.length ∧ p.2.length = ts.length ∧ p.2.take p.1 = markTs p.1 k) (fun p => ts.length - p.1) (0, ts) (by simp [markTs]) (by simp) ?_
  rintro ⟨i, zs⟩ ⟨hi, hlen, htk⟩
  simp only at hi hlen htk
  have w1 : IntKind.i64.wrap (k + 4 * (i : Int) + 1) = k + 4 * i + 1 := wrap64 (by omega) (by omega)
  have w2 : IntKind.i64.wrap (k + 4 * (i : Int) + 1 + 1) = k + 4 * i + 2 := by rw [wrap64 (by omega) (by omega)]; omega
  have w3 : IntKind.i64.wrap (k + 4 * (i : Int) + 2 + 1) = k + 4 * i + 3 := by rw [wrap64 (by omega) (by omega)]; omega
  have w4 : IntKind.i64.wrap (k + 4 * (i : Int) + 3 + 1) = k + 4 * (i + 1 : Nat) := by rw [wrap64 (by omega) (by omega)]; omega
  refine S 60 _ _ ?_
  simp
  refine ⟨fun hlt => ?_, fun hge => ?_⟩
  · obtain ⟨t, ht⟩ : ∃ t, zs[i]? = some t := ⟨_, List.getElem?_eq_getElem (by omega)⟩
    refine J.rounds 5 (LpW.step (S 60 _ _ ?_))
    simp [ht, w1]
    refine ⟨by omega, LpW.inv (LpW.step (S 60 _ _ ?_))⟩
    simp [hlt, w2]
    refine LpW.inv (LpW.step (S 60 _ _ ?_))
    simp [hlt, w3]
    refine LpW.inv (LpW.step (S 60 _ _ ?_))
    simp [hlt, w4]
    refine Nxt.mk (i + 1, zs.set i ⟨⟨by8 (k + 4 * i), by8 (k + 4 * i + 1), by8 (k + 4 * i + 2)⟩, k + 4 * i + 3⟩) ⟨by show i + 1 ≤ _; omega, by simpa using hlen, ?_⟩ (by simp [wrapS (i := i) (n := ts.length) (by omega) (by omega), List.map_set]) (by show ts.length - (i + 1) < ts.length - i; omega)
    show (zs.set i _).take (i + 1) = markTs (i + 1) k
    rw [List.take_add_one, List.take_set_of_le (Nat.le_refl i), htk, markTs_succ]
    simp [show i < zs.length by omega]
  · have e : i = ts.length := by omega
    have hz : zs = markTs ts.length k := by
      rw [e, ← hlen, List.take_length] at htk
      rw [htk, hlen]
    refine ⟨by omega, by rw [hz]⟩

theorem heldTermS_ok (n : Nat) (k : Int) (hl : n ≤ 2000000) (hk : 0 ≤ k) (hk2 : k ≤ 1000000000) : CallOK Go.Proofs.Try.prog 85 [.one (vTerms (markTs n k)), .one (i64 k)] (.one (i64 (k + 4 * n))) := by
  have hF := fnOk 39 [.tmp 4]
  refine callOK hF 60 Go.Proofs.Try.func85 rfl rfl rfl (by decide) (by simp) rfl ?_
  intro w0 hw
  have S := @vc_sound w0 _ hF ⟨(.one (i64 (k + 4 * n))), []⟩ Go.Proofs.Try.f85 rfl (by simp)
  have hlen := markTs_length n k
  simp
  refine J.loop hw (fun i : Nat => ⟨[(0, .c (.d (vTerms (markTs n k)))), (1, .c (.d (i64 (k + 4 * i)))), (5, .c (.d (i64 i)))], []⟩)
    (fun i => i ≤ n) (fun i => n - i) 0 (by simp) (by simp) ?_
  intro i hi
  have w1 : IntKind.i64.wrap (k + 4 * (i : Int) + 1) = k + 4 * i + 1 := wrap64 (by omega) (by omega)
  have w2 : IntKind.i64.wrap (k + 4 * (i : Int) + 1 + 1) = k + 4 * i + 2 := by rw [wrap64 (by omega) (by omega)]; omega
  have w3 : IntKind.i64.wrap (k + 4 * (i : Int) + 2 + 1) = k + 4 * i + 3 := by rw [wrap64 (by omega) (by omega)]; omega
  have w4 : IntKind.i64.wrap (k + 4 * (i : Int) + 3 + 1) = k + 4 * (i + 1 : Nat) := by rw [wrap64 (by omega) (by omega)]; omega
  refine S 60 _ _ ?_
  simp [hlen]
  refine ⟨fun hlt => ?_, fun hge => ?_⟩
  · refine J.rounds 5 (LpW.step (S 60 _ _ ?_))
    simp [w1, hlen]
    refine ⟨hlt, fun t ht => ?_⟩
    have hg := markTs_get ht
    simp [hg]
    refine LpW.inv (LpW.step (S 60 _ _ ?_))
    simp [w2, hlen]
    refine ⟨hlt, fun t2 ht2 => ?_⟩
    have hg2 := markTs_get ht2
    simp [hg2]
    refine LpW.inv (LpW.step (S 60 _ _ ?_))
    simp [w3, hlen]
    refine ⟨hlt, fun t3 ht3 => ?_⟩
    have hg3 := markTs_get ht3
    simp [hg3]
    refine LpW.inv (LpW.step (S 60 _ _ ?_))
    simp [w4, hlen]
    refine ⟨hlt, fun t4 ht4 => ?_⟩
    have hg4 := markTs_get ht4
    simp [hg4]
    exact Nxt.mk (i + 1) (by omega) (by simp [wrapS (i := i) (n := n) hlt (by omega)]) (by omega)
  · have : i = n := by omega
    subst this; rfl

theorem markPoly_ok (p d : Int) (ts : List Tm) (k : Int) (hl : ts.length ≤ 2000000) (hk : 0 ≤ k) (hk2 : k ≤ 1000000000) : CallX Go.Proofs.Try.prog 30 [po p d ts, .one (i64 k)] ⟨(.one (i64 (k + 4 * ts.length))), [(2, oTerms (markTs ts.length k))]⟩ := by
  have hF := fnOk 10 [.tmp 4]
  refine callX hF 60 Go.Proofs.Try.func30 rfl rfl rfl (by decide) (by simp) rfl (by simp) (by simp [ownAt]) ?_
  intro w0 hw hfix
  have S := @vc_sound w0 _ hF ⟨(.one (i64 (k + 4 * ts.length))), [(2, oTerms (markTs ts.length k))]⟩ Go.Proofs.Try.f30 rfl hfix
  have c1 := markTermS_ok ts k hl hk hk2
  simp
  refine CallW.mut c1 (by decide) (by simp) (by simp) (by simp) (by simp) (by simp) (by simp) ?_
  refine S 60 _ _ ?_
  simp

theorem heldPoly_ok (p d : Int) (n : Nat) (k : Int) (hl : n ≤ 2000000) (hk : 0 ≤ k) (hk2 : k ≤ 1000000000) : CallOK Go.Proofs.Try.prog 31 [pv p d (markTs n k), .one (i64 k)] (.one (i64 (k + 4 * n))) := by
  have hF := fnOk 12 [.tmp 4]
  refine callOK hF 60 Go.Proofs.Try.func31 rfl rfl rfl (by decide) (by simp) rfl ?_
  intro w0 hw
  have S := @vc_sound w0 _ hF ⟨(.one (i64 (k + 4 * n))), []⟩ Go.Proofs.Try.f31 rfl (by simp)
  have c1 := heldTermS_ok n k hl hk hk2
  simp
  refine CallW.ok (by decide) (by simp) c1 (by simp) (S 60 _ _ ?_)
  have hb : ¬ (k + 4 * (n : Int) < 0) := by omega
  simp [hb]

end Go.Sm

namespace Go.Sm
open Go.RowKit

abbrev exs (es : List Ex) : List (List D) := es.map fun e => [u8 e.a, u8 e.b, u8 e.c]
abbrev oExs (es : List Ex) : D := .own 88 3 (exs es)
abbrev vExs (es : List Ex) : D := .vw true 3 (exs es)

/-- f (k - 1), f (k - 2), .. -/
def downTo (f : Nat → List Ex) : Nat → List Ex
  | 0 => []
  | k + 1 => f k ++ downTo f k
theorem downTo_len {f : Nat → List Ex} {m : Nat} (h : ∀ k, (f k).length ≤ m) : ∀ k, (downTo f k).length ≤ k * m
  | 0 => by simp [downTo]
  | k + 1 => by
    have := downTo_len h k
    have := h k
    rw [downTo, List.length_append, Nat.add_mul]; omega
def mkE (a b c : Nat) : Ex := ⟨by8 a, by8 b, by8 c⟩
/-- Is it a monomial in d letters. -/
def inD (d : Int) (b c : Nat) : Prop := ¬ (d < 2 ∧ 0 < b) ∧ ¬ (d < 3 ∧ 0 < c)
instance (d : Int) (b c : Nat) : Decidable (inD d b c) := by unfold inD; infer_instance
def monRow (d : Int) (n a : Nat) (b : Nat) : List Ex := if inD d b (n - a - b) then [mkE a b (n - a - b)] else []
def mons (d : Int) (n : Nat) : List Ex := downTo (fun a => downTo (monRow d n a) (n - a + 1)) (n + 1)
theorem monRow_len (d : Int) (n a b : Nat) : (monRow d n a b).length ≤ 1 := by unfold monRow; split <;> simp
theorem mons_len (d : Int) (n : Nat) (hn : n ≤ 12) : (mons d n).length ≤ 169 := by
  have h : ∀ a, (downTo (monRow d n a) (n - a + 1)).length ≤ 13 := by
    intro a
    have := downTo_len (monRow_len d n a) (n - a + 1)
    omega
  have := downTo_len h (n + 1)
  unfold mons
  omega

set_option maxRecDepth 4000 in
set_option maxHeartbeats 1000000 in
theorem monomials_ok (d : Int) (n : Nat) (hd : 1 ≤ d ∧ d ≤ 3) (hn : n ≤ 12) : CallOK Go.Proofs.Try.prog 82 [.one (i64 d), .one (i64 n)] (.one (oExs (mons d n))) := by
  have hF := fnOk 52 [.tmp 4]
  refine callOK hF 60 Go.Proofs.Try.func82 rfl rfl rfl (by decide) (by simp) rfl ?_
  intro w0 hw
  have S := @vc_sound w0 _ hF ⟨(.one (oExs (mons d n))), []⟩ Go.Proofs.Try.f82 rfl (by simp)
  have hml := mons_len d n hn
  simp
  refine J.loop hw (fun q : Nat × List Ex => ⟨[(0, .c (.d (i64 d))), (1, .c (.d (i64 n))), (5, .c (.ob 64005)), (6, .c (.d (i64 ((q.1 : Int) - 1))))], [(64005, .arr 88 3 (exs q.2))]⟩)
    (fun q => q.1 ≤ n + 1 ∧ q.2 ++ downTo (fun a => downTo (monRow d n a) (n - a + 1)) q.1 = mons d n) (fun q => q.1) (n + 1, []) (by simp [mons]) (by simp) ?_
  rintro ⟨A, acc⟩ ⟨hA, hacc⟩
  simp only at hA hacc
  cases A with
  | zero =>
    have : acc = mons d n := by simpa [downTo] using hacc
    refine S 60 _ _ ?_
    simp [this]
  | succ a =>
    have w1 : IntKind.i64.wrap ((n : Int) - a) = ((n - a : Nat) : Int) := by rw [wrap64 (by omega) (by omega)]; omega
    have hge : (0 : Int) ≤ a := by omega
    refine S 60 _ _ ?_
    simp [w1]
    refine J.loop hw (fun q : Nat × List Ex => ⟨[(0, .c (.d (i64 d))), (1, .c (.d (i64 n))), (5, .c (.ob 64005)), (6, .c (.d (i64 (a : Int)))), (7, .c (.d (i64 ((q.1 : Int) - 1))))], [(64005, .arr 88 3 (exs q.2))]⟩)
      (fun q => q.1 ≤ n - a + 1 ∧ q.2 ++ (downTo (monRow d n a) q.1 ++ downTo (fun a => downTo (monRow d n a) (n - a + 1)) a) = mons d n) (fun q => q.1) (n - a + 1, acc) (by simpa [downTo] using hacc) (by simp) ?_
    rintro ⟨B, acc⟩ ⟨hB, hacc⟩
    simp only at hB hacc
    have hal : acc.length ≤ 169 := by
      have := congrArg List.length hacc
      simp only [List.length_append] at this
      omega
    cases B with
    | zero =>
      refine S 60 _ _ ?_
      simp
      refine Nxt.mk (a, acc) ⟨by show a ≤ n + 1; omega, by simpa [downTo] using hacc⟩ ?_ (by show a < a + 1; omega)
      have w2 : IntKind.i64.wrap ((a : Int) - 1) = (a : Int) - 1 := wrap64 (by omega) (by omega)
      simp [w2]
    | succ b =>
      have w3 : IntKind.i64.wrap ((n : Int) - a - b) = ((n - a - b : Nat) : Int) := by rw [wrap64 (by omega) (by omega)]; omega
      have w3' : IntKind.i64.wrap (((n - a : Nat) : Int) - b) = ((n - a - b : Nat) : Int) := by rw [wrap64 (by omega) (by omega)]; omega
      have w4 : IntKind.i64.wrap ((b : Int) - 1) = (b : Int) - 1 := wrap64 (by omega) (by omega)
      have hskip : ¬ inD d b (n - a - b) → b ≤ n - a + 1 ∧ acc ++ (downTo (monRow d n a) b ++ downTo (fun a => downTo (monRow d n a) (n - a + 1)) a) = mons d n := by
        intro h
        have hm : monRow d n a b = [] := by unfold monRow; rw [if_neg h]
        refine ⟨by omega, ?_⟩
        rw [← hacc]; simp [downTo, hm]
      have hput : inD d b (n - a - b) → b ≤ n - a + 1 ∧ (acc ++ [mkE a b (n - a - b)]) ++ (downTo (monRow d n a) b ++ downTo (fun a => downTo (monRow d n a) (n - a + 1)) a) = mons d n := by
        intro h
        have hm : monRow d n a b = [mkE a b (n - a - b)] := by unfold monRow; rw [if_pos h]
        refine ⟨by omega, ?_⟩
        rw [← hacc]; simp [downTo, hm]
      have hb2 : (acc.length + 1) * 3 ≤ 140737488355328 := by omega
      by_cases h2 : d < 2
      · by_cases hb : 0 < b
        · have hbn : ¬ b = 0 := by omega
          refine S 90 _ _ ?_
          simp [w1, w3', h2, hb]
          refine Nxt.mk (b, acc) (hskip (by unfold inD; omega)) (by simp [w4]) (by show b < b + 1; omega)
        · have hb0 : b = 0 := by omega
          have h3 : d < 3 := by omega
          by_cases hc : 0 < n - a - b
          · have hcn : ¬ n - a - b = 0 := by omega
            refine S 90 _ _ ?_
            simp [w1, w3', h2, h3, hb, hc]
            refine Nxt.mk (b, acc) (hskip (by unfold inD; omega)) (by simp [w4]) (by show b < b + 1; omega)
          · refine S 90 _ _ ?_
            simp [w1, w3', h2, h3, hb, hc]
            refine ⟨⟨by omega, by omega⟩, ?_⟩
            refine Nxt.mk (b, acc ++ [mkE a b (n - a - b)]) (hput (by unfold inD; omega)) (by simp [w4, mkE]) (by show b < b + 1; omega)
      · by_cases h3 : d < 3
        · by_cases hc : 0 < n - a - b
          · have hcn : ¬ n - a - b = 0 := by omega
            refine S 90 _ _ ?_
            simp [w1, w3', h2, h3, hc]
            refine Nxt.mk (b, acc) (hskip (by unfold inD; omega)) (by simp [w4]) (by show b < b + 1; omega)
          · refine S 90 _ _ ?_
            simp [w1, w3', h2, h3, hc]
            refine ⟨⟨by omega, by omega⟩, ?_⟩
            refine Nxt.mk (b, acc ++ [mkE a b (n - a - b)]) (hput (by unfold inD; omega)) (by simp [w4, mkE]) (by show b < b + 1; omega)
        · refine S 90 _ _ ?_
          simp [w1, w3', h2, h3]
          refine ⟨⟨by omega, by omega⟩, ?_⟩
          refine Nxt.mk (b, acc ++ [mkE a b (n - a - b)]) (hput (by unfold inD; omega)) (by simp [w4, mkE]) (by show b < b + 1; omega)

theorem by8_nat {n : Nat} (h : n < 256) : (by8 (n : Int)).toNat = n := by
  unfold by8
  rw [UInt8.toNat_ofNat']
  omega
theorem by8_zero {n : Nat} (h : n < 256) : by8 (n : Int) = 0 ↔ n = 0 := by
  refine ⟨fun e => ?_, fun e => by subst e; rfl⟩
  have := by8_nat h
  rw [e] at this
  exact this.symm
theorem inV_mkE {d : Int} {a b c : Nat} (hd : 1 ≤ d) (h : a + b + c ≤ 12) : InV d (mkE a b c) ↔ inD d b c := by
  unfold InV inD mkE Ex.deg
  simp only [by8_zero (show b < 256 by omega), by8_zero (show c < 256 by omega), by8_nat (show a < 256 by omega), by8_nat (show b < 256 by omega), by8_nat (show c < 256 by omega)]
  omega

set_option maxRecDepth 4000 in
set_option maxHeartbeats 1000000 in
theorem l01Monomials_ok (d : Int) (n : Nat) (hd : 1 ≤ d ∧ d ≤ 3) (hn : n ≤ 12) : CallOK Go.Proofs.Try.prog 77 [.one (i64 d), .one (i64 n)] (.one (oExs (mons d n))) := by
  have hF := fnOk 41 [.tmp 4]
  refine callOK hF 60 Go.Proofs.Try.func77 rfl rfl rfl (by decide) (by simp) rfl ?_
  intro w0 hw
  have S := @vc_sound w0 _ hF ⟨(.one (oExs (mons d n))), []⟩ Go.Proofs.Try.f77 rfl (by simp)
  have hml := mons_len d n hn
  simp
  refine J.loop hw (fun q : Nat × List Ex => ⟨[(0, .c (.d (i64 d))), (1, .c (.d (i64 n))), (5, .c (.ob 64005)), (6, .c (.d (i64 ((q.1 : Int) - 1))))], [(64005, .arr 88 3 (exs q.2))]⟩)
    (fun q => q.1 ≤ n + 1 ∧ q.2 ++ downTo (fun a => downTo (monRow d n a) (n - a + 1)) q.1 = mons d n) (fun q => q.1) (n + 1, []) (by simp [mons]) (by simp) ?_
  rintro ⟨A, acc⟩ ⟨hA, hacc⟩
  simp only at hA hacc
  cases A with
  | zero =>
    have : acc = mons d n := by simpa [downTo] using hacc
    refine S 60 _ _ ?_
    simp [this]
  | succ a =>
    have w1 : IntKind.i64.wrap ((n : Int) - a) = ((n - a : Nat) : Int) := by rw [wrap64 (by omega) (by omega)]; omega
    have hge : (0 : Int) ≤ a := by omega
    refine S 60 _ _ ?_
    simp [w1]
    refine J.loop hw (fun q : Nat × List Ex => ⟨[(0, .c (.d (i64 d))), (1, .c (.d (i64 n))), (5, .c (.ob 64005)), (6, .c (.d (i64 (a : Int)))), (7, .c (.d (i64 ((q.1 : Int) - 1))))], [(64005, .arr 88 3 (exs q.2))]⟩)
      (fun q => q.1 ≤ n - a + 1 ∧ q.2 ++ (downTo (monRow d n a) q.1 ++ downTo (fun a => downTo (monRow d n a) (n - a + 1)) a) = mons d n) (fun q => q.1) (n - a + 1, acc) (by simpa [downTo] using hacc) (by simp) ?_
    rintro ⟨B, acc⟩ ⟨hB, hacc⟩
    simp only at hB hacc
    have hal : acc.length ≤ 169 := by
      have := congrArg List.length hacc
      simp only [List.length_append] at this
      omega
    cases B with
    | zero =>
      refine S 60 _ _ ?_
      simp
      refine Nxt.mk (a, acc) ⟨by show a ≤ n + 1; omega, by simpa [downTo] using hacc⟩ ?_ (by show a < a + 1; omega)
      have w2 : IntKind.i64.wrap ((a : Int) - 1) = (a : Int) - 1 := wrap64 (by omega) (by omega)
      simp [w2]
    | succ b =>
      have w3 : IntKind.i64.wrap ((n : Int) - a - b) = ((n - a - b : Nat) : Int) := by rw [wrap64 (by omega) (by omega)]; omega
      have w3' : IntKind.i64.wrap (((n - a : Nat) : Int) - b) = ((n - a - b : Nat) : Int) := by rw [wrap64 (by omega) (by omega)]; omega
      have w4 : IntKind.i64.wrap ((b : Int) - 1) = (b : Int) - 1 := wrap64 (by omega) (by omega)
      have hskip : ¬ inD d b (n - a - b) → b ≤ n - a + 1 ∧ acc ++ (downTo (monRow d n a) b ++ downTo (fun a => downTo (monRow d n a) (n - a + 1)) a) = mons d n := by
        intro h
        have hm : monRow d n a b = [] := by unfold monRow; rw [if_neg h]
        refine ⟨by omega, ?_⟩
        rw [← hacc]; simp [downTo, hm]
      have hput : inD d b (n - a - b) → b ≤ n - a + 1 ∧ (acc ++ [mkE a b (n - a - b)]) ++ (downTo (monRow d n a) b ++ downTo (fun a => downTo (monRow d n a) (n - a + 1)) a) = mons d n := by
        intro h
        have hm : monRow d n a b = [mkE a b (n - a - b)] := by unfold monRow; rw [if_pos h]
        refine ⟨by omega, ?_⟩
        rw [← hacc]; simp [downTo, hm]
      have c1 := l01Exps_ok d (mkE a b (n - a - b)) hd.1 hd.2
      have hiff : InV d (mkE a b (n - a - b)) ↔ inD d b (n - a - b) := inV_mkE hd.1 (by omega)
      by_cases h : inD d b (n - a - b)
      · rw [decide_eq_true (hiff.2 h)] at c1
        refine S 90 _ _ ?_
        simp [w1, w3']
        refine CallW.ok (by decide) (by simp [mkE]) c1 (by simp) (S 60 _ _ ?_)
        simp
        refine ⟨⟨by omega, by omega⟩, ?_⟩
        refine Nxt.mk (b, acc ++ [mkE a b (n - a - b)]) (hput h) (by simp [w4, mkE]) (by show b < b + 1; omega)
      · rw [decide_eq_false (fun q => h (hiff.1 q))] at c1
        refine S 90 _ _ ?_
        simp [w1, w3']
        refine CallW.ok (by decide) (by simp [mkE]) c1 (by simp) (S 60 _ _ ?_)
        simp
        refine Nxt.mk (b, acc) (hskip h) (by simp [w4]) (by show b < b + 1; omega)

end Go.Sm

namespace Go.Sm
open Go.RowKit

abbrev Asc (ts : List Tm) : Prop := ts.Pairwise fun a b => cmpE a.e b.e < 0
/-- Canonical terms. -/
def Can (p : Int) (ts : List Tm) : Prop := Asc ts ∧ ∀ t ∈ ts, 1 ≤ t.v ∧ t.v < p

theorem coef_none : ∀ {ts : List Tm} {e : Ex}, (∀ t ∈ ts, t.e ≠ e) → coef ts e = 0
  | [], _, _ => rfl
  | t :: ts, e, h => by
    rw [coef, if_neg (h t (List.mem_cons_self ..))]
    exact coef_none fun u hu => h u (List.mem_cons_of_mem _ hu)
theorem asc_ne {t : Tm} {ts : List Tm} (h : Asc (t :: ts)) : ∀ u ∈ ts, u.e ≠ t.e := by
  intro u hu e
  have := (List.pairwise_cons.1 h).1 u hu
  rw [e, cmpE_self] at this; omega
theorem coef_mem : ∀ {ts : List Tm} {t : Tm}, (ts.map (·.e)).Nodup → t ∈ ts → coef ts t.e = t.v
  | [], t, _, h => by cases h
  | u :: ts, t, hn, h => by
    simp only [List.map_cons, List.nodup_cons] at hn
    rcases List.mem_cons.1 h with rfl | h
    · simp [coef]
    · have : u.e ≠ t.e := fun e => hn.1 (by rw [e]; exact List.mem_map_of_mem h)
      rw [coef, if_neg this]; exact coef_mem hn.2 h
theorem asc_nodup {ts : List Tm} (h : Asc ts) : (ts.map (·.e)).Nodup := by
  rw [List.Nodup, List.pairwise_map]
  refine h.imp fun {a b} hab e => ?_
  rw [e, cmpE_self] at hab; omega
theorem coef_perm {xs ys : List Tm} (h : xs.Perm ys) (hn : (ys.map (·.e)).Nodup) (e : Ex) : coef xs e = coef ys e := by
  have hn' : (xs.map (·.e)).Nodup := ((h.map _).nodup_iff).2 hn
  by_cases hx : ∃ t ∈ xs, t.e = e
  · obtain ⟨t, ht, rfl⟩ := hx
    rw [coef_mem hn' ht, coef_mem hn (h.subset ht)]
  · have h1 : ∀ t ∈ xs, t.e ≠ e := fun t ht he => hx ⟨t, ht, he⟩
    rw [coef_none h1, coef_none fun t ht => h1 t (h.symm.subset ht)]

/-- Canonical terms with the same coefficients are the same. -/
theorem can_ext {p : Int} : ∀ {xs ys : List Tm}, Can p xs → Can p ys → (∀ e, coef xs e = coef ys e) → xs = ys
  | [], [], _, _, _ => rfl
  | [], u :: ys, _, hy, h => by
    have := h u.e
    simp only [coef, if_true] at this
    have := hy.2 u (List.mem_cons_self ..); omega
  | t :: xs, [], hx, _, h => by
    have := h t.e
    simp only [coef, if_true] at this
    have := hx.2 t (List.mem_cons_self ..); omega
  | t :: xs, u :: ys, hx, hy, h => by
    have ht := hx.2 t (List.mem_cons_self ..)
    have hu := hy.2 u (List.mem_cons_self ..)
    obtain ⟨a1, a2⟩ := List.pairwise_cons.1 hx.1
    obtain ⟨b1, b2⟩ := List.pairwise_cons.1 hy.1
    have htu : t.e = u.e := by
      apply Decidable.byContradiction
      intro hne
      have hk : t.e.key ≠ u.e.key := fun e => hne (key_inj e)
      rcases Int.lt_or_gt_of_ne hk with hlt | hlt
      · have h0 : coef (u :: ys) t.e = 0 := coef_none fun w hw => by
          rcases List.mem_cons.1 hw with rfl | hw
          · exact fun e => hne e.symm
          · have := (cmpE_key _ _).1 (b1 w hw)
            intro e; rw [e] at this; omega
        have := h t.e
        rw [h0] at this
        simp only [coef, if_true] at this; omega
      · have h0 : coef (t :: xs) u.e = 0 := coef_none fun w hw => by
          rcases List.mem_cons.1 hw with rfl | hw
          · exact hne
          · have := (cmpE_key _ _).1 (a1 w hw)
            intro e; rw [e] at this; omega
        have := h u.e
        rw [h0] at this
        simp only [coef, if_true] at this; omega
    have hv : t.v = u.v := by
      have := h t.e
      simp only [coef, if_true, htu] at this; exact this
    have : t = u := by cases t; cases u; simp_all
    subst this
    congr 1
    refine can_ext ⟨a2, fun w hw => hx.2 w (List.mem_cons_of_mem _ hw)⟩ ⟨b2, fun w hw => hy.2 w (List.mem_cons_of_mem _ hw)⟩ fun e => ?_
    by_cases he : t.e = e
    · subst he
      rw [coef_none (asc_ne hx.1), coef_none (asc_ne hy.1)]
    · have := h e
      simpa only [coef, if_neg he] using this

/-! ### a number put to a coefficient -/
theorem putGo_true (e : Ex) (v : Int) : ∀ (ts : List Tm), putGo e v true ts = ts.filter fun t => t.e ≠ e
  | [] => rfl
  | t :: ts => by
    simp only [putGo, Bool.true_or]
    rw [putGo_true e v ts]
    by_cases h : t.e = e <;> simp [h]
theorem coef_filter {e e' : Ex} : ∀ (ts : List Tm), coef (ts.filter fun t => t.e ≠ e) e' = if e' = e then 0 else coef ts e'
  | [] => by simp [coef]
  | t :: ts => by
    have ih := coef_filter (e := e) (e' := e') ts
    rw [List.filter_cons]
    by_cases h : t.e = e
    · rw [if_neg (by simpa using h), ih]
      by_cases h2 : e' = e
      · simp [h2]
      · rw [if_neg h2, if_neg h2, coef, if_neg (fun q => h2 (by rw [← q, h]))]
    · rw [if_pos (by simpa using h), coef, ih]
      by_cases h2 : e' = e
      · rw [if_pos h2, if_pos h2, if_neg (fun q => h (by rw [q, h2]))]
      · rw [if_neg h2, if_neg h2, coef]
theorem putGo_coef {e e' : Ex} {v : Int} : ∀ {ts : List Tm}, Asc ts → coef (putGo e v false ts) e' = if e' = e then v else coef ts e'
  | [], _ => by
    simp only [putGo, coef, Bool.false_eq_true, if_false]
    by_cases h : e' = e
    · simp [h]
    · rw [if_neg (fun q => h q.symm), if_neg h]
  | t :: ts, hs => by
    obtain ⟨h1, h2⟩ := List.pairwise_cons.1 hs
    have ih := putGo_coef (e := e) (e' := e') (v := v) h2
    by_cases hlt : cmpE e t.e < 0
    · have hne : t.e ≠ e := fun q => by rw [q, cmpE_self] at hlt; omega
      simp only [putGo, hlt, decide_true, Bool.or_true, and_self, if_true, if_neg hne, List.cons_append, List.nil_append, coef, putGo_true, coef_filter]
      by_cases h : e' = e
      · simp [h]
      · rw [if_neg (fun q => h q.symm), if_neg h, if_neg h]
    · by_cases he : t.e = e
      · simp only [putGo, hlt, and_false, if_false, if_pos he, List.nil_append, decide_false, Bool.or_false, ih]
        by_cases h : e' = e
        · rw [if_pos h, if_pos h]
        · rw [if_neg h, if_neg h, coef, if_neg (fun q => h (by rw [← q, he]))]
      · simp only [putGo, hlt, and_false, if_false, if_neg he, List.nil_append, List.cons_append, decide_false, Bool.or_false, coef, ih]
        by_cases h : e' = e
        · rw [if_pos h, if_pos h, if_neg (fun q => he (by rw [q, h]))]
        · rw [if_neg h, if_neg h]
theorem putGo_mem {e : Ex} {v : Int} : ∀ {ts : List Tm} {b : Bool} {t : Tm}, t ∈ putGo e v b ts → t = ⟨e, v⟩ ∧ b = false ∨ t ∈ ts ∧ t.e ≠ e
  | [], b, t, h => by
    cases b <;> simp [putGo] at h
    exact .inl ⟨h, rfl⟩
  | u :: ts, b, t, h => by
    simp only [putGo, List.mem_append] at h
    rcases h with h | h | h
    · split at h
      · rename_i hb; simp only [List.mem_singleton] at h; exact .inl ⟨h, hb.1⟩
      · cases h
    · split at h
      · cases h
      · rename_i hu; simp only [List.mem_singleton] at h; exact .inr ⟨by rw [h]; exact List.mem_cons_self .., by rw [h]; exact hu⟩
    · rcases putGo_mem h with ⟨h1, h2⟩ | ⟨h1, h2⟩
      · cases b <;> simp at h2
        exact .inl ⟨h1, rfl⟩
      · exact .inr ⟨List.mem_cons_of_mem _ h1, h2⟩
theorem putGo_asc {e : Ex} {v : Int} : ∀ {ts : List Tm}, Asc ts → Asc (putGo e v false ts)
  | [], _ => by simp [putGo]
  | t :: ts, hs => by
    obtain ⟨h1, h2⟩ := List.pairwise_cons.1 hs
    by_cases hlt : cmpE e t.e < 0
    · have hne : t.e ≠ e := fun q => by rw [q, cmpE_self] at hlt; omega
      have hall : ∀ u ∈ t :: ts, cmpE e u.e < 0 := by
        intro u hu
        rcases List.mem_cons.1 hu with rfl | hu
        · exact hlt
        · have q1 := (cmpE_key _ _).1 hlt
          have q2 := (cmpE_key _ _).1 (h1 u hu)
          exact (cmpE_key _ _).2 (by omega)
      have hf : ts.filter (fun u => u.e ≠ e) = ts := List.filter_eq_self.2 fun u hu => by
        have := hall u (List.mem_cons_of_mem _ hu)
        have : u.e ≠ e := fun q => by rw [q, cmpE_self] at this; omega
        simpa using this
      simp only [putGo, hlt, decide_true, Bool.or_true, and_self, if_true, if_neg hne, List.cons_append, List.nil_append, putGo_true, hf]
      exact List.pairwise_cons.2 ⟨hall, hs⟩
    · by_cases he : t.e = e
      · simp only [putGo, hlt, and_false, if_false, if_pos he, List.nil_append, decide_false, Bool.or_false]
        exact putGo_asc h2
      · simp only [putGo, hlt, and_false, if_false, if_neg he, List.nil_append, List.cons_append, decide_false, Bool.or_false]
        refine List.pairwise_cons.2 ⟨fun u hu => ?_, putGo_asc h2⟩
        rcases putGo_mem hu with ⟨rfl, _⟩ | ⟨hu, _⟩
        · rw [cmpE_key] at *
          have : e.key ≠ t.e.key := fun q => he (key_inj q).symm
          simp only; omega
        · exact h1 u hu
theorem putT_can {p : Int} {ts : List Tm} (hp : 0 < p) (h : Can p ts) (e : Ex) (v : Int) : Can p (putT p ts e v) ∧ ∀ e', coef (putT p ts e v) e' = if e' = e then (v + coef ts e) % p else coef ts e' := by
  unfold putT
  have q1 := Int.emod_nonneg (v + coef ts e) (show p ≠ 0 by omega)
  have q2 := Int.emod_lt_of_pos (v + coef ts e) hp
  by_cases h0 : (v + coef ts e) % p = 0
  · have : ((v + coef ts e) % p == 0) = true := by simpa using h0
    rw [this, putGo_true]
    refine ⟨⟨h.1.sublist List.filter_sublist, fun t ht => h.2 t (List.mem_filter.1 ht).1⟩, fun e' => ?_⟩
    rw [coef_filter, h0]
  · have : ((v + coef ts e) % p == 0) = false := by simpa using h0
    rw [this]
    refine ⟨⟨putGo_asc h.1, fun t ht => ?_⟩, fun e' => putGo_coef h.1⟩
    rcases putGo_mem ht with ⟨rfl, _⟩ | ⟨ht, _⟩
    · simp only; omega
    · exact h.2 t ht
theorem can_nil (p : Int) : Can p [] := ⟨List.Pairwise.nil, fun _ h => by cases h⟩
theorem coef_bound {p : Int} {ts : List Tm} (hp : 0 < p) (h : Can p ts) (e : Ex) : 0 ≤ coef ts e ∧ coef ts e < p := by
  by_cases hx : ∃ t ∈ ts, t.e = e
  · obtain ⟨t, ht, rfl⟩ := hx
    rw [coef_mem (asc_nodup h.1) ht]
    have := h.2 t ht; omega
  · rw [coef_none fun t ht he => hx ⟨t, ht, he⟩]; omega
theorem putGo_length {e : Ex} {v : Int} : ∀ {ts : List Tm} {b : Bool}, (putGo e v b ts).length ≤ ts.length + (if b then 0 else 1)
  | [], b => by cases b <;> simp [putGo]
  | t :: ts, b => by
    have ih := putGo_length (e := e) (v := v) (ts := ts) (b := b || decide (cmpE e t.e < 0))
    simp only [putGo, List.length_append, List.length_cons]
    by_cases h1 : cmpE e t.e < 0 <;> by_cases h2 : t.e = e <;> cases b <;> simp [h1, h2, cmpE_self] at ih ⊢ <;> omega
theorem putT_length (p : Int) (ts : List Tm) (e : Ex) (v : Int) : (putT p ts e v).length ≤ ts.length + 1 := by
  have := putGo_length (e := e) (v := (v + coef ts e) % p) (ts := ts) (b := (v + coef ts e) % p == 0)
  unfold putT
  split at this <;> omega

/-! ### sums -/
def sget : List (Ex × Int) → Ex → Int
  | [], _ => 0
  | x :: l, e => if x.1 = e then x.2 else sget l e
def sput : List (Ex × Int) → Ex → Int → List (Ex × Int)
  | [], e, v => [(e, v)]
  | x :: l, e, v => if x.1 = e then (e, v) :: l else x :: sput l e v
theorem sget_sput (e e' : Ex) (v : Int) : ∀ l, sget (sput l e v) e' = if e' = e then v else sget l e'
  | [] => by
    simp only [sput, sget]
    by_cases h : e' = e
    · simp [h]
    · rw [if_neg (fun q => h q.symm), if_neg h]
  | x :: l => by
    simp only [sput]
    by_cases hx : x.1 = e
    · rw [if_pos hx]
      simp only [sget]
      by_cases h : e' = e
      · simp [h]
      · rw [if_neg (fun q => h q.symm), if_neg h, if_neg (fun q => h (by rw [← q, hx]))]
    · rw [if_neg hx]
      simp only [sget, sget_sput e e' v l]
      by_cases h : e' = e
      · rw [if_pos h, if_pos h, if_neg (fun q => hx (by rw [q, h]))]
      · rw [if_neg h, if_neg h]
theorem sput_keys (e : Ex) (v : Int) : ∀ l : List (Ex × Int), (sput l e v).map (·.1) = if e ∈ l.map (·.1) then l.map (·.1) else l.map (·.1) ++ [e]
  | [] => by simp [sput]
  | x :: l => by
    have ih := sput_keys e v l
    simp only [sput]
    by_cases hx : x.1 = e
    · simp [hx]
    · rw [if_neg hx, List.map_cons, ih]
      have hx' : ¬ e = x.1 := fun q => hx q.symm
      by_cases h : e ∈ l.map (·.1)
      · rw [if_pos h, if_pos (by simp [h]), List.map_cons]
      · rw [if_neg h, if_neg (by simp only [List.map_cons, List.mem_cons, not_or]; exact ⟨hx', h⟩), List.map_cons, List.cons_append]
theorem sput_nodup {l : List (Ex × Int)} (h : (l.map (·.1)).Nodup) (e : Ex) (v : Int) : ((sput l e v).map (·.1)).Nodup := by
  rw [sput_keys]
  split
  · exact h
  · rename_i hn
    rw [List.nodup_append]
    exact ⟨h, by simp, fun a ha b hb => by simp only [List.mem_singleton] at hb; subst hb; exact fun e => hn (e ▸ ha)⟩
theorem sput_length (l : List (Ex × Int)) (e : Ex) (v : Int) : (sput l e v).length ≤ l.length + 1 := by
  have := congrArg List.length (sput_keys e v l)
  rw [List.length_map] at this
  rw [this]
  split <;> simp
theorem sget_mem : ∀ {l : List (Ex × Int)} {x : Ex × Int}, (l.map (·.1)).Nodup → x ∈ l → sget l x.1 = x.2
  | [], x, _, h => by cases h
  | y :: l, x, hn, h => by
    simp only [List.map_cons, List.nodup_cons] at hn
    rcases List.mem_cons.1 h with rfl | h
    · simp [sget]
    · have : y.1 ≠ x.1 := fun e => hn.1 (by rw [e]; exact List.mem_map_of_mem h)
      rw [sget, if_neg this]; exact sget_mem hn.2 h
theorem sget_none : ∀ {l : List (Ex × Int)} {e : Ex}, (∀ x ∈ l, x.1 ≠ e) → sget l e = 0
  | [], _, _ => rfl
  | x :: l, e, h => by
    rw [sget, if_neg (h x (List.mem_cons_self ..))]
    exact sget_none fun u hu => h u (List.mem_cons_of_mem _ hu)

theorem ofSum_can {p : Int} {l : List (Ex × Int)} (hp : 0 < p) (hn : (l.map (·.1)).Nodup) : Can p (ofSum p l) ∧ ∀ e, coef (ofSum p l) e = sget l e % p := by
  have hk := kept_keys (p := p) hn
  refine ⟨⟨srt_sorted hk, fun t ht => ?_⟩, fun e => ?_⟩
  · have ht := (srt_perm _).subset ht
    obtain ⟨x, hx, hx2⟩ := List.mem_filterMap.1 ht
    split at hx2
    · cases hx2
    · rename_i h0
      simp only [Option.some.injEq] at hx2; subst hx2
      have q1 := Int.emod_nonneg x.2 (show p ≠ 0 by omega)
      have q2 := Int.emod_lt_of_pos x.2 hp
      simp only; omega
  · unfold ofSum
    rw [coef_perm (srt_perm _) hk]
    by_cases hx : ∃ x ∈ l, x.1 = e
    · obtain ⟨x, hx, rfl⟩ := hx
      rw [sget_mem hn hx]
      by_cases h0 : x.2 % p = 0
      · rw [h0]
        refine coef_none fun t ht he => ?_
        obtain ⟨y, hy, hy2⟩ := List.mem_filterMap.1 ht
        split at hy2
        · cases hy2
        · rename_i h1
          simp only [Option.some.injEq] at hy2; subst hy2
          simp only at he
          have a1 := sget_mem hn hx
          have a2 := sget_mem hn hy
          rw [he] at a2
          rw [a1] at a2
          rw [← a2] at h1; exact h1 h0
      · have : (⟨x.1, x.2 % p⟩ : Tm) ∈ kept p l := List.mem_filterMap.2 ⟨x, hx, by rw [if_neg h0]⟩
        exact coef_mem hk this
    · rw [sget_none fun x hxl he => hx ⟨x, hxl, he⟩]
      have : (0 : Int) % p = 0 := by simp
      rw [this]
      refine coef_none fun t ht he => ?_
      obtain ⟨y, hy, hy2⟩ := List.mem_filterMap.1 ht
      split at hy2
      · cases hy2
      · simp only [Option.some.injEq] at hy2; subst hy2
        exact hx ⟨y, hy, he⟩
theorem ofSum_length (p : Int) (l : List (Ex × Int)) : (ofSum p l).length ≤ l.length := by
  unfold ofSum
  rw [(srt_perm _).length_eq]
  exact kept_length p l

/-! ### a sum in memory -/
abbrev exK (e : Ex) : List Int := [(e.a.toNat : Int), e.b.toNat, e.c.toNat]
theorem exK_inj {x y : Ex} (h : exK x = exK y) : x = y := by
  simp only [exK, List.cons.injEq, and_true] at h
  obtain ⟨h1, h2, h3⟩ := h
  cases x; cases y
  simp only [Ex.mk.injEq]
  exact ⟨u8_toNat_inj h1, u8_toNat_inj h2, u8_toNat_inj h3⟩
theorem exK_beq (x y : Ex) : (exK x == exK y) = decide (x = y) := by
  by_cases h : x = y
  · subst h; simp
  · rw [decide_eq_false h]
    exact beq_eq_false_iff_ne.2 fun e => h (exK_inj e)
theorem mpIdx_succ (k : List Int) : ∀ (xs : List (List Int × Value)) (i : Nat), mpIdx xs k (i + 1) = (mpIdx xs k i).map fun q => (q.1 + 1, q.2)
  | [], i => rfl
  | x :: xs, i => by
    simp only [mpIdx]
    split
    · rfl
    · exact mpIdx_succ k xs (i + 1)
theorem mpGet_sum (l : List (Ex × Int)) (e : Ex) : (mpGet (l.map fun p => sumE p) (exK e)).getD (.int .i64 0) = .int .i64 (sget l e) := by
  induction l with
  | nil => rfl
  | cons x l ih =>
    unfold mpGet at ih ⊢
    simp only [List.map_cons, mpIdx, sget]
    rw [show (exK e == (sumE x).1) = decide (e = x.1) from exK_beq e x.1]
    by_cases h : x.1 = e
    · simp [h]
    · have h' : ¬ e = x.1 := fun q => h q.symm
      rw [decide_eq_false h', if_neg h]
      simp only [Bool.false_eq_true, if_false, mpIdx_succ, Option.map_map]
      exact ih
theorem mpPut_sum (l : List (Ex × Int)) (e : Ex) (v : Int) : mpPut (l.map fun p => sumE p) (exK e) (.int .i64 v) = (sput l e v).map fun p => sumE p := by
  induction l with
  | nil => rfl
  | cons x l ih =>
    unfold mpPut at ih ⊢
    simp only [List.map_cons, mpIdx, sput]
    rw [show (exK e == (sumE x).1) = decide (e = x.1) from exK_beq e x.1]
    by_cases h : x.1 = e
    · simp [h]
    · have h' : ¬ e = x.1 := fun q => h q.symm
      rw [decide_eq_false h', if_neg h]
      simp only [Bool.false_eq_true, if_false, mpIdx_succ]
      cases hq : mpIdx (l.map fun p => sumE p) (exK e) 0 with
      | none => rw [hq] at ih; simp only [Option.map_none, List.map_cons, List.cons_append]; rw [← ih]
      | some q => rw [hq] at ih; simp only [Option.map_some, List.map_cons, List.set_cons_succ]; rw [← ih]

end Go.Sm

namespace Go.Sm
open Go.RowKit

theorem Pr.pos {p : Int} (h : Pr p) : 2 ≤ p ∧ p ≤ 13 := by unfold Pr at h; omega

/-- A polynomial and a code, as results. -/
abbrev pres (p d : Int) (ts : List Tm) (c : Int) : RV := .tup [(true, [i64 p, i64 d, oTerms ts]), (false, [i64 c])]

def sumOf (es : List Ex) : List (Ex × Int) := es.foldl (fun l e => sput l e 1) []
def putAll (p : Int) (es : List Ex) : List Tm := es.foldl (fun ts e => putT p ts e 1) []
theorem sumOf_snoc (es : List Ex) (e : Ex) : sumOf (es ++ [e]) = sput (sumOf es) e 1 := by simp [sumOf]
theorem putAll_snoc (p : Int) (es : List Ex) (e : Ex) : putAll p (es ++ [e]) = putT p (putAll p es) e 1 := by simp [putAll]
theorem snoc_ind {P : List Ex → Prop} (h0 : P []) (h1 : ∀ es e, P es → P (es ++ [e])) : ∀ es, P es := by
  intro es
  have : ∀ (n : Nat) (es : List Ex), es.length = n → P es := by
    intro n
    induction n with
    | zero => intro es h; rw [List.length_eq_zero_iff.1 h]; exact h0
    | succ n ih =>
      intro es h
      have hne : es ≠ [] := fun e => by rw [e] at h; simp at h
      rw [← List.dropLast_concat_getLast hne]
      exact h1 _ _ (ih _ (by simp [h]))
  exact this _ es rfl
theorem sumOf_ok (es : List Ex) : ((sumOf es).map (·.1)).Nodup ∧ (sumOf es).length ≤ es.length ∧ ∀ e, sget (sumOf es) e = if e ∈ es then 1 else 0 := by
  refine snoc_ind (P := fun es => ((sumOf es).map (·.1)).Nodup ∧ (sumOf es).length ≤ es.length ∧ ∀ e, sget (sumOf es) e = if e ∈ es then 1 else 0) ?_ ?_ es
  · exact ⟨by simp [sumOf], by simp [sumOf], fun e => by simp [sumOf, sget]⟩
  · intro es e ⟨h1, h2, h3⟩
    rw [sumOf_snoc]
    have := sput_length (sumOf es) e 1
    refine ⟨sput_nodup h1 e 1, by rw [List.length_append]; simp; omega, fun e' => ?_⟩
    rw [sget_sput, h3]
    by_cases h : e' = e <;> simp [h]
theorem putAll_ok {p : Int} (hp : 2 ≤ p) (es : List Ex) (hn : es.Nodup) : Can p (putAll p es) ∧ (putAll p es).length ≤ es.length ∧ ∀ e, coef (putAll p es) e = if e ∈ es then 1 else 0 := by
  revert hn
  refine snoc_ind (P := fun es => es.Nodup → Can p (putAll p es) ∧ (putAll p es).length ≤ es.length ∧ ∀ e, coef (putAll p es) e = if e ∈ es then 1 else 0) ?_ ?_ es
  · intro _; exact ⟨can_nil p, by simp [putAll], fun e => by simp [putAll, coef]⟩
  · intro es e ih hn
    rw [List.nodup_append] at hn
    obtain ⟨h1, h2, h3⟩ := ih hn.1
    have he : e ∉ es := fun h => hn.2.2 e h e (by simp) rfl
    rw [putAll_snoc]
    obtain ⟨q1, q2⟩ := putT_can (show 0 < p by omega) h1 e 1
    have := putT_length p (putAll p es) e 1
    refine ⟨q1, by rw [List.length_append]; simp; omega, fun e' => ?_⟩
    rw [q2, h3 e, h3 e']
    by_cases h : e' = e
    · simp only [h, he, if_true, if_false, Int.add_zero, List.mem_append, List.mem_singleton, or_true]
      exact Int.emod_eq_of_lt (by omega) (by omega)
    · simp [h]
theorem putAll_eq {p : Int} (hp : 2 ≤ p) (es : List Ex) (hn : es.Nodup) : ofSum p (sumOf es) = putAll p es := by
  obtain ⟨h1, h2, h3⟩ := putAll_ok hp es hn
  obtain ⟨g1, g2, g3⟩ := sumOf_ok es
  obtain ⟨k1, k2⟩ := ofSum_can (p := p) (by omega) g1
  refine can_ext k1 h1 fun e => ?_
  rw [k2, h3, g3]
  split
  · exact Int.emod_eq_of_lt (by omega) (by omega)
  · simp

theorem downTo_mem {f : Nat → List Ex} {e : Ex} : ∀ {k : Nat}, e ∈ downTo f k → ∃ i < k, e ∈ f i
  | 0, h => by simp [downTo] at h
  | k + 1, h => by
    rw [downTo, List.mem_append] at h
    rcases h with h | h
    · exact ⟨k, by omega, h⟩
    · obtain ⟨i, hi, he⟩ := downTo_mem h
      exact ⟨i, by omega, he⟩
theorem downTo_nodup {f : Nat → List Ex} : ∀ {k : Nat}, (∀ i < k, (f i).Nodup) → (∀ i j, i < k → j < k → i ≠ j → ∀ e ∈ f i, e ∉ f j) → (downTo f k).Nodup
  | 0, _, _ => by simp [downTo]
  | k + 1, h1, h2 => by
    rw [downTo, List.nodup_append]
    refine ⟨h1 k (by omega), downTo_nodup (fun i hi => h1 i (by omega)) (fun i j hi hj => h2 i j (by omega) (by omega)), fun a ha b hb => ?_⟩
    rintro rfl
    obtain ⟨i, hi, hb⟩ := downTo_mem hb
    exact h2 k i (by omega) (by omega) (by omega) a ha hb
theorem monRow_mem {d : Int} {n a b : Nat} {e : Ex} (h : e ∈ monRow d n a b) : e = mkE a b (n - a - b) := by
  unfold monRow at h
  split at h
  · simpa using h
  · cases h
theorem mkE_inj {a b c a' b' c' : Nat} (ha : a < 256) (hb : b < 256) (ha' : a' < 256) (hb' : b' < 256) (h : mkE a b c = mkE a' b' c') : a = a' ∧ b = b' := by
  unfold mkE at h
  simp only [Ex.mk.injEq] at h
  refine ⟨?_, ?_⟩
  · rw [← by8_nat ha, ← by8_nat ha', h.1]
  · rw [← by8_nat hb, ← by8_nat hb', h.2.1]
theorem mons_nodup (d : Int) (n : Nat) (hn : n ≤ 12) : (mons d n).Nodup := by
  unfold mons
  refine downTo_nodup (fun a ha => downTo_nodup (fun b hb => ?_) fun b b' hb hb' hne e he he' => ?_) fun a a' ha ha' hne e he he' => ?_
  · unfold monRow; split <;> simp
  · have h1 := monRow_mem he
    have h2 := monRow_mem he'
    rw [h1] at h2
    exact hne (mkE_inj (by omega) (by omega) (by omega) (by omega) h2).2
  · obtain ⟨b, hb, he⟩ := downTo_mem he
    obtain ⟨b', hb', he'⟩ := downTo_mem he'
    have h1 := monRow_mem he
    have h2 := monRow_mem he'
    rw [h1] at h2
    exact hne (mkE_inj (by omega) (by omega) (by omega) (by omega) h2).1

theorem l08Shape_ok (p d : Int) : CallOK Go.Proofs.Try.prog 75 [.one (i64 p), .one (i64 d)] (.one (bo (decide (Pr p ∧ 1 ≤ d ∧ d ≤ 3)))) := by
  have hF := fnOk 11 [.tmp 4]
  refine callOK hF 60 Go.Proofs.Try.func75 rfl rfl rfl (by decide) (by simp) rfl ?_
  intro w0 hw
  have S := @vc_sound w0 _ hF ⟨(.one (bo (decide (Pr p ∧ 1 ≤ d ∧ d ≤ 3)))), []⟩ Go.Proofs.Try.f75 rfl (by simp)
  have c1 := l01Prime_ok p
  have c2 := l01In_ok d 1 3
  by_cases hp : Pr p
  · rw [decide_eq_true hp] at c1
    have e : decide (Pr p ∧ 1 ≤ d ∧ d ≤ 3) = decide (1 ≤ d ∧ d ≤ 3) := by simp [hp]
    rw [e] at S ⊢
    generalize decide (1 ≤ d ∧ d ≤ 3) = b at S c2 ⊢
    simp
    refine CallW.ok (by decide) (by simp) c1 (by simp) (S 60 _ _ ?_)
    simp
    refine CallW.ok (by decide) (by simp) c2 (by simp) (S 60 _ _ ?_)
    simp
  · rw [decide_eq_false hp] at c1
    have e : decide (Pr p ∧ 1 ≤ d ∧ d ≤ 3) = false := by simp [hp]
    rw [e] at S ⊢
    simp
    refine CallW.ok (by decide) (by simp) c1 (by simp) (S 60 _ _ ?_)
    simp

def completeR (p d k : Int) : RV := if Pr p ∧ (1 ≤ d ∧ d ≤ 3) ∧ 0 ≤ k ∧ k ≤ 12 then pres p d (ofSum p (sumOf (mons d k.toNat))) 0 else pres 0 0 [] 2

set_option maxRecDepth 4000 in
theorem CompletePoly_ok (p d k : Int) : CallOK Go.Proofs.Try.prog 28 [.one (i64 p), .one (i64 d), .one (i64 k)] (completeR p d k) := by
  have hF := fnOk 41 [.cell 6 39, .tmp 7]
  refine callOK hF 60 Go.Proofs.Try.func28 rfl rfl rfl (by decide) (by simp) rfl ?_
  intro w0 hw
  have S := @vc_sound w0 _ hF ⟨(completeR p d k), []⟩ Go.Proofs.Try.f28 rfl (by simp)
  have c1 := isPrime_ok p
  have c2 := isVars_ok d
  have c3 := isDegree_ok k
  by_cases hp : Pr p
  · by_cases hd : 1 ≤ d ∧ d ≤ 3
    · by_cases hk : 0 ≤ k ∧ k ≤ 12
      · have e : completeR p d k = pres p d (ofSum p (sumOf (mons d k.toNat))) 0 := by unfold completeR; rw [if_pos ⟨hp, hd, hk⟩]
        rw [e] at S ⊢
        rw [decide_eq_true hp] at c1
        rw [decide_eq_true hd] at c2
        rw [decide_eq_true hk] at c3
        obtain ⟨n, rfl⟩ : ∃ n : Nat, k = n := ⟨k.toNat, by omega⟩
        have hpp := hp.pos
        have c4 := monomials_ok d n hd (by omega)
        have hml := mons_len d n (by omega)
        simp only [Int.toNat_natCast] at S ⊢
        generalize hes : mons d n = es at *
        simp
        refine CallW.ok (by decide) (by simp) c1 (by simp) (S 60 _ _ ?_)
        simp
        refine CallW.ok (by decide) (by simp) c2 (by simp) (S 60 _ _ ?_)
        simp
        refine CallW.ok (by decide) (by simp) c3 (by simp) (S 60 _ _ ?_)
        simp
        refine CallW.ok (by decide) (by simp) c4 (by simp) (S 60 _ _ ?_)
        simp
        refine J.loop hw (fun i : Nat => ⟨[(0, .c (.d (i64 p))), (1, .c (.d (i64 d))), (6, .c (.ref 64006 0)), (8, .c (.ob 64008)), (28, .c (.ob 64028)), (29, .c (.d (i64 es.length))), (30, .c (.d (i64 i)))],
            [(64006, .var [.d (i64 0), .d (i64 0), .ob 64007]), (64007, .arr 108 4 []), (64008, .mp (sumM (sumOf (es.take i)))), (64028, .arr 88 3 (exs es))]⟩)
          (fun i => i ≤ es.length) (fun i => es.length - i) 0 (by simp) (by simp [sumOf]) ?_
        intro i hi
        refine S 60 _ _ ?_
        simp
        refine ⟨fun hlt => ?_, fun hge => ?_⟩
        · refine ⟨hlt, fun a ha => ?_⟩
          have htk : sumOf (es.take (i + 1)) = sput (sumOf (es.take i)) a 1 := by rw [List.take_add_one, ha]; exact sumOf_snoc _ _
          exact Nxt.mk (i + 1) (by omega) (by simp [wrapS (i := i) (n := es.length) hlt (by omega), mpPut_sum, htk]) (by omega)
        · have hi' : es.take i = es := List.take_of_length_le hge
          rw [hi']
          obtain ⟨g1, g2, _⟩ := sumOf_ok es
          refine CallW.ok (by decide) (by simp) (poly_ok p d (sumOf es) (by omega) g1 (by omega) (by omega)) (by simp) (S 60 _ _ ?_)
          simp
      · have e : completeR p d k = pres 0 0 [] 2 := by unfold completeR; rw [if_neg (fun h => hk h.2.2)]
        rw [e] at S ⊢
        rw [decide_eq_true hp] at c1
        rw [decide_eq_true hd] at c2
        rw [decide_eq_false hk] at c3
        simp
        refine CallW.ok (by decide) (by simp) c1 (by simp) (S 60 _ _ ?_)
        simp
        refine CallW.ok (by decide) (by simp) c2 (by simp) (S 60 _ _ ?_)
        simp
        refine CallW.ok (by decide) (by simp) c3 (by simp) (S 60 _ _ ?_)
        simp
    · have e : completeR p d k = pres 0 0 [] 2 := by unfold completeR; rw [if_neg (fun h => hd h.2.1)]
      rw [e] at S ⊢
      rw [decide_eq_true hp] at c1
      rw [decide_eq_false hd] at c2
      simp
      refine CallW.ok (by decide) (by simp) c1 (by simp) (S 60 _ _ ?_)
      simp
      refine CallW.ok (by decide) (by simp) c2 (by simp) (S 60 _ _ ?_)
      simp
  · have e : completeR p d k = pres 0 0 [] 2 := by unfold completeR; rw [if_neg (fun h => hp h.1)]
    rw [e] at S ⊢
    rw [decide_eq_false hp] at c1
    simp
    refine CallW.ok (by decide) (by simp) c1 (by simp) (S 60 _ _ ?_)
    simp

set_option maxRecDepth 4000 in
theorem specCompletePoly_ok (p d k : Int) : CallOK Go.Proofs.Try.prog 27 [.one (i64 p), .one (i64 d), .one (i64 k)] (completeR p d k) := by
  have hF := fnOk 40 [.cell 6 39, .tmp 7]
  refine callOK hF 60 Go.Proofs.Try.func27 rfl rfl rfl (by decide) (by simp) rfl ?_
  intro w0 hw
  have S := @vc_sound w0 _ hF ⟨(completeR p d k), []⟩ Go.Proofs.Try.f27 rfl (by simp)
  have c1 := l08Shape_ok p d
  have c2 := l01In_ok k 0 12
  by_cases hp : Pr p ∧ 1 ≤ d ∧ d ≤ 3
  · by_cases hk : 0 ≤ k ∧ k ≤ 12
    · obtain ⟨n, rfl⟩ : ∃ n : Nat, k = n := ⟨k.toNat, by omega⟩
      have hpp := hp.1.pos
      have hml := mons_len d n (by omega)
      have hnd := mons_nodup d n (by omega)
      have c4 := l01Monomials_ok d n hp.2 (by omega)
      have c5 := l01Empty_ok p d
      have e : completeR p d n = pres p d (putAll p (mons d n)) 0 := by
        unfold completeR; rw [if_pos ⟨hp.1, hp.2, hk⟩, Int.toNat_natCast, putAll_eq hpp.1 _ hnd]
      rw [e] at S ⊢
      rw [decide_eq_true hp] at c1
      rw [decide_eq_true hk] at c2
      generalize hes : mons d n = es at *
      simp
      refine CallW.ok (by decide) (by simp) c1 (by simp) (S 60 _ _ ?_)
      simp
      refine CallW.ok (by decide) (by simp) c2 (by simp) (S 60 _ _ ?_)
      simp
      refine CallW.ok (by decide) (by simp) c4 (by simp) (S 60 _ _ ?_)
      simp
      refine CallW.ok (by decide) (by simp) c5 (by simp) (S 60 _ _ ?_)
      simp
      refine J.loop hw (fun i : Nat => ⟨[(6, .c (.ref 64006 0)), (8, .c (.ob 64028)), (9, .c (.ref 64009 0)), (10, .c (.d (i64 i)))],
          [(64006, .var [.d (i64 0), .d (i64 0), .ob 64007]), (64007, .arr 108 4 []), (64009, .var [.d (i64 p), .d (i64 d), .ob 64010]), (64010, .arr 108 4 (terms (putAll p (es.take i)))), (64028, .arr 88 3 (exs es))]⟩)
        (fun i => i ≤ es.length) (fun i => es.length - i) 0 (by simp) (by simp [putAll]) ?_
      intro i hi
      have hndt : (es.take i).Nodup := hnd.sublist (List.take_sublist _ _)
      obtain ⟨q1, q2, q3⟩ := putAll_ok hpp.1 (es.take i) hndt
      have hlen : (putAll p (es.take i)).length ≤ 169 := by rw [List.length_take] at q2; omega
      refine S 60 _ _ ?_
      simp
      refine ⟨fun hlt => ?_, fun hge => ?_⟩
      · have hb := fun e => coef_bound (show 0 < p by omega) q1 e
        refine J.dr hF mixed 5 [[], [], [], [1, 2], [1, 2, 3], [0, 1, 2, 3, 4], [0, 1, 2, 3, 4, 5]] [[33, 34, 35, 36, 37], [33, 34, 35, 36, 37], [33, 34, 35, 36, 37], [33, 36, 37], [33, 37]] (by decide) ?_
        simp
        refine ⟨hlt, fun a ha => ?_⟩
        have htk : putAll p (es.take (i+1)) = putT p (putAll p (es.take i)) a 1 := by
          rw [List.take_add_one, ha]; exact putAll_snoc _ _ _
        have hb' := hb a
        have c6 := l01Put_ok p d (putAll p (es.take i)) a 1 (by omega) (by omega) (by omega) (by omega) (by omega)
        refine S 60 _ _ ?_
        simp
        refine CallW.ok (by decide) (by simp) c6 (by simp) (S 60 _ _ ?_)
        simp
        exact Nxt.mk (i+1) (by omega) (by simp [wrapS (i:=i) (n:=es.length) hlt (by omega), htk]) (by omega)
      · have hi' : es.take i = es := List.take_of_length_le hge
        rw [hi']
    · have e : completeR p d k = pres 0 0 [] 2 := by unfold completeR; rw [if_neg (fun h => hk h.2.2)]
      rw [e] at S ⊢
      rw [decide_eq_true hp] at c1
      rw [decide_eq_false hk] at c2
      simp
      refine CallW.ok (by decide) (by simp) c1 (by simp) (S 60 _ _ ?_)
      simp
      refine CallW.ok (by decide) (by simp) c2 (by simp) (S 60 _ _ ?_)
      simp
  · have e : completeR p d k = pres 0 0 [] 2 := by unfold completeR; rw [if_neg (fun h => hp ⟨h.1, h.2.1⟩)]
    rw [e] at S ⊢
    rw [decide_eq_false hp] at c1
    simp
    refine CallW.ok (by decide) (by simp) c1 (by simp) (S 60 _ _ ?_)
    simp

/-- (Poly, error) of bounded length. -/
def PresS (R : RV) : Prop := ∃ p d ts e, R = pres p d ts e ∧ ts.length ≤ 2000000

theorem completeR_small (p d k : Int) : PresS (completeR p d k) := by
  unfold completeR
  split
  · rename_i h
    refine ⟨_, _, _, _, rfl, ?_⟩
    have hk : k.toNat ≤ 12 := by omega
    have h1 := (putAll_ok h.1.pos.1 (mons d k.toNat) (mons_nodup d _ hk)).2.1
    rw [putAll_eq h.1.pos.1 _ (mons_nodup d _ hk)]
    have := mons_len d _ hk
    omega
  · exact ⟨_, _, _, _, rfl, by simp⟩

end Go.Sm

namespace Go.Sm
open Go.RowKit

theorem snocInd {α : Type} {motive : List α → Prop} (nil : motive []) (snoc : ∀ xs x, motive xs → motive (xs ++ [x])) (xs : List α) : motive xs := by
  have h : ∀ n, ∀ xs : List α, xs.length = n → motive xs := by
    intro n
    induction n with
    | zero => intro xs h; rw [List.length_eq_zero_iff.1 h]; exact nil
    | succ n ih =>
      intro xs h
      have hne : xs ≠ [] := fun e => by rw [e] at h; simp at h
      rw [← List.dropLast_concat_getLast hne]
      exact snoc _ _ (ih _ (by simp [h]))
  exact h _ xs rfl

/-! ### products -/
def addE (x y : Ex) : Ex := ⟨by8 ((x.a.toNat : Int) + y.a.toNat), by8 ((x.b.toNat : Int) + y.b.toNat), by8 ((x.c.toNat : Int) + y.c.toNat)⟩
def mulRow (p : Int) (a : Tm) (out us : List Tm) : List Tm := us.foldl (fun o b => putT p o (addE a.e b.e) (a.v * b.v)) out
def mulT (p : Int) (ts us : List Tm) : List Tm := ts.foldl (fun o a => mulRow p a o us) []
def mulRowS (p : Int) (a : Tm) (l : List (Ex × Int)) (us : List Tm) : List (Ex × Int) := us.foldl (fun l b => sput l (addE a.e b.e) ((sget l (addE a.e b.e) + a.v * b.v).tmod p)) l
def mulS (p : Int) (ts us : List Tm) : List (Ex × Int) := ts.foldl (fun l a => mulRowS p a l us) []
theorem mulRow_snoc (p : Int) (a : Tm) (out us : List Tm) (b : Tm) : mulRow p a out (us ++ [b]) = putT p (mulRow p a out us) (addE a.e b.e) (a.v * b.v) := by simp [mulRow]
theorem mulT_snoc (p : Int) (ts us : List Tm) (a : Tm) : mulT p (ts ++ [a]) us = mulRow p a (mulT p ts us) us := by simp [mulT]
theorem mulRowS_snoc (p : Int) (a : Tm) (l : List (Ex × Int)) (us : List Tm) (b : Tm) : mulRowS p a l (us ++ [b]) = sput (mulRowS p a l us) (addE a.e b.e) ((sget (mulRowS p a l us) (addE a.e b.e) + a.v * b.v).tmod p) := by simp [mulRowS]
theorem mulS_snoc (p : Int) (ts us : List Tm) (a : Tm) : mulS p (ts ++ [a]) us = mulRowS p a (mulS p ts us) us := by simp [mulS]

/-- The map and the terms tell the same. -/
def Tell (p : Int) (n : Nat) (l : List (Ex × Int)) (ts : List Tm) : Prop :=
  (l.map (·.1)).Nodup ∧ l.length ≤ n ∧ Can p ts ∧ ts.length ≤ n ∧ ∀ e, sget l e = coef ts e
theorem Tell.nil (p : Int) : Tell p 0 [] [] := ⟨by simp, by simp, can_nil p, by simp, fun e => by simp [sget, coef]⟩
theorem Tell.step {p : Int} {n : Nat} {l : List (Ex × Int)} {ts : List Tm} (hp : 0 < p) (h : Tell p n l ts) (e : Ex) {v : Int} (hv : 0 ≤ v) :
    Tell p (n + 1) (sput l e ((sget l e + v).tmod p)) (putT p ts e v) := by
  obtain ⟨h1, h2, h3, h4, h5⟩ := h
  obtain ⟨k1, k2⟩ := putT_can hp h3 e v
  have hb := coef_bound hp h3 e
  have hl := sput_length l e ((sget l e + v).tmod p)
  have hl2 := putT_length p ts e v
  refine ⟨sput_nodup h1 _ _, by omega, k1, by omega, fun e' => ?_⟩
  rw [sget_sput, k2]
  split
  · rw [h5, Int.tmod_eq_emod_of_nonneg (by omega), Int.add_comm]
  · exact h5 e'
theorem Tell.row {p : Int} {l : List (Ex × Int)} {ts : List Tm} {n : Nat} (hp : 0 < p) (a : Tm) (ha : 0 ≤ a.v) (h : Tell p n l ts) : ∀ us : List Tm, (∀ u ∈ us, 0 ≤ u.v) → Tell p (n + us.length) (mulRowS p a l us) (mulRow p a ts us) := by
  intro us
  induction us using snocInd with
  | nil => intro _; exact h
  | snoc us u ih =>
    intro hu
    rw [mulRow_snoc, mulRowS_snoc, List.length_append]
    exact Tell.step hp (ih fun x hx => hu x (by simp [hx])) _ (Int.mul_nonneg ha (hu u (by simp)))
theorem Tell.mul {p : Int} (hp : 0 < p) (us : List Tm) (hu : ∀ u ∈ us, 0 ≤ u.v) : ∀ ts : List Tm, (∀ t ∈ ts, 0 ≤ t.v) → Tell p (ts.length * us.length) (mulS p ts us) (mulT p ts us) := by
  intro ts
  induction ts using snocInd with
  | nil => intro _; simpa [mulS, mulT] using Tell.nil p
  | snoc ts t ih =>
    intro ht
    rw [mulT_snoc, mulS_snoc, List.length_append, List.length_singleton, Nat.succ_mul]
    exact Tell.row hp t (ht t (by simp)) (ih fun x hx => ht x (by simp [hx])) us hu
theorem Tell.eq {p : Int} {n : Nat} {l : List (Ex × Int)} {ts : List Tm} (hp : 0 < p) (h : Tell p n l ts) : ofSum p l = ts := by
  obtain ⟨h1, _, h3, _, h5⟩ := h
  obtain ⟨k1, k2⟩ := ofSum_can hp h1
  refine can_ext k1 h3 fun e => ?_
  have := coef_bound hp h3 e
  rw [k2, h5, Int.emod_eq_of_lt (by omega) (by omega)]
theorem can_nonneg {p : Int} {ts : List Tm} (h : Can p ts) : ∀ t ∈ ts, 0 ≤ t.v := fun t ht => by have := h.2 t ht; omega
theorem mul_tell {p : Int} {ts us : List Tm} (hp : 0 < p) (ht : Can p ts) (hu : Can p us) : Tell p (ts.length * us.length) (mulS p ts us) (mulT p ts us) := Tell.mul hp us (can_nonneg hu) ts (can_nonneg ht)

/-! ### sums -/
def accS (l : List (Ex × Int)) (ts : List Tm) (k : Int) : List (Ex × Int) := ts.foldl (fun l t => sput l t.e (sget l t.e + k * t.v)) l
def plusT (p : Int) (ts us : List Tm) (k : Int) : List Tm := us.foldl (fun o t => putT p o t.e (k * t.v)) ts
theorem accS_snoc (l : List (Ex × Int)) (ts : List Tm) (k : Int) (t : Tm) : accS l (ts ++ [t]) k = sput (accS l ts k) t.e (sget (accS l ts k) t.e + k * t.v) := by simp [accS]
theorem plusT_snoc (p : Int) (ts us : List Tm) (k : Int) (t : Tm) : plusT p ts (us ++ [t]) k = putT p (plusT p ts us k) t.e (k * t.v) := by simp [plusT]
theorem coef_snoc {ts : List Tm} {t : Tm} (hn : ((ts ++ [t]).map (·.e)).Nodup) (e : Ex) : coef (ts ++ [t]) e = if e = t.e then t.v else coef ts e := by
  induction ts with
  | nil =>
    simp only [List.nil_append, coef]
    by_cases h : e = t.e
    · simp [h]
    · rw [if_neg (fun q => h q.symm), if_neg h]
  | cons x ts ih =>
    simp only [List.cons_append, List.map_cons, List.nodup_cons] at hn
    simp only [List.cons_append, coef]
    have hxt : x.e ≠ t.e := fun q => hn.1 (by simp [q])
    by_cases hx : x.e = e
    · rw [if_pos hx, if_neg (fun q => hxt (by rw [hx, q]))]; simp [hx]
    · rw [if_neg hx, ih hn.2]
      split
      · rfl
      · simp [hx]
theorem coef_last_none {ts : List Tm} {t : Tm} (hn : ((ts ++ [t]).map (·.e)).Nodup) : coef ts t.e = 0 := by
  rw [List.map_append, List.nodup_append] at hn
  exact coef_none fun u hu q => hn.2.2 u.e (List.mem_map_of_mem hu) t.e (by simp) q
theorem accS_ok {l : List (Ex × Int)} (hl : (l.map (·.1)).Nodup) (k : Int) : ∀ ts : List Tm, (ts.map (·.e)).Nodup →
    ((accS l ts k).map (·.1)).Nodup ∧ (accS l ts k).length ≤ l.length + ts.length ∧ ∀ e, sget (accS l ts k) e = sget l e + k * coef ts e := by
  intro ts
  induction ts using snocInd with
  | nil => intro _; exact ⟨hl, by simp [accS], fun e => by simp [accS, coef]⟩
  | snoc ts t ih =>
    intro hn
    have hn' : (ts.map (·.e)).Nodup := by rw [List.map_append, List.nodup_append] at hn; exact hn.1
    obtain ⟨h1, h2, h3⟩ := ih hn'
    rw [accS_snoc]
    have := sput_length (accS l ts k) t.e (sget (accS l ts k) t.e + k * t.v)
    refine ⟨sput_nodup h1 _ _, by simp; omega, fun e => ?_⟩
    rw [sget_sput, h3, h3, coef_snoc hn, coef_last_none hn]
    split
    · rename_i he; rw [he]; simp
    · rfl
theorem plusT_ok {p : Int} (hp : 0 < p) {ts : List Tm} (ht : Can p ts) (k : Int) : ∀ us : List Tm, (us.map (·.e)).Nodup →
    Can p (plusT p ts us k) ∧ (plusT p ts us k).length ≤ ts.length + us.length ∧ ∀ e, coef (plusT p ts us k) e = (coef ts e + k * coef us e) % p := by
  intro us
  induction us using snocInd with
  | nil =>
    intro _
    refine ⟨ht, by simp [plusT], fun e => ?_⟩
    have := coef_bound hp ht e
    simp only [plusT, List.foldl_nil, coef, Int.mul_zero, Int.add_zero]
    exact (Int.emod_eq_of_lt (by omega) (by omega)).symm
  | snoc us u ih =>
    intro hn
    have hn' : (us.map (·.e)).Nodup := by rw [List.map_append, List.nodup_append] at hn; exact hn.1
    obtain ⟨h1, h2, h3⟩ := ih hn'
    rw [plusT_snoc]
    obtain ⟨k1, k2⟩ := putT_can hp h1 u.e (k * u.v)
    have := putT_length p (plusT p ts us k) u.e (k * u.v)
    refine ⟨k1, by simp; omega, fun e => ?_⟩
    rw [k2, h3, h3, coef_snoc hn, coef_last_none hn]
    split
    · rename_i he; rw [he]; simp [Int.add_comm]
    · rfl
theorem plus_eq {p : Int} (hp : 0 < p) {ts us : List Tm} (ht : Can p ts) (hu : (us.map (·.e)).Nodup) (k : Int) : ofSum p (accS (accS [] ts 1) us k) = plusT p ts us k := by
  obtain ⟨a1, _, a3⟩ := accS_ok (l := []) (by simp) 1 ts (asc_nodup ht.1)
  obtain ⟨b1, _, b3⟩ := accS_ok a1 k us hu
  obtain ⟨c1, _, c3⟩ := plusT_ok hp ht k us hu
  obtain ⟨k1, k2⟩ := ofSum_can hp b1
  refine can_ext k1 c1 fun e => ?_
  rw [k2, c3, b3, a3]
  simp [sget]

/-! ### entries of a map, added to -/
theorem mpAdd_sum (l : List (Ex × Int)) (e : Ex) (v : Int) :
    mpSetAt (mpTouch (l.map fun p => sumE p) (exK e) (.int .i64 0)) (mpAt (l.map fun p => sumE p) (exK e)) (.int .i64 v) = (sput l e v).map fun p => sumE p := by
  induction l with
  | nil => simp [mpTouch, mpAt, mpIdx, mpSetAt, sput]
  | cons x l ih =>
    unfold mpTouch mpAt at ih ⊢
    simp only [List.map_cons, mpIdx, sput]
    rw [show (exK e == (sumE x).1) = decide (e = x.1) from exK_beq e x.1]
    by_cases h : x.1 = e
    · simp [h, mpSetAt]
    · have h' : ¬ e = x.1 := fun q => h q.symm
      rw [decide_eq_false h', if_neg h]
      simp only [Bool.false_eq_true, if_false, mpIdx_succ]
      cases hq : mpIdx (l.map fun p => sumE p) (exK e) 0 with
      | none =>
        rw [hq] at ih
        simp only [Option.map_none, Option.getD_none, List.length_cons, mpSetAt, List.cons_append, List.modify_succ_cons, List.map_cons] at ih ⊢
        rw [← ih]
      | some q =>
        rw [hq] at ih
        simp only [Option.map_some, Option.getD_some, mpSetAt, List.modify_succ_cons, List.map_cons] at ih ⊢
        rw [← ih]

end Go.Sm

namespace Go.Sm
open Go.RowKit

def unE (i : Nat) : Ex := match i with
  | 0 => ⟨1, 0, 0⟩
  | 1 => ⟨0, 1, 0⟩
  | _ => ⟨0, 0, 1⟩

theorem zeroPoly_ok (p d : Int) : CallOK Go.Proofs.Try.prog 138 [.one (i64 p), .one (i64 d)] (po p d []) := by
  have hF := fnOk 8 [.cell 4 39]
  refine callOK hF 60 Go.Proofs.Try.func138 rfl rfl rfl (by decide) (by simp) rfl ?_
  intro w0 hw
  have S := @vc_sound w0 _ hF ⟨(po p d []), []⟩ Go.Proofs.Try.f138 rfl (by simp)
  simp

theorem monomial_ok (p d : Int) (e : Ex) (n : Int) (hp : 0 < p) (hp2 : p ≤ 13) : CallOK Go.Proofs.Try.prog 154 [.one (i64 p), .one (i64 d), .agg e.ds, .one (i64 n)] (po p d (ofSum p [(e, n)])) := by
  have hF := fnOk 16 [.cell 8 39]
  refine callOK hF 60 Go.Proofs.Try.func154 rfl rfl rfl (by decide) (by simp) rfl ?_
  intro w0 hw
  have S := @vc_sound w0 _ hF ⟨(po p d (ofSum p [(e, n)])), []⟩ Go.Proofs.Try.f154 rfl (by simp)
  have c1 := poly_ok p d [(e, n)] (by simp) (by simp) hp (by omega)
  simp
  refine CallW.ok (by decide) (by simp [mpPut, mpIdx]) c1 (by simp) (S 60 _ _ ?_)
  simp

theorem constant_ok (p d : Int) (n : Int) (hp : 0 < p) (hp2 : p ≤ 13) : CallOK Go.Proofs.Try.prog 129 [.one (i64 p), .one (i64 d), .one (i64 n)] (po p d (ofSum p [(⟨0, 0, 0⟩, n)])) := by
  have hF := fnOk 12 [.cell 6 39]
  refine callOK hF 60 Go.Proofs.Try.func129 rfl rfl rfl (by decide) (by simp) rfl ?_
  intro w0 hw
  have S := @vc_sound w0 _ hF ⟨(po p d (ofSum p [(⟨0, 0, 0⟩, n)])), []⟩ Go.Proofs.Try.f129 rfl (by simp)
  have c1 := monomial_ok p d ⟨0, 0, 0⟩ n hp hp2
  simp
  refine CallW.ok (by decide) (by simp) c1 (by simp) (S 60 _ _ ?_)
  simp

theorem letter_ok (p d : Int) (i : Nat) (hi : i ≤ 2) (hp : 0 < p) (hp2 : p ≤ 13) : CallOK Go.Proofs.Try.prog 132 [.one (i64 p), .one (i64 d), .one (i64 i)] (po p d (ofSum p [(unE i, 1)])) := by
  have hF := fnOk 15 [.cell 6 39]
  refine callOK hF 60 Go.Proofs.Try.func132 rfl rfl rfl (by decide) (by simp) rfl ?_
  intro w0 hw
  have S := @vc_sound w0 _ hF ⟨(po p d (ofSum p [(unE i, 1)])), []⟩ Go.Proofs.Try.f132 rfl (by simp)
  have c1 := monomial_ok p d (unE i) 1 hp hp2
  have hi' : i = 0 ∨ i = 1 ∨ i = 2 := by omega
  rcases hi' with rfl | rfl | rfl
  all_goals
    simp
    refine CallW.ok (by decide) (by simp; decide) c1 (by simp) (S 60 _ _ ?_)
    simp

theorem l08Letter_ok (i : Nat) (hi : i ≤ 2) : CallOK Go.Proofs.Try.prog 127 [.one (i64 i)] (.agg (unE i).ds) := by
  have hF := fnOk 8 [.cell 2 88]
  refine callOK hF 60 Go.Proofs.Try.func127 rfl rfl rfl (by decide) (by simp) rfl ?_
  intro w0 hw
  have S := @vc_sound w0 _ hF ⟨(.agg (unE i).ds), []⟩ Go.Proofs.Try.f127 rfl (by simp)
  have hi' : i = 0 ∨ i = 1 ∨ i = 2 := by omega
  rcases hi' with rfl | rfl | rfl
  all_goals
    simp [unE]

theorem l01One_ok (p d : Int) (e : Ex) (n : Int) (hp : 0 < p) (hp2 : p ≤ 13) (hn : -1000000 ≤ n) (hn2 : n ≤ 1000000) : CallOK Go.Proofs.Try.prog 126 [.one (i64 p), .one (i64 d), .agg e.ds, .one (i64 n)] (po p d (putT p [] e n)) := by
  have hF := fnOk 15 [.cell 8 39]
  refine callOK hF 60 Go.Proofs.Try.func126 rfl rfl rfl (by decide) (by simp) rfl ?_
  intro w0 hw
  have S := @vc_sound w0 _ hF ⟨(po p d (putT p [] e n)), []⟩ Go.Proofs.Try.f126 rfl (by simp)
  have c1 := l01Empty_ok p d
  have c2 := l01Put_ok p d [] e n (by simp) hp (by omega) (by simp [coef]; omega) (by simp [coef]; omega)
  simp
  refine J.dr hF mixed 5 [[], [], [0, 1], [], [], [0, 1, 2, 3, 4], [0, 1, 2, 3, 4, 5]] [[9, 10, 11, 12, 13], [9, 10, 11, 12, 13], [11, 12, 13], [9, 10, 11, 12, 13], [9, 10, 11, 12, 13]] (by decide) ?_
  simp
  refine DrC.ok hF (by rfl) (by simp) c1 (by simp) (by simp) ?_
  simp
  refine S 60 _ _ ?_
  simp
  refine CallW.ok (by decide) (by simp) c2 (by simp) (S 60 _ _ ?_)
  simp

set_option maxHeartbeats 1000000 in
theorem mul_ok (p d p2 d2 : Int) (ts us : List Tm) (hp : 0 < p) (hp2 : p ≤ 13) (ht : Can p ts) (hu : Can p us) (hlt : ts.length ≤ 1000) (hlu : us.length ≤ 1000) : CallOK Go.Proofs.Try.prog 130 [pv p d ts, pv p2 d2 us] (po p d (mulT p ts us)) := by
  have hF := fnOk 70 [.cell 4 39]
  refine callOK hF 60 Go.Proofs.Try.func130 rfl rfl rfl (by decide) (by simp) rfl ?_
  intro w0 hw
  have S := @vc_sound w0 _ hF ⟨(po p d (mulT p ts us)), []⟩ Go.Proofs.Try.f130 rfl (by simp)
  obtain ⟨m1, m2, _⟩ := mul_tell hp ht hu
  have heq := (mul_tell hp ht hu).eq hp
  have hmm : ts.length * us.length ≤ 1000 * 1000 := Nat.mul_le_mul hlt hlu
  have hpl := poly_ok p d (mulS p ts us) (by omega) m1 hp (by omega)
  rw [heq] at hpl
  simp
  refine J.loop hw (fun i : Nat => ⟨[(2, .c (.ref 64002 0)), (3, .c (.ref 64003 0)), (4, .c (.ref 64004 0)), (5, .c (.ob 64006)), (13, .c (.d (vTerms ts))), (14, .c (.d (i64 ts.length))), (15, .c (.d (i64 i)))],
      [(64002, .var [.d (i64 p), .d (i64 d), .d (vTerms ts)]), (64003, .var [.d (i64 p2), .d (i64 d2), .d (vTerms us)]), (64004, .var [.d (i64 0), .d (i64 0), .ob 64005]), (64005, .arr 108 4 []), (64006, .mp (sumM (mulS p (ts.take i) us)))]⟩)
    (fun i => i ≤ ts.length) (fun i => ts.length - i) 0 (by simp) (by simp [mulS]) ?_
  intro i hi
  refine S 8 _ _ ?_
  simp
  refine ⟨fun hlt1 => ?_, fun hge => ?_⟩
  · refine S 60 _ _ ?_
    simp
    refine ⟨hlt1, fun a ha => ?_⟩
    have ha0 := ht.2 a (List.mem_of_getElem? ha)
    have htell : Tell p ((ts.take i).length * us.length) (mulS p (ts.take i) us) (mulT p (ts.take i) us) :=
      Tell.mul hp us (can_nonneg hu) (ts.take i) fun t h => can_nonneg ht t (List.mem_of_mem_take h)
    have hnext : mulS p (ts.take (i + 1)) us = mulRowS p a (mulS p (ts.take i) us) us := by rw [List.take_add_one, ha]; exact mulS_snoc _ _ _ _
    generalize mulS p (ts.take i) us = l at htell hnext ⊢
    generalize mulT p (ts.take i) us = r at htell
    refine J.loop hw (fun k : Nat => ⟨[(2, .c (.ref 64002 0)), (3, .c (.ref 64003 0)), (4, .c (.ref 64004 0)), (5, .c (.ob 64006)), (13, .c (.d (vTerms ts))), (14, .c (.d (i64 ts.length))), (15, .c (.d (i64 i))),
          (7, .c (.ref 64008 0)), (20, .c (.d (vTerms us))), (21, .c (.d (i64 us.length))), (22, .c (.d (i64 k)))],
        [(64002, .var [.d (i64 p), .d (i64 d), .d (vTerms ts)]), (64003, .var [.d (i64 p2), .d (i64 d2), .d (vTerms us)]), (64004, .var [.d (i64 0), .d (i64 0), .ob 64005]), (64005, .arr 108 4 []), (64006, .mp (sumM (mulRowS p a l (us.take k)))),
          (64008, .var [.d (u8 a.e.a), .d (u8 a.e.b), .d (u8 a.e.c), .d (i64 a.v)])]⟩)
      (fun k => k ≤ us.length) (fun k => us.length - k) 0 (by simp) (by simp [mulRowS]) ?_
    intro k hk
    refine S 8 _ _ ?_
    simp
    refine ⟨fun hlt2 => ?_, fun hge2 => ?_⟩
    · refine S 6 _ _ ?_
      simp
      refine ⟨hlt2, fun b hb => ?_⟩
      have hb0 := hu.2 b (List.mem_of_getElem? hb)
      have htl := Tell.row hp a (by omega) htell (us.take k) fun t h => can_nonneg hu t (List.mem_of_mem_take h)
      have hnx : mulRowS p a l (us.take (k + 1)) = sput (mulRowS p a l (us.take k)) (addE a.e b.e) ((sget (mulRowS p a l (us.take k)) (addE a.e b.e) + a.v * b.v).tmod p) := by
        rw [List.take_add_one, hb]; exact mulRowS_snoc _ _ _ _ _
      generalize mulRowS p a l (us.take k) = m at htl hnx ⊢
      generalize mulRow p a r (us.take k) = mt at htl
      have hcb := coef_bound hp htl.2.2.1 (addE a.e b.e)
      rw [← htl.2.2.2.2] at hcb
      have hm : 0 ≤ a.v * b.v := Int.mul_nonneg (by omega) (by omega)
      have hm2 : a.v * b.v ≤ 13 * 13 := Int.mul_le_mul (by omega) (by omega) (by omega) (by omega)
      have hg := mpGet_sum m (addE a.e b.e)
      have hput := mpPut_sum m (addE a.e b.e) ((sget m (addE a.e b.e) + a.v * b.v).tmod p)
      generalize hs : sget m (addE a.e b.e) = s at *
      simp only [exK, addE] at hg hput hnx
      have w1 : IntKind.i64.wrap (a.v * b.v) = a.v * b.v := wrap64 (by omega) (by omega)
      have w2 : IntKind.i64.wrap (s + a.v * b.v) = s + a.v * b.v := wrap64 (by omega) (by omega)
      have hp0 : p ≠ 0 := by omega
      refine S 60 _ _ ?_
      simp
      refine J.dr hF mixed 14 [[], [], [], [], [2, 3], [], [5], [], [7], [5, 6, 7, 8], [2, 3, 4, 5, 6, 7, 8, 9], [], [11], [2, 3, 4, 5, 6, 7, 8, 9, 10, 11, 12], [0, 1, 2, 3, 4, 5, 6, 7, 8, 9, 10, 11, 12, 13]] [[48, 49, 50, 51, 52, 53, 54, 55, 56, 57, 58, 59, 60, 61], [48, 49, 50, 51, 52, 53, 54, 55, 56, 57, 58, 59, 60, 61], [48, 49, 50, 51, 52, 53, 54, 55, 56, 57, 58, 59, 60, 61], [48, 49, 50, 51, 52, 53, 54, 55, 56, 57, 58, 59, 60, 61], [48, 49, 52, 53, 54, 55, 56, 57, 58, 59, 60, 61], [48, 49, 50, 51, 52, 53, 54, 55, 56, 57, 58, 59, 60, 61], [48, 49, 50, 51, 52, 54, 55, 56, 57, 58, 59, 60, 61], [48, 49, 50, 51, 52, 53, 54, 55, 56, 57, 58, 59, 60, 61], [48, 49, 50, 51, 52, 53, 54, 56, 57, 58, 59, 60, 61], [48, 49, 50, 51, 52, 57, 58, 59, 60, 61], [48, 49, 58, 59, 60, 61], [48, 49, 50, 51, 52, 53, 54, 55, 56, 57, 58, 59, 60, 61], [48, 49, 50, 51, 52, 53, 54, 55, 56, 57, 58, 60, 61], [48, 49, 61]] (by decide) ?_
      simp [hg, hput, w1, w2, hp0]
      refine S 60 _ _ ?_
      simp [hput]
      exact Nxt.mk (k + 1) (by omega) (by simp [hnx, wrapS (i := k) (n := us.length) hlt2 (by omega)]) (by omega)
    · have e1 : us.take k = us := List.take_of_length_le hge2
      rw [e1]
      refine S 60 _ _ ?_
      simp
      exact Nxt.mk (i + 1) (by omega) (by simp [hnext, wrapS (i := i) (n := ts.length) hlt1 (by omega)]) (by omega)
  · have e1 : ts.take i = ts := List.take_of_length_le hge
    rw [e1]
    refine S 60 _ _ ?_
    simp
    refine CallW.ok (by decide) (by simp) hpl (by simp) (S 60 _ _ ?_)
    simp

end Go.Sm

namespace Go.Sm
open Go.RowKit

def degT (ts : List Tm) : Int := match ts.getLast? with
  | none => -1
  | some t => t.e.deg

theorem l01Degree_ok (p d : Int) (ts : List Tm) (hl : ts.length ≤ 1048576) : CallOK Go.Proofs.Try.prog 153 [pv p d ts] (.one (i64 (degT ts))) := by
  have hF := fnOk 17 [.tmp 2]
  refine callOK hF 60 Go.Proofs.Try.func153 rfl rfl rfl (by decide) (by simp) rfl ?_
  intro w0 hw
  have S := @vc_sound w0 _ hF ⟨(.one (i64 (degT ts))), []⟩ Go.Proofs.Try.f153 rfl (by simp)
  by_cases h0 : ts.length = 0
  · have e : ts = [] := List.length_eq_zero_iff.1 h0
    subst e
    have e : degT [] = -1 := rfl
    rw [e] at S ⊢
    simp
  · have hw1 : IntKind.i64.wrap ((ts.length : Int) - 1) = ((ts.length - 1 : Nat) : Int) := by rw [wrap64] <;> omega
    obtain ⟨t, ht⟩ : ∃ t, ts[ts.length - 1]? = some t := ⟨ts[ts.length - 1], List.getElem?_eq_getElem (by omega)⟩
    have e : degT ts = t.e.deg := by unfold degT; rw [List.getLast?_eq_getElem?, ht]
    rw [e] at S ⊢
    have c1 := l01Sum_ok t.e
    generalize hn : ts.length - 1 = n at *
    simp [h0, hw1]
    refine ⟨show n < ts.length by omega, fun a ha => ?_⟩
    obtain rfl : t = a := Option.some.inj (ht.symm.trans ha)
    refine CallW.ok (by decide) (by simp) c1 (by simp) (S 60 _ _ ?_)
    simp

set_option maxHeartbeats 1000000 in
theorem l01Plus_ok (p d p2 d2 k : Int) (ts us : List Tm) (hp : 0 < p) (hp2 : p ≤ 13) (ht : Can p ts) (hu : Can p us) (hlt : ts.length ≤ 1000) (hlu : us.length ≤ 1000) (hk : -13 ≤ k) (hk2 : k ≤ 13) : CallOK Go.Proofs.Try.prog 155 [pv p d ts, pv p2 d2 us, .one (i64 k)] (po p d (plusT p ts us k)) := by
  have hF := fnOk 44 [.cell 6 39]
  refine callOK hF 60 Go.Proofs.Try.func155 rfl rfl rfl (by decide) (by simp) rfl ?_
  intro w0 hw
  have S := @vc_sound w0 _ hF ⟨(po p d (plusT p ts us k)), []⟩ Go.Proofs.Try.f155 rfl (by simp)
  have c1 := l01Empty_ok p d
  simp
  refine CallW.ok (by decide) (by simp) c1 (by simp) (S 60 _ _ ?_)
  simp
  refine ⟨⟨by omega, by omega⟩, ?_⟩
  refine J.loop hw (fun i : Nat => ⟨[(2, .c (.d (i64 k))), (3, .c (.ref 64003 0)), (4, .c (.ref 64004 0)), (6, .c (.ref 64006 0)), (7, .c (.ref 64008 0)), (8, .c (.d (i64 i)))],
      [(64003, .var [.d (i64 p), .d (i64 d), .d (vTerms ts)]), (64004, .var [.d (i64 p2), .d (i64 d2), .d (vTerms us)]), (64006, .var [.d (i64 0), .d (i64 0), .ob 64007]), (64007, .arr 108 4 []),
        (64008, .var [.d (i64 p), .d (i64 d), .ob 64009]), (64009, .arr 108 4 (terms (plusT p ts (us.take i) k)))]⟩)
    (fun i => i ≤ us.length) (fun i => us.length - i) 0 (by simp) (by simp [plusT]) ?_
  intro i hi
  refine S 12 _ _ ?_
  simp
  refine ⟨fun hlt1 => ?_, fun hge => ?_⟩
  · obtain ⟨b, hb⟩ : ∃ b, us[i]? = some b := ⟨us[i], List.getElem?_eq_getElem hlt1⟩
    have hb0 := hu.2 b (List.mem_of_getElem? hb)
    obtain ⟨q1, q2, _⟩ := plusT_ok hp ht k (us.take i) (by rw [List.map_take]; exact (asc_nodup hu.1).sublist (List.take_sublist _ _))
    have hnext : plusT p ts (us.take (i + 1)) k = putT p (plusT p ts (us.take i) k) b.e (k * b.v) := by rw [List.take_add_one, hb]; exact plusT_snoc _ _ _ _ _
    rw [List.length_take] at q2
    generalize plusT p ts (us.take i) k = r at q1 q2 hnext ⊢
    have hcb := coef_bound hp q1 b.e
    have hm : k * b.v ≤ 13 * 13 := Int.le_trans (Int.mul_le_mul_of_nonneg_right hk2 (by omega)) (by omega)
    have hm2 : -13 * 13 ≤ k * b.v := Int.le_trans (by omega) (Int.mul_le_mul_of_nonneg_right hk (by omega))
    have hw1 : IntKind.i64.wrap (k * b.v) = k * b.v := wrap64 (by omega) (by omega)
    have c2 := l01Put_ok p d r b.e (k * b.v) (by omega) hp (by omega) (by omega) (by omega)
    refine S 2 _ _ ?_
    simp only [vc]
    refine J.dr hF mixed 15 [[], [], [1], [], [1, 2, 3], [1, 2, 3, 4], [1, 2, 3, 4, 5], [], [], [8], [], [8, 9, 10], [8, 9, 10, 11], [8, 9, 10, 11, 12], [7, 8, 9, 10, 11, 12, 13], [0, 1, 2, 3, 4, 5, 6, 7, 8, 9, 10, 11, 12, 13, 14], [0, 1, 2, 3, 4, 5, 6, 7, 8, 9, 10, 11, 12, 13, 14, 15]] [[27, 28, 29, 30, 31, 32, 33, 34, 35, 36, 37, 38, 39, 40, 41], [27, 28, 29, 30, 31, 32, 33, 34, 35, 36, 37, 38, 39, 40, 41], [27, 29, 30, 31, 32, 33, 34, 35, 36, 37, 38, 39, 40, 41], [27, 28, 29, 30, 31, 32, 33, 34, 35, 36, 37, 38, 39, 40, 41], [27, 31, 32, 33, 34, 35, 36, 37, 38, 39, 40, 41], [27, 32, 33, 34, 35, 36, 37, 38, 39, 40, 41], [27, 33, 34, 35, 36, 37, 38, 39, 40, 41], [27, 28, 29, 30, 31, 32, 33, 34, 35, 36, 37, 38, 39, 40, 41], [27, 28, 29, 30, 31, 32, 33, 34, 35, 36, 37, 38, 39, 40, 41], [27, 28, 29, 30, 31, 32, 33, 34, 36, 37, 38, 39, 40, 41], [27, 28, 29, 30, 31, 32, 33, 34, 35, 36, 37, 38, 39, 40, 41], [27, 28, 29, 30, 31, 32, 33, 34, 38, 39, 40, 41], [27, 28, 29, 30, 31, 32, 33, 34, 39, 40, 41], [27, 28, 29, 30, 31, 32, 33, 34, 40, 41], [27, 28, 29, 30, 31, 32, 33, 41]] (by decide) ?_
    rw [← List.take_append_drop 5 (List.take _ _)]
    generalize htl : List.drop 5 (List.take _ _) = tl
    simp
    refine ⟨hlt1, fun a ha => ?_⟩
    obtain rfl : b = a := Option.some.inj (hb.symm.trans ha)
    subst htl
    rw [← List.take_append_drop 7 (List.drop 5 _)]
    generalize htl : List.drop 7 (List.drop 5 _) = tl
    simp
    refine ⟨hlt1, fun a ha => ?_⟩
    obtain rfl : b = a := Option.some.inj (hb.symm.trans ha)
    subst htl
    simp [hw1]
    refine S 60 _ _ ?_
    simp
    refine CallW.ok (by decide) (by simp) c2 (by simp) (S 60 _ _ ?_)
    simp
    exact Nxt.mk (i + 1) (by omega) (by simp [hnext, wrapS (i := i) (n := us.length) hlt1 (by omega)]) (by omega)
  · have e1 : us.take i = us := List.take_of_length_le hge
    rw [e1]
    refine S 60 _ _ ?_
    simp

end Go.Sm

namespace Go.Sm
open Go.RowKit

set_option maxHeartbeats 1000000 in
set_option maxRecDepth 4000 in
theorem l01Times_ok (p d p2 d2 : Int) (ts us : List Tm) (hp : 0 < p) (hp2 : p ≤ 13) (ht : Can p ts) (hu : Can p us) (hlt : ts.length ≤ 1000) (hlu : us.length ≤ 1000) (ht0 : ts.length ≠ 0) (hu0 : us.length ≠ 0) (hdeg : degT ts + degT us ≤ 12) (hd0 : -1 ≤ degT ts) (hd1 : degT ts ≤ 12) (hd2 : -1 ≤ degT us) (hd3 : degT us ≤ 12) : CallOK Go.Proofs.Try.prog 128 [pv p d ts, pv p2 d2 us] (.tup [(true, [i64 p, i64 d, oTerms (mulT p ts us)]), (false, [bo true])]) := by
  have hF := fnOk 88 [.cell 4 39, .tmp 5]
  refine callOK hF 60 Go.Proofs.Try.func128 rfl rfl rfl (by decide) (by simp) rfl ?_
  intro w0 hw
  have S := @vc_sound w0 _ hF ⟨(.tup [(true, [i64 p, i64 d, oTerms (mulT p ts us)]), (false, [bo true])]), []⟩ Go.Proofs.Try.f128 rfl (by simp)
  have c1 := l01Empty_ok p d
  have c2 := l01Degree_ok p d ts (by omega)
  have c3 := l01Degree_ok p2 d2 us (by omega)
  generalize degT ts = g1 at *
  generalize degT us = g2 at *
  have hw1 : IntKind.i64.wrap (g1 + g2) = g1 + g2 := wrap64 (by omega) (by omega)
  have h12 : ¬ 12 < g1 + g2 := by omega
  simp
  refine CallW.ok (by decide) (by simp) c1 (by simp) (S 60 _ _ ?_)
  simp [ht0, hu0]
  refine J.dr hF mixed 3 [[], [0], [], [0, 1, 2], [0, 1, 2, 3], [0, 1, 2, 3, 4]] [[27, 28, 29], [28, 29], [27, 28, 29]] (by decide) ?_
  simp
  refine DrC.ok hF (by rfl) (by simp) c2 (by simp) (by simp) ?_
  simp
  refine S 60 _ _ ?_
  simp
  refine CallW.ok (by decide) (by simp) c3 (by simp) (S 60 _ _ ?_)
  simp [hw1, h12]
  refine J.loop hw (fun i : Nat => ⟨[(2, .c (.ref 64002 0)), (3, .c (.ref 64003 0)), (4, .c (.ref 64004 0)), (6, .c (.ref 64006 0)), (7, .c (.d (i64 i)))],
      [(64002, .var [.d (i64 p), .d (i64 d), .d (vTerms ts)]), (64003, .var [.d (i64 p2), .d (i64 d2), .d (vTerms us)]), (64004, .var [.d (i64 0), .d (i64 0), .ob 64005]), (64005, .arr 108 4 []),
        (64006, .var [.d (i64 p), .d (i64 d), .ob 64007]), (64007, .arr 108 4 (terms (mulT p (ts.take i) us)))]⟩)
    (fun i => i ≤ ts.length) (fun i => ts.length - i) 0 (by simp) (by simp [mulT]) ?_
  intro i hi
  refine S 12 _ _ ?_
  simp
  refine ⟨fun hlt1 => ?_, fun hge => ?_⟩
  · obtain ⟨a, ha⟩ : ∃ a, ts[i]? = some a := ⟨ts[i], List.getElem?_eq_getElem hlt1⟩
    have ha0 := ht.2 a (List.mem_of_getElem? ha)
    have htell : Tell p ((ts.take i).length * us.length) (mulS p (ts.take i) us) (mulT p (ts.take i) us) :=
      Tell.mul hp us (can_nonneg hu) (ts.take i) fun t h => can_nonneg ht t (List.mem_of_mem_take h)
    have hnext : mulT p (ts.take (i + 1)) us = mulRow p a (mulT p (ts.take i) us) us := by rw [List.take_add_one, ha]; exact mulT_snoc _ _ _ _
    have hmm : (ts.take i).length * us.length ≤ 1000 * 1000 := Nat.mul_le_mul (by rw [List.length_take]; omega) hlu
    generalize mulT p (ts.take i) us = r at htell hnext ⊢
    generalize mulS p (ts.take i) us = l at htell
    refine S 60 _ _ ?_
    simp
    refine J.loop hw (fun k : Nat => ⟨[(2, .c (.ref 64002 0)), (3, .c (.ref 64003 0)), (4, .c (.ref 64004 0)), (6, .c (.ref 64006 0)), (7, .c (.d (i64 i))), (8, .c (.d (i64 k)))],
        [(64002, .var [.d (i64 p), .d (i64 d), .d (vTerms ts)]), (64003, .var [.d (i64 p2), .d (i64 d2), .d (vTerms us)]), (64004, .var [.d (i64 0), .d (i64 0), .ob 64005]), (64005, .arr 108 4 []),
          (64006, .var [.d (i64 p), .d (i64 d), .ob 64007]), (64007, .arr 108 4 (terms (mulRow p a r (us.take k))))]⟩)
      (fun k => k ≤ us.length) (fun k => us.length - k) 0 (by simp) (by simp [mulRow]) ?_
    intro k hk
    refine S 12 _ _ ?_
    simp
    refine ⟨fun hlt2 => ?_, fun hge2 => ?_⟩
    · obtain ⟨b, hb⟩ : ∃ b, us[k]? = some b := ⟨us[k], List.getElem?_eq_getElem hlt2⟩
      have hb0 := hu.2 b (List.mem_of_getElem? hb)
      have htl := Tell.row hp a (by omega) htell (us.take k) fun t h => can_nonneg hu t (List.mem_of_mem_take h)
      have hnx : mulRow p a r (us.take (k + 1)) = putT p (mulRow p a r (us.take k)) (addE a.e b.e) (a.v * b.v) := by
        rw [List.take_add_one, hb]; exact mulRow_snoc _ _ _ _ _
      generalize mulRow p a r (us.take k) = mt at htl hnx ⊢
      refine S 60 _ _ ?_
      simp
      refine J.dr3 hF mixed 13 [[], [0], [], [0, 1, 2], [0, 1, 2, 3], [], [5], [], [5, 6, 7], [5, 6, 7, 8], [], [], [0, 1, 2, 3, 4, 10, 11], [0, 1, 2, 3, 4, 5, 6, 7, 8, 9, 10, 11, 12]] [[48, 49, 50, 51, 52, 53, 54, 55, 56, 57, 9, 10], [49, 50, 51, 52, 53, 54, 55, 56, 57, 9, 10], [48, 49, 50, 51, 52, 53, 54, 55, 56, 57, 9, 10], [51, 52, 53, 54, 55, 56, 57, 9, 10], [52, 53, 54, 55, 56, 57, 9, 10], [48, 49, 50, 51, 52, 53, 54, 55, 56, 57, 9, 10], [48, 49, 50, 51, 52, 54, 55, 56, 57, 9, 10], [48, 49, 50, 51, 52, 53, 54, 55, 56, 57, 9, 10], [48, 49, 50, 51, 52, 56, 57, 9, 10], [48, 49, 50, 51, 52, 57, 9, 10], [48, 49, 50, 51, 52, 53, 54, 55, 56, 57, 9, 10], [48, 49, 50, 51, 52, 53, 54, 55, 56, 57, 9, 10], [53, 54, 55, 56, 57]] [[], [], [], [], [], [], [], [], [], [], [], [], [576]] [[], [], [], [], [], [576], [576], [576], [576], [576], [], [], []] [] [] (by decide) ?_
      rw [← List.take_append_drop 5 (List.take _ _)]
      generalize htl : List.drop 5 (List.take _ _) = tl
      simp
      refine ⟨hlt1, fun x hx => ?_⟩
      obtain rfl : a = x := Option.some.inj (ha.symm.trans hx)
      subst htl
      rw [← List.take_append_drop 5 (List.drop 5 _)]
      generalize htl : List.drop 5 (List.drop 5 _) = tl
      simp
      refine ⟨hlt2, fun x hx => ?_⟩
      obtain rfl : b = x := Option.some.inj (hb.symm.trans hx)
      subst htl
      simp
      have hcb := coef_bound hp htl.2.2.1 (addE a.e b.e)
      have hm : 0 ≤ a.v * b.v := Int.mul_nonneg (by omega) (by omega)
      have hm2 : a.v * b.v ≤ 13 * 13 := Int.mul_le_mul (by omega) (by omega) (by omega) (by omega)
      have hmm2 : mt.length ≤ 1000 * 1000 + 1000 := by
        have h1 := htl.2.2.2.1
        have h2 : (us.take k).length ≤ us.length := List.length_take_le' _ _
        omega
      have w1 : IntKind.i64.wrap (a.v * b.v) = a.v * b.v := wrap64 (by omega) (by omega)
      have c4 := l01Put_ok p d mt (addE a.e b.e) (a.v * b.v) (by omega) hp (by omega) (by omega) (by omega)
      simp only [addE] at c4 hnx
      refine S 60 _ _ ?_
      simp [w1]
      refine CallW.ok (by decide) (by simp) c4 (by simp) (S 60 _ _ ?_)
      simp
      exact Nxt.mk (k + 1) (by omega) (by simp [hnx, wrapS (i := k) (n := us.length) hlt2 (by omega)]) (by omega)
    · have e1 : us.take k = us := List.take_of_length_le hge2
      rw [e1]
      refine S 60 _ _ ?_
      simp
      exact Nxt.mk (i + 1) (by omega) (by simp [hnext, wrapS (i := i) (n := ts.length) hlt1 (by omega)]) (by omega)
  · have e1 : ts.take i = ts := List.take_of_length_le hge
    rw [e1]
    refine S 60 _ _ ?_
    simp

theorem mpIdx_append (k : List Int) (z : Value) : ∀ (xs : List (List Int × Value)) (i : Nat), mpIdx xs k i = none → mpIdx (xs ++ [(k, z)]) k i = some (i + xs.length, z)
  | [], i, _ => by simp [mpIdx]
  | p :: ps, i, h => by
    simp only [List.cons_append, mpIdx] at h ⊢
    split at h
    · cases h
    · rename_i hn
      rw [if_neg hn, mpIdx_append k z ps (i + 1) h]
      simp only [List.length_cons]
      congr 2; omega
theorem mpGet_touch (xs : List (List Int × Value)) (k : List Int) (z : Value) : (mpGet (mpTouch xs k z) k).getD z = (mpGet xs k).getD z := by
  unfold mpGet mpTouch
  cases h : mpIdx xs k 0 with
  | none => simp [mpIdx_append k z xs 0 h]
  | some q => simp [h]
theorem mpAt_touch (xs : List (List Int × Value)) (k : List Int) (z : Value) : mpAt xs k < (mpTouch xs k z).length := by
  unfold mpAt mpTouch
  cases h : mpIdx xs k 0 with
  | none => simp
  | some q =>
    obtain ⟨j, v⟩ := q
    have := mpIdx_some h
    have := (List.getElem?_eq_some_iff.1 this.2).1
    simp at this ⊢
    exact this
theorem coef_take {p : Int} {ts : List Tm} (hp : 0 < p) (ht : Can p ts) (i : Nat) (e : Ex) : 0 ≤ coef (ts.take i) e ∧ coef (ts.take i) e < p := by
  have : ∀ us : List Tm, (∀ t ∈ us, 1 ≤ t.v ∧ t.v < p) → 0 ≤ coef us e ∧ coef us e < p := by
    intro us
    induction us with
    | nil => intro _; simp [coef]; exact hp
    | cons u us ih =>
      intro h
      simp only [coef]
      split
      · have := h u (List.mem_cons_self ..); omega
      · exact ih fun t h' => h t (List.mem_cons_of_mem _ h')
  exact this _ fun t h => ht.2 t (List.mem_of_mem_take h)

theorem mulK {k x : Int} (h1 : -13 ≤ k) (h2 : k ≤ 13) (hx : 0 ≤ x) (hx2 : x ≤ 13) : -169 ≤ k * x ∧ k * x ≤ 169 :=
  ⟨Int.le_trans (show (-169 : Int) ≤ -13 * x by omega) (Int.mul_le_mul_of_nonneg_right h1 hx), Int.le_trans (Int.mul_le_mul_of_nonneg_right h2 hx) (by omega)⟩

set_option maxHeartbeats 1000000 in
theorem add_ok (p d p2 d2 k : Int) (ts us : List Tm) (hp : 0 < p) (hp2 : p ≤ 13) (ht : Can p ts) (hu : Can p us) (hlt : ts.length ≤ 1000) (hlu : us.length ≤ 1000) (hk : -13 ≤ k) (hk2 : k ≤ 13) : CallOK Go.Proofs.Try.prog 131 [pv p d ts, pv p2 d2 us, .one (i64 k)] (po p d (plusT p ts us k)) := by
  have hF := fnOk 55 [.cell 6 39]
  refine callOK hF 60 Go.Proofs.Try.func131 rfl rfl rfl (by decide) (by simp) rfl ?_
  intro w0 hw
  have S := @vc_sound w0 _ hF ⟨(po p d (plusT p ts us k)), []⟩ Go.Proofs.Try.f131 rfl (by simp)
  obtain ⟨a1, a2, a3⟩ := accS_ok (l := []) (by simp) 1 ts (asc_nodup ht.1)
  obtain ⟨b1, b2, b3⟩ := accS_ok a1 k us (asc_nodup hu.1)
  have hpl := poly_ok p d (accS (accS [] ts 1) us k) (by simp at a2; omega) b1 hp (by omega)
  rw [plus_eq hp ht (asc_nodup hu.1)] at hpl
  simp
  refine J.loop hw (fun i : Nat => ⟨[(2, .c (.d (i64 k))), (3, .c (.ref 64003 0)), (4, .c (.ref 64004 0)), (6, .c (.ref 64006 0)), (7, .c (.ob 64008)), (14, .c (.d (vTerms ts))), (15, .c (.d (i64 ts.length))), (16, .c (.d (i64 i)))],
      [(64003, .var [.d (i64 p), .d (i64 d), .d (vTerms ts)]), (64004, .var [.d (i64 p2), .d (i64 d2), .d (vTerms us)]), (64006, .var [.d (i64 0), .d (i64 0), .ob 64007]), (64007, .arr 108 4 []), (64008, .mp (sumM (accS [] (ts.take i) 1)))]⟩)
    (fun i => i ≤ ts.length) (fun i => ts.length - i) 0 (by simp) (by simp [accS]) ?_
  intro i hi
  refine S 8 _ _ ?_
  simp
  refine ⟨fun hlt1 => ?_, fun hge => ?_⟩
  · refine S 6 _ _ ?_
    simp
    refine ⟨hlt1, fun b hb => ?_⟩
    have hb0 := ht.2 b (List.mem_of_getElem? hb)
    obtain ⟨q1, q2, q3⟩ := accS_ok (l := []) (by simp) 1 (ts.take i) (by rw [List.map_take]; exact (asc_nodup ht.1).sublist (List.take_sublist _ _))
    have hcb := coef_take hp ht i b.e
    have hnext : accS [] (ts.take (i + 1)) 1 = sput (accS [] (ts.take i) 1) b.e (sget (accS [] (ts.take i) 1) b.e + 1 * b.v) := by rw [List.take_add_one, hb]; exact accS_snoc _ _ _ _
    have hs := q3 b.e
    generalize accS [] (ts.take i) 1 = l at hs q1 q2 q3 hnext ⊢
    have hg := mpGet_sum l b.e
    have hgt := mpGet_touch (l.map fun p => sumE p) (exK b.e) (.int .i64 0)
    have hat := mpAt_touch (l.map fun p => sumE p) (exK b.e) (.int .i64 0)
    have hadd := mpAdd_sum l b.e (sget l b.e + b.v)
    rw [hg] at hgt
    simp only [sget, Int.zero_add, Int.one_mul] at hs hnext
    generalize sget l b.e = n0 at *
    simp only [exK] at hg hgt hat hadd
    have w1 : IntKind.i64.wrap (n0 + b.v) = n0 + b.v := wrap64 (by omega) (by omega)
    refine S 4 _ _ ?_
    simp
    refine J.dr3 hF mixed 9 [[], [], [1], [0, 1, 2], [], [4], [0, 1, 2, 3, 4, 5], [0, 1, 2, 4, 5], [0, 1, 2, 4, 5, 7], [0, 1, 2, 3, 4, 5, 6, 7, 8]] [[20, 21, 22, 23, 24, 25, 26, 27, 28], [20, 21, 22, 23, 24, 25, 26, 27, 28], [20, 22, 23, 24, 25, 26, 27, 28], [23, 24, 25, 26, 27, 28], [20, 21, 22, 23, 24, 25, 26, 27, 28], [20, 21, 22, 23, 25, 26, 27, 28], [26, 27, 28], [23, 26, 27, 28], [23, 26, 28]] [[], [], [], [], [], [], [], [64008], []] [[], [], [], [], [], [], [64008], [], []] [(3, 7, 64008)] [(7, .mp ⟨.u8, 3, mpTouch (l.map fun p => sumE p) [(b.e.a.toNat : Int), b.e.b.toNat, b.e.c.toNat] (.int .i64 0)⟩)] (by decide) ?_
    simp [hg, hgt, w1]
    refine S 60 _ _ ?_
    simp [hadd]
    refine ⟨hat, ?_⟩
    exact Nxt.mk (i + 1) (by omega) (by simp [hnext, hadd, wrapS (i := i) (n := ts.length) hlt1 (by omega)]) (by omega)
  · have e1 : ts.take i = ts := List.take_of_length_le hge
    rw [e1]
    refine S 60 _ _ ?_
    simp
    refine J.loop hw (fun i : Nat => ⟨[(2, .c (.d (i64 k))), (3, .c (.ref 64003 0)), (4, .c (.ref 64004 0)), (6, .c (.ref 64006 0)), (7, .c (.ob 64008)), (31, .c (.d (vTerms us))), (32, .c (.d (i64 us.length))), (33, .c (.d (i64 i)))],
        [(64003, .var [.d (i64 p), .d (i64 d), .d (vTerms ts)]), (64004, .var [.d (i64 p2), .d (i64 d2), .d (vTerms us)]), (64006, .var [.d (i64 0), .d (i64 0), .ob 64007]), (64007, .arr 108 4 []), (64008, .mp (sumM (accS (accS [] ts 1) (us.take i) k)))]⟩)
      (fun i => i ≤ us.length) (fun i => us.length - i) 0 (by simp) (by simp [accS]) ?_
    clear hge e1 hi i
    intro i hi
    refine S 8 _ _ ?_
    simp
    refine ⟨fun hlt1 => ?_, fun hge => ?_⟩
    · refine S 6 _ _ ?_
      simp
      refine ⟨hlt1, fun b hb => ?_⟩
      have hb0 := hu.2 b (List.mem_of_getElem? hb)
      obtain ⟨q1, q2, q3⟩ := accS_ok a1 k (us.take i) (by rw [List.map_take]; exact (asc_nodup hu.1).sublist (List.take_sublist _ _))
      have hcb := coef_take hp hu i b.e
      have hcb2 := coef_bound hp ht b.e
      have hnext : accS (accS [] ts 1) (us.take (i + 1)) k = sput (accS (accS [] ts 1) (us.take i) k) b.e (sget (accS (accS [] ts 1) (us.take i) k) b.e + k * b.v) := by rw [List.take_add_one, hb]; exact accS_snoc _ _ _ _
      have hs := q3 b.e
      rw [a3 b.e] at hs
      generalize accS (accS [] ts 1) (us.take i) k = l at hs q1 q2 q3 hnext ⊢
      have hg := mpGet_sum l b.e
      have hgt := mpGet_touch (l.map fun p => sumE p) (exK b.e) (.int .i64 0)
      have hat := mpAt_touch (l.map fun p => sumE p) (exK b.e) (.int .i64 0)
      have hadd := mpAdd_sum l b.e (sget l b.e + k * b.v)
      rw [hg] at hgt
      simp only [sget, Int.zero_add, Int.one_mul] at hs hnext
      generalize sget l b.e = n0 at *
      simp only [exK] at hg hgt hat hadd
      have hm := mulK hk hk2 (x := b.v) (by omega) (by omega)
      have hm2 := mulK hk hk2 (x := coef (us.take i) b.e) (by omega) (by omega)
      generalize hkb : k * b.v = kb at *
      generalize hkc : k * coef (us.take i) b.e = kc at *
      have wk : IntKind.i64.wrap kb = kb := wrap64 (by omega) (by omega)
      have w1 : IntKind.i64.wrap (n0 + kb) = n0 + kb := wrap64 (by omega) (by omega)
      refine S 4 _ _ ?_
      simp
      refine J.dr3 hF mixed 11 [[], [], [1], [0, 1, 2], [], [], [5], [4, 5, 6], [0, 1, 2, 3, 4, 5, 6, 7], [0, 1, 2, 4, 5, 6, 7], [0, 1, 2, 4, 5, 6, 7, 9], [0, 1, 2, 3, 4, 5, 6, 7, 8, 9, 10]] [[37, 38, 39, 40, 41, 42, 43, 44, 45, 46, 47], [37, 38, 39, 40, 41, 42, 43, 44, 45, 46, 47], [37, 39, 40, 41, 42, 43, 44, 45, 46, 47], [40, 41, 42, 43, 44, 45, 46, 47], [37, 38, 39, 40, 41, 42, 43, 44, 45, 46, 47], [37, 38, 39, 40, 41, 42, 43, 44, 45, 46, 47], [37, 38, 39, 40, 41, 43, 44, 45, 46, 47], [37, 38, 39, 40, 44, 45, 46, 47], [45, 46, 47], [40, 45, 46, 47], [40, 45, 47]] [[], [], [], [], [], [], [], [], [], [64008], []] [[], [], [], [], [], [], [], [], [64008], [], []] [(3, 9, 64008)] [(9, .mp ⟨.u8, 3, mpTouch (l.map fun p => sumE p) [(b.e.a.toNat : Int), b.e.b.toNat, b.e.c.toNat] (.int .i64 0)⟩)] (by decide) ?_
      simp [hg, hgt, w1, wk, hkb]
      refine S 60 _ _ ?_
      simp [hadd]
      refine ⟨hat, ?_⟩
      exact Nxt.mk (i + 1) (by omega) (by simp [hnext, hadd, wrapS (i := i) (n := us.length) hlt1 (by omega)]) (by omega)
    · have e1 : us.take i = us := List.take_of_length_le hge
      rw [e1]
      refine S 60 _ _ ?_
      simp
      refine CallW.ok (by decide) (by simp) hpl (by simp) (S 60 _ _ ?_)
      simp

end Go.Sm

namespace Go.Sm
open Go.RowKit

@[simp] theorem argEs_take {α : Type} (f : α → List D) (xs : List α) (n : Nat) : argEs ((xs.map f).take n) = (xs.map fun x => argCs (f x)).take n := by rw [← List.map_take, argEs_map, List.map_take]
@[simp] theorem locEs_take {α : Type} (f : α → List D) (xs : List α) (n : Nat) : locEs ((xs.map f).take n) = (xs.map fun x => locCs (f x)).take n := by rw [← List.map_take, locEs_map, List.map_take]
@[simp] theorem freshEs_take {α : Type} (f : α → List D) (xs : List α) (n : Nat) : freshEs ((xs.map f).take n) = (xs.take n).all fun x => freshCs (f x) := by rw [← List.map_take, freshEs_map]
@[simp] theorem stOEs_take {α : Type} (f : α → List D) (xs : List α) (n : Nat) : stOEs ((xs.map f).take n) = (xs.take n).all fun x => stOCs (f x) := by rw [← List.map_take, stOEs_map]
@[simp] theorem okNo_take {α : Type} (f : α → List D) (xs : List α) (n : Nat) : okNo ((xs.map f).take n) = (xs.take n).all fun x => okNoC (f x) := by rw [← List.map_take, okNo_map]
@[simp] theorem argEs_drop {α : Type} (f : α → List D) (xs : List α) (n : Nat) : argEs ((xs.map f).drop n) = (xs.map fun x => argCs (f x)).drop n := by rw [← List.map_drop, argEs_map, List.map_drop]
@[simp] theorem locEs_drop {α : Type} (f : α → List D) (xs : List α) (n : Nat) : locEs ((xs.map f).drop n) = (xs.map fun x => locCs (f x)).drop n := by rw [← List.map_drop, locEs_map, List.map_drop]
@[simp] theorem freshEs_drop {α : Type} (f : α → List D) (xs : List α) (n : Nat) : freshEs ((xs.map f).drop n) = (xs.drop n).all fun x => freshCs (f x) := by rw [← List.map_drop, freshEs_map]
@[simp] theorem stOEs_drop {α : Type} (f : α → List D) (xs : List α) (n : Nat) : stOEs ((xs.map f).drop n) = (xs.drop n).all fun x => stOCs (f x) := by rw [← List.map_drop, stOEs_map]
@[simp] theorem okNo_drop {α : Type} (f : α → List D) (xs : List α) (n : Nat) : okNo ((xs.map f).drop n) = (xs.drop n).all fun x => okNoC (f x) := by rw [← List.map_drop, okNo_map]
@[simp] theorem drop_rest {α : Type} (f : α → List D) (xs : List α) (n : Nat) : ((xs.map f).drop n).take (xs.length - n) = (xs.map f).drop n := List.take_of_length_le (by simp)

/-- k put at place a. -/
def ins (k : Nat) (l : List Int) (a : Nat) : List Int := l.take a ++ (k : Int) :: l.drop a
def insD (k : Nat) (l : List Int) : Nat → List (List Int)
  | 0 => []
  | n + 1 => ins k l n :: insD k l n
def sgD (k : Nat) (s : Int) : Nat → List Int
  | 0 => []
  | n + 1 => s * (1 - 2 * ((k : Int) - n).tmod 2) :: sgD k s n
def ordS : Nat → List (List Int)
  | 0 => [[]]
  | k + 1 => (ordS k).flatMap fun l => insD k l (k + 1)
def sgS : Nat → List Int
  | 0 => [1]
  | k + 1 => (sgS k).flatMap fun s => sgD k s (k + 1)
theorem insD_len (k : Nat) (l : List Int) : ∀ n, (insD k l n).length = n
  | 0 => rfl
  | n + 1 => by simp [insD, insD_len k l n]
theorem sgD_len (k : Nat) (s : Int) : ∀ n, (sgD k s n).length = n
  | 0 => rfl
  | n + 1 => by simp [sgD, sgD_len k s n]
theorem flat_len {α β : Type} (f : α → List β) (m : Nat) (h : ∀ x, (f x).length = m) : ∀ xs : List α, (xs.flatMap f).length = xs.length * m
  | [] => by simp
  | x :: xs => by rw [List.flatMap_cons, List.length_append, h, flat_len f m h xs, List.length_cons, Nat.succ_mul, Nat.add_comm]
theorem flat_take {α β : Type} (f : α → List β) {xs : List α} {i : Nat} {a : α} (h : xs[i]? = some a) : (xs.take (i + 1)).flatMap f = (xs.take i).flatMap f ++ f a := by
  rw [List.take_add_one, h]; simp
theorem ord_facts {k : Nat} (hk : k ≤ 2) : (ordS k).length ≤ 2 ∧ (sgS k).length = (ordS k).length ∧ (∀ l ∈ ordS k, l.length = k) ∧ ∀ s ∈ sgS k, s = 1 ∨ s = -1 := by
  have : k = 0 ∨ k = 1 ∨ k = 2 := by omega
  rcases this with rfl | rfl | rfl <;> decide

theorem l01Own_ok (xs : List Int) (hl : xs.length ≤ 1048576) : CallOK Go.Proofs.Try.prog 152 [.one (vInts xs)] (.one (oInts xs)) := by
  have hF := fnOk 6 [.tmp 2]
  refine callOK hF 60 Go.Proofs.Try.func152 rfl rfl rfl (by decide) (by simp) rfl ?_
  intro w0 hw
  have S := @vc_sound w0 _ hF ⟨(.one (oInts xs)), []⟩ Go.Proofs.Try.f152 rfl (by simp)
  simp
  refine ⟨by omega, by omega⟩

set_option maxRecDepth 4000 in
theorem l08Orders_ok (d : Nat) (hd : d ≤ 3) : CallOK Go.Proofs.Try.prog 124 [.one (i64 d)] (.tup [(false, [oIntss (ordS d)]), (false, [oInts (sgS d)])]) := by
  have hF := fnOk 72 [.tmp 2, .tmp 3]
  refine callOK hF 60 Go.Proofs.Try.func124 rfl rfl rfl (by decide) (by simp) rfl ?_
  intro w0 hw
  have S := @vc_sound w0 _ hF ⟨(.tup [(false, [oIntss (ordS d)]), (false, [oInts (sgS d)])]), []⟩ Go.Proofs.Try.f124 rfl (by simp)
  simp
  refine BsW.move hF (e := 22) (es := [[oInts []]]) (ks := [12 * 64]) (by decide) rfl rfl rfl (by simp) (by simp) rfl (by decide) (by decide) (by simp) ?_
  refine S 60 _ _ ?_
  simp
  refine J.loop hw (fun k : Nat => ⟨[(0, .c (.d (i64 d))), (4, .c (.ob 64004)), (5, .c (.ob 64005)), (6, .c (.d (i64 k)))],
      [(64004, .arr 22 1 ((ordS k).map fun x => [oInts x])), (64005, .arr 2 1 (ints (sgS k)))]⟩)
    (fun k => k ≤ d) (fun k => d - k) 0 (by simp) (by simp [ordS, sgS]) ?_
  intro k hk
  refine S 60 _ _ ?_
  simp
  refine ⟨fun hlt => ?_, fun hge => ?_⟩
  · obtain ⟨f1, f2, f3, f4⟩ := ord_facts (k := k) (by omega)
    generalize hL : ordS k = L at *
    generalize hG : sgS k = G at *
    refine J.loop hw (fun i : Nat => ⟨[(0, .c (.d (i64 d))), (4, .c (.ob 64004)), (5, .c (.ob 64005)), (6, .c (.d (i64 k))), (7, .c (.ob 64007)), (8, .c (.ob 64008)), (9, .c (.d (i64 i)))],
        [(64004, .arr 22 1 (L.map fun x => [oInts x])), (64005, .arr 2 1 (ints G)), (64007, .arr 22 1 (((L.take i).flatMap fun l => insD k l (k + 1)).map fun x => [oInts x])), (64008, .arr 2 1 (ints ((G.take i).flatMap fun s => sgD k s (k + 1))))]⟩)
      (fun i => i ≤ L.length) (fun i => L.length - i) 0 (by simp) (by simp) ?_
    intro i hi
    refine S 60 _ _ ?_
    simp
    refine ⟨fun hlt2 => ?_, fun hge2 => ?_⟩
    · obtain ⟨l, hl⟩ : ∃ l, L[i]? = some l := ⟨L[i], List.getElem?_eq_getElem hlt2⟩
      obtain ⟨g, hg⟩ : ∃ g, G[i]? = some g := ⟨G[i]'(by omega), List.getElem?_eq_getElem (by omega)⟩
      have hll : l.length = k := f3 l (List.mem_of_getElem? hl)
      have hgg := f4 g (List.mem_of_getElem? hg)
      generalize hN : (L.take i).flatMap (fun l => insD k l (k + 1)) = Nx
      generalize hM : (G.take i).flatMap (fun s => sgD k s (k + 1)) = Mx
      have hNl : Nx.length ≤ 6 := by
        rw [← hN, flat_len _ (k + 1) (fun x => insD_len k x _), List.length_take]
        have : min i L.length * (k + 1) ≤ 2 * 3 := Nat.mul_le_mul (by omega) (by omega)
        omega
      have hMl : Mx.length ≤ 6 := by
        rw [← hM, flat_len _ (k + 1) (fun x => sgD_len k x _), List.length_take]
        have : min i G.length * (k + 1) ≤ 2 * 3 := Nat.mul_le_mul (by omega) (by omega)
        omega
      refine J.loop hw (fun q : Nat × List (List Int) × List Int => ⟨[(0, .c (.d (i64 d))), (4, .c (.ob 64004)), (5, .c (.ob 64005)), (6, .c (.d (i64 k))), (7, .c (.ob 64007)), (8, .c (.ob 64008)), (9, .c (.d (i64 i))), (10, .c (.d (i64 ((q.1 : Int) - 1))))],
          [(64004, .arr 22 1 (L.map fun x => [oInts x])), (64005, .arr 2 1 (ints G)), (64007, .arr 22 1 ((Nx ++ q.2.1).map fun x => [oInts x])), (64008, .arr 2 1 (ints (Mx ++ q.2.2)))]⟩)
        (fun q => q.1 ≤ k + 1 ∧ q.2.1 ++ insD k l q.1 = insD k l (k + 1) ∧ q.2.2 ++ sgD k g q.1 = sgD k g (k + 1)) (fun q => q.1) (k + 1, [], []) (by simp) (by simp) ?_
      rintro ⟨n, acc, sac⟩ ⟨hn, ha1, ha2⟩
      simp only at hn ha1 ha2
      have hal : acc.length ≤ 3 := by
        have := congrArg List.length ha1
        rw [List.length_append, insD_len, insD_len] at this; omega
      have hsl : sac.length ≤ 3 := by
        have := congrArg List.length ha2
        rw [List.length_append, sgD_len, sgD_len] at this; omega
      cases n with
      | zero =>
        have ha1 : acc = insD k l (k + 1) := (List.append_nil _).symm.trans ha1
        have ha2 : sac = sgD k g (k + 1) := (List.append_nil _).symm.trans ha2
        refine S 60 _ _ ?_
        simp
        refine Nxt.mk (i + 1) (by omega) (by simp [flat_take _ hl, flat_take _ hg, hN, hM, ha1, ha2, wrapS (i := i) (n := L.length) hlt2 (by omega)]) (by omega)
      | succ n =>
        refine S 60 _ _ ?_
        simp
        refine ⟨hlt2, fun a ha => ?_⟩
        obtain rfl : l = a := Option.some.inj (hl.symm.trans ha)
        refine ⟨by omega, ?_⟩
        refine CallW.ok (by decide) (by simp) (l01Own_ok (l.take n) (by rw [List.length_take]; omega)) (by simp) (S 5 _ _ ?_)
        simp
        have hkb : min n l.length + 1 ≤ 4 := by omega
        refine ⟨⟨by omega, by omega⟩, ?_⟩
        refine S 8 _ _ ?_
        simp
        refine ⟨hlt2, fun a ha => ?_⟩
        obtain rfl : l = a := Option.some.inj (hl.symm.trans ha)
        refine S 3 _ _ ?_
        simp
        -- the rest of l behind k
        refine ⟨by omega, ⟨by omega, by omega⟩, S 60 _ _ ?_⟩
        simp
        refine BsW.move hF (e := 22) (es := [[oInts (ins k l n)]]) (ks := [51 * 64]) (by decide) rfl rfl rfl (by simp [ins]) (by simp) rfl (by decide) (by decide) (by simp) ?_
        refine S 3 _ _ ?_
        simp
        refine ⟨⟨by omega, by omega⟩, ?_⟩
        have hr := tmod_range ((k : Int) - n) 2 (by omega)
        have w1 : IntKind.i64.wrap ((k : Int) - n) = k - n := wrap64 (by omega) (by omega)
        have w2 : IntKind.i64.wrap (2 * ((k : Int) - n).tmod 2) = 2 * ((k : Int) - n).tmod 2 := wrap64 (by omega) (by omega)
        have w3 : IntKind.i64.wrap (1 - 2 * ((k : Int) - n).tmod 2) = 1 - 2 * ((k : Int) - n).tmod 2 := wrap64 (by omega) (by omega)
        have w4 : IntKind.i64.wrap (g * (1 - 2 * ((k : Int) - n).tmod 2)) = g * (1 - 2 * ((k : Int) - n).tmod 2) := by
          rcases hgg with rfl | rfl <;> exact wrap64 (by omega) (by omega)
        refine S 60 _ _ ?_
        simp
        refine ⟨by omega, fun b hb => ?_⟩
        obtain rfl : g = b := Option.some.inj (hg.symm.trans hb)
        simp [w1, w2, w3, w4]
        refine ⟨⟨by omega, by omega⟩, ?_⟩
        have w5 : IntKind.i64.wrap ((n : Int) - 1) = n - 1 := wrap64 (by omega) (by omega)
        refine Nxt.mk (n, acc ++ [ins k l n], sac ++ [g * (1 - 2 * ((k : Int) - n).tmod 2)]) ⟨by omega, by rw [← ha1]; simp [insD], by rw [← ha2]; simp [sgD]⟩ (by simp [w5]) (by show n < n + 1; omega)
    · have e1 : L.take i = L := List.take_of_length_le hge2
      have e2 : G.take i = G := List.take_of_length_le (by omega)
      rw [e1, e2]
      exact Nxt.mk (k + 1) (by omega) (by simp [ordS, sgS, hL, hG, wrapS (i := k) (n := d) hlt (by omega)]) (by omega)
  · have : k = d := by omega
    rw [this]
    exact ⟨rfl, rfl⟩

/-! ### the program's -/
abbrev nats (xs : List Nat) : List (List D) := xs.map fun (i : Nat) => [i64 (i : Int)]
abbrev oNats (xs : List Nat) : D := .own 3 1 (nats xs)
abbrev vNats (xs : List Nat) : D := .vw false 1 (nats xs)
abbrev oNatss (xss : List (List Nat)) : D := .own 122 1 (xss.map fun xs => [oNats xs])
def ordI : Nat → List (List Nat)
  | 2 => [[0, 1], [1, 0]]
  | 3 => [[0, 1, 2], [0, 2, 1], [1, 0, 2], [1, 2, 0], [2, 0, 1], [2, 1, 0]]
  | _ => [[0]]
/-- The sign of an order: what comes of s by the pairs (i, k), k < m. -/
def sgK (o : List Nat) (i : Nat) : Nat → Int → Int
  | 0, s => s
  | m + 1, s => if o[i]?.getD 0 < (o[m]?.getD 0) then - sgK o i m s else sgK o i m s
def sgI (o : List Nat) : Nat → Int
  | 0 => 1
  | i + 1 => sgK o i i (sgI o i)
def sgnI (d : Nat) : List Int := (ordI d).map fun o => sgI o o.length
theorem sgK_one {o : List Nat} {i m : Nat} {s : Int} (h : s = 1 ∨ s = -1) : sgK o i m s = 1 ∨ sgK o i m s = -1 := by
  induction m with
  | zero => exact h
  | succ m ih => unfold sgK; split <;> omega
theorem sgI_one {o : List Nat} {i : Nat} : sgI o i = 1 ∨ sgI o i = -1 := by
  induction i with
  | zero => exact .inl rfl
  | succ i ih => exact sgK_one ih

theorem ordI_facts (d : Nat) : (ordI d).length ≤ 6 ∧ ∀ o ∈ ordI d, o.length ≤ 3 ∧ ∀ x ∈ o, x < 3 := by
  unfold ordI
  split <;> decide

set_option maxRecDepth 4000 in
theorem orders_ok (d : Nat) (hd : 1 ≤ d ∧ d ≤ 3) : CallOK Go.Proofs.Try.prog 125 [.one (i64 d)] (.tup [(false, [oNatss (ordI d)]), (false, [oInts (sgnI d)])]) := by
  have hF := fnOk 64 [.tmp 2, .tmp 3]
  refine callOK hF 60 Go.Proofs.Try.func125 rfl rfl rfl (by decide) (by simp) rfl ?_
  intro w0 hw
  have S := @vc_sound w0 _ hF ⟨(.tup [(false, [oNatss (ordI d)]), (false, [oInts (sgnI d)])]), []⟩ Go.Proofs.Try.f125 rfl (by simp)
  obtain ⟨f1, f2⟩ := ordI_facts d
  simp only [sgnI] at S ⊢
  simp
  refine BsW.move hF (e := 122) (es := [[oNats [0]]]) (ks := [11 * 64]) (by decide) rfl rfl rfl (by simp) (by simp) rfl (by decide) (by decide) (by simp) (S 60 _ _ ?_)
  have hd' : d = 1 ∨ d = 2 ∨ d = 3 := by omega
  rcases hd' with rfl | rfl | rfl
  simp
  rotate_left
  simp
  refine BsW.move hF (e := 122) (es := [[oNats [0, 1]], [oNats [1, 0]]]) (ks := [16 * 64, 17 * 64]) (by decide) rfl rfl rfl (by simp) (by simp) rfl (by decide) (by decide) (by simp) (S 60 _ _ ?_)
  simp
  rotate_left
  simp
  refine BsW.move hF (e := 122) (es := [[oNats [0, 1, 2]], [oNats [0, 2, 1]], [oNats [1, 0, 2]], [oNats [1, 2, 0]], [oNats [2, 0, 1]], [oNats [2, 1, 0]]]) (ks := [21 * 64, 22 * 64, 23 * 64, 24 * 64, 25 * 64, 26 * 64]) (by decide) rfl rfl rfl (by simp) (by simp) rfl (by decide) (by decide) (by simp) (S 60 _ _ ?_)
  simp
  rotate_left
  all_goals
    generalize hA : ordI _ = A at S f1 f2 ⊢
    refine J.loop hw (fun i : Nat => ⟨[(4, .c (.ob 64029)), (5, .c (.ob 64005)), (29, .c (.ob 64029)), (30, .c (.d (i64 A.length))), (31, .c (.d (i64 i)))],
        [(64029, .arr 122 1 (A.map fun x => [oNats x])), (64005, .arr 2 1 (ints ((A.take i).map fun o => sgI o o.length)))]⟩)
      (fun i => i ≤ A.length) (fun i => A.length - i) 0 (by simp) (by subst hA; simp [ordI]) ?_
    intro i hi
    refine S 60 _ _ ?_
    simp
    refine ⟨fun hlt => ⟨hlt, fun o ho => ?_⟩, fun hge => ?_⟩
    · have hol := (f2 o (List.mem_of_getElem? ho)).1
      refine J.loop hw (fun j : Nat => ⟨[(4, .c (.ob 64029)), (5, .c (.ob 64005)), (29, .c (.ob 64029)), (30, .c (.d (i64 A.length))), (31, .c (.d (i64 i))), (7, .c (.d (vNats o))), (8, .c (.d (i64 (sgI o j)))), (36, .c (.d (i64 o.length))), (37, .c (.d (i64 j)))],
          [(64029, .arr 122 1 (A.map fun x => [oNats x])), (64005, .arr 2 1 (ints ((A.take i).map fun o => sgI o o.length)))]⟩)
        (fun j => j ≤ o.length) (fun j => o.length - j) 0 (by simp) (by simp [sgI]) ?_
      intro j hj
      refine S 60 _ _ ?_
      simp
      refine ⟨fun hlt2 => ?_, fun hge2 => ?_⟩
      · refine J.loop hw (fun m : Nat => ⟨[(4, .c (.ob 64029)), (5, .c (.ob 64005)), (29, .c (.ob 64029)), (30, .c (.d (i64 A.length))), (31, .c (.d (i64 i))), (7, .c (.d (vNats o))), (8, .c (.d (i64 (sgK o j m (sgI o j))))), (36, .c (.d (i64 o.length))), (37, .c (.d (i64 j))), (9, .c (.d (i64 j))), (40, .c (.d (i64 j))), (41, .c (.d (i64 m)))],
            [(64029, .arr 122 1 (A.map fun x => [oNats x])), (64005, .arr 2 1 (ints ((A.take i).map fun o => sgI o o.length)))]⟩)
          (fun m => m ≤ j) (fun m => j - m) 0 (by simp) (by simp [sgK]) ?_
        intro m hm
        refine S 60 _ _ ?_
        simp
        refine ⟨fun hlt3 => ?_, fun hge3 => ?_⟩
        · refine J.dr hF mixed 8 [[], [], [0, 1], [0, 1, 2], [], [], [4, 5], [4, 5, 6], [0, 1, 2, 3, 4, 5, 6, 7]] [[44, 45, 46, 47, 48, 49, 50, 51], [44, 45, 46, 47, 48, 49, 50, 51], [46, 47, 48, 49, 50, 51], [47, 48, 49, 50, 51], [44, 45, 46, 47, 48, 49, 50, 51], [44, 45, 46, 47, 48, 49, 50, 51], [44, 45, 46, 47, 50, 51], [44, 45, 46, 47, 51]] (by decide) ?_
          simp
          refine ⟨by omega, fun a ha => ⟨hlt2, fun b hb => S 60 _ _ ?_⟩⟩
          have hs := @sgK_one o j m (sgI o j) sgI_one
          have hw1 : IntKind.i64.wrap (-(sgK o j m (sgI o j))) = -(sgK o j m (sgI o j)) := wrap64 (by omega) (by omega)
          have hst : sgK o j (m + 1) (sgI o j) = if b < a then -(sgK o j m (sgI o j)) else sgK o j m (sgI o j) := by simp [sgK, ha, hb]
          simp
          refine ⟨fun hba => ?_, fun hba => ?_⟩
          · exact Nxt.mk (m + 1) (by omega) (by simp [hst, hba, hw1, wrapS (i := m) (n := j) hlt3 (by omega)]) (by omega)
          · exact Nxt.mk (m + 1) (by omega) (by simp [hst, show ¬ b < a by omega, wrapS (i := m) (n := j) hlt3 (by omega)]) (by omega)
        · have : m = j := by omega
          subst this
          exact Nxt.mk (m + 1) (by omega) (by simp [sgI, wrapS (i := m) (n := o.length) hlt2 (by omega)]) (by omega)
      · have : j = o.length := by omega
        subst this
        have := @sgI_one o o.length
        refine ⟨by omega, ?_⟩
        exact Nxt.mk (i + 1) (by omega) (by simp [List.take_add_one, ho, wrapS (i := i) (n := A.length) hlt (by omega)]) (by omega)
    · exact List.take_of_length_le (by simpa using hge)

end Go.Sm

namespace Go.Sm
open Go.RowKit

/-- The exponents that the orders of d letters make of e. -/
def permsE : Nat → Ex → List Ex
  | 2, e => [⟨e.a, e.b, 0⟩, ⟨e.b, e.a, 0⟩]
  | 3, e => [⟨e.a, e.b, e.c⟩, ⟨e.a, e.c, e.b⟩, ⟨e.b, e.a, e.c⟩, ⟨e.c, e.a, e.b⟩, ⟨e.b, e.c, e.a⟩, ⟨e.c, e.b, e.a⟩]
  | _, e => [⟨e.a, 0, 0⟩]
theorem permsE_len (d : Nat) (e : Ex) : (permsE d e).length ≤ 6 := by unfold permsE; split <;> simp

theorem permsE_ord {d : Nat} {e : Ex} (hd : 1 ≤ d ∧ d ≤ 3) : (permsE d e).length = (ordI d).length := by
  have : d = 1 ∨ d = 2 ∨ d = 3 := by omega
  rcases this with rfl | rfl | rfl <;> rfl

def getE (e : Ex) : Nat → UInt8
  | 0 => e.a
  | 1 => e.b
  | _ => e.c
def setE (x : Ex) (k : Nat) (v : UInt8) : Ex := match k with
  | 0 => ⟨v, x.b, x.c⟩
  | 1 => ⟨x.a, v, x.c⟩
  | _ => ⟨x.a, x.b, v⟩
/-- The exponents e laid by the order o: the first j. -/
def partE (o : List Nat) (e : Ex) : Nat → Ex
  | 0 => ⟨0, 0, 0⟩
  | j + 1 => setE (partE o e j) (o[j]?.getD 0) (getE e j)
theorem permsE_map {d : Nat} {e : Ex} (hd : 1 ≤ d ∧ d ≤ 3) : permsE d e = (ordI d).map fun o => partE o e o.length := by
  have : d = 1 ∨ d = 2 ∨ d = 3 := by omega
  rcases this with rfl | rfl | rfl <;> rfl

set_option maxHeartbeats 1000000 in
set_option maxRecDepth 4000 in
theorem monomialSum_ok (p : Int) (d : Nat) (e : Ex) (hp : 0 < p) (hp2 : p ≤ 13) (hd : 1 ≤ d ∧ d ≤ 3) : CallOK Go.Proofs.Try.prog 87 [.one (i64 p), .one (i64 d), .agg e.ds] (po p d (ofSum p (sumOf (permsE d e)))) := by
  have hF := fnOk 48 [.cell 6 39]
  refine callOK hF 60 Go.Proofs.Try.func87 rfl rfl rfl (by decide) (by simp) rfl ?_
  intro w0 hw
  have S := @vc_sound w0 _ hF ⟨(po p d (ofSum p (sumOf (permsE d e)))), []⟩ Go.Proofs.Try.f87 rfl (by simp)
  have c1 := orders_ok d hd
  simp
  refine CallW.ok (by decide) (by simp) c1 (by simp) (S 60 _ _ ?_)
  simp
  refine J.loop hw (fun i : Nat => ⟨[(0, .c (.d (i64 p))), (1, .c (.d (i64 d))), (5, .c (.ref 64005 0)), (6, .c (.ref 64006 0)), (9, .c (.ob 64009)), (21, .c (.ob 64021)), (22, .c (.d (i64 (ordI d).length))), (23, .c (.d (i64 i)))],
      [(64005, .var [.d (u8 e.a), .d (u8 e.b), .d (u8 e.c)]), (64006, .var [.d (i64 0), .d (i64 0), .ob 64007]), (64007, .arr 108 4 []), (64009, .mp (sumM (sumOf ((permsE d e).take i)))), (64021, .arr 122 1 ((ordI d).map fun x => [oNats x]))]⟩)
    (fun i => i ≤ (ordI d).length) (fun i => (ordI d).length - i) 0 (by simp) (by simp [sumOf]) ?_
  intro i hi
  refine S 60 _ _ ?_
  simp
  refine ⟨fun hlt => ⟨hlt, fun o ho => ?_⟩, fun hge => ?_⟩
  · obtain ⟨f1, f2⟩ := ordI_facts d
    obtain ⟨f3, f4⟩ := f2 o (List.mem_of_getElem? ho)
    have hpm : (permsE d e)[i]? = some (partE o e o.length) := by rw [permsE_map hd, List.getElem?_map, ho]; rfl
    refine J.loop hw (fun j : Nat => ⟨[(0, .c (.d (i64 p))), (1, .c (.d (i64 d))), (5, .c (.ref 64005 0)), (6, .c (.ref 64006 0)), (9, .c (.ob 64009)), (21, .c (.ob 64021)), (22, .c (.d (i64 (ordI d).length))), (23, .c (.d (i64 i))), (12, .c (.ref 64012 0)), (28, .c (.d (vNats o))), (29, .c (.d (i64 o.length))), (30, .c (.d (i64 j)))],
        [(64005, .var [.d (u8 e.a), .d (u8 e.b), .d (u8 e.c)]), (64006, .var [.d (i64 0), .d (i64 0), .ob 64007]), (64007, .arr 108 4 []), (64009, .mp (sumM (sumOf ((permsE d e).take i)))), (64021, .arr 122 1 ((ordI d).map fun x => [oNats x])),
          (64012, .var [.d (u8 (partE o e j).a), .d (u8 (partE o e j).b), .d (u8 (partE o e j).c)])]⟩)
      (fun j => j ≤ o.length) (fun j => o.length - j) 0 (by simp) (by simp [partE]) ?_
    intro j hj
    refine S 8 _ _ ?_
    simp
    refine ⟨fun hlt2 => ?_, fun hge2 => ?_⟩
    · refine S 6 _ _ ?_
      simp
      refine ⟨hlt2, fun a ha => ?_⟩
      have ha3 := f4 a (List.mem_of_getElem? ha)
      have hn : partE o e (j + 1) = setE (partE o e j) a (getE e j) := by rw [partE, ha]; rfl
      generalize partE o e j = x at hn ⊢
      have hj3 : j = 0 ∨ j = 1 ∨ j = 2 := by omega
      have ha4 : a = 0 ∨ a = 1 ∨ a = 2 := by omega
      rcases hj3 with rfl | rfl | rfl
      · rcases ha4 with rfl | rfl | rfl
        all_goals
          simp only [getE, setE] at hn
          refine S 60 _ _ ?_
          simp
          exact Nxt.mk 1 (by omega) (by simp [hn]) (by omega)
      · rcases ha4 with rfl | rfl | rfl
        all_goals
          simp only [getE, setE] at hn
          refine S 60 _ _ ?_
          simp
          exact Nxt.mk 2 (by omega) (by simp [hn]) (by omega)
      · rcases ha4 with rfl | rfl | rfl
        all_goals
          simp only [getE, setE] at hn
          refine S 60 _ _ ?_
          simp
          exact Nxt.mk 3 (by omega) (by simp [hn]) (by omega)
    · have : j = o.length := by omega
      subst this
      generalize partE o e o.length = x at hpm ⊢
      have htk : sumOf ((permsE d e).take (i + 1)) = sput (sumOf ((permsE d e).take i)) x 1 := by rw [List.take_add_one, hpm]; exact sumOf_snoc _ _
      refine S 60 _ _ ?_
      simp
      exact Nxt.mk (i + 1) (by omega) (by simp [mpPut_sum, htk, wrapS (i := i) (n := (ordI d).length) hlt (by omega)]) (by omega)
  · obtain ⟨g1, g2, _⟩ := sumOf_ok (permsE d e)
    have hl := permsE_len d e
    have e1 : (permsE d e).take i = permsE d e := List.take_of_length_le (by rw [permsE_ord hd]; exact hge)
    rw [e1]
    refine CallW.ok (by decide) (by simp) (poly_ok p d (sumOf (permsE d e)) (by omega) g1 hp (by omega)) (by simp) (S 60 _ _ ?_)
    simp

/-! ### the reference's -/
def partS (o : List Int) (e : Ex) : Nat → Ex
  | 0 => ⟨0, 0, 0⟩
  | j + 1 => setE (partS o e j) (o[j]?.getD 0).toNat (getE e j)
def exOf (xs : List Int) : Ex := ⟨by8 (xs[0]?.getD 0), by8 (xs[1]?.getD 0), by8 (xs[2]?.getD 0)⟩
def permsS (d : Nat) (e : Ex) : List Ex := (ordS d).map fun o => partS o e d
theorem ordS_facts {d : Nat} (hd : d ≤ 3) : (ordS d).length ≤ 6 ∧ ∀ o ∈ ordS d, o.length = d ∧ ∀ x ∈ o, x = 0 ∨ x = 1 ∨ x = 2 := by
  have : d = 0 ∨ d = 1 ∨ d = 2 ∨ d = 3 := by omega
  rcases this with rfl | rfl | rfl | rfl <;> decide
theorem permsS_mem {d : Nat} (hd : 1 ≤ d ∧ d ≤ 3) (e x : Ex) : x ∈ permsS d e ↔ x ∈ permsE d e := by
  have : d = 1 ∨ d = 2 ∨ d = 3 := by omega
  rcases this with rfl | rfl | rfl
  · exact Iff.rfl
  · exact Iff.rfl
  · have h : permsS 3 e = [⟨e.a, e.b, e.c⟩, ⟨e.a, e.c, e.b⟩, ⟨e.b, e.c, e.a⟩, ⟨e.b, e.a, e.c⟩, ⟨e.c, e.a, e.b⟩, ⟨e.c, e.b, e.a⟩] := rfl
    rw [h]
    simp only [permsE, List.mem_cons, List.not_mem_nil, or_false]
    constructor <;> (rintro (h | h | h | h | h | h) <;> simp [h])
/-- A monomial put where there is none yet. -/
def putN (p : Int) (ts : List Tm) (e : Ex) : List Tm := if coef ts e = 0 then putT p ts e 1 else ts
def putNs (p : Int) (es : List Ex) : List Tm := es.foldl (putN p) []
theorem putNs_snoc (p : Int) (es : List Ex) (e : Ex) : putNs p (es ++ [e]) = putN p (putNs p es) e := by simp [putNs]
theorem putNs_ok {p : Int} (hp : 2 ≤ p) (es : List Ex) : Can p (putNs p es) ∧ (putNs p es).length ≤ es.length ∧ ∀ e, coef (putNs p es) e = if e ∈ es then 1 else 0 := by
  refine snoc_ind (P := fun es => Can p (putNs p es) ∧ (putNs p es).length ≤ es.length ∧ ∀ e, coef (putNs p es) e = if e ∈ es then 1 else 0) ?_ ?_ es
  · exact ⟨can_nil p, by simp [putNs], fun e => by simp [putNs, coef]⟩
  · rintro es a ⟨h1, h2, h3⟩
    rw [putNs_snoc]
    unfold putN
    by_cases ha : a ∈ es
    · have hc : ¬ coef (putNs p es) a = 0 := by rw [h3, if_pos ha]; omega
      rw [if_neg hc]
      refine ⟨h1, by simp; omega, fun e => ?_⟩
      rw [h3]
      by_cases he : e ∈ es
      · simp [he]
      · have : e ≠ a := fun h => he (h ▸ ha)
        simp [he, this]
    · have hc : coef (putNs p es) a = 0 := by rw [h3, if_neg ha]
      rw [if_pos hc]
      obtain ⟨k1, k2⟩ := putT_can (p := p) (by omega) h1 a 1
      have := putT_length p (putNs p es) a 1
      refine ⟨k1, by simp; omega, fun e => ?_⟩
      rw [k2]
      by_cases he : e = a
      · subst he; rw [if_pos rfl, hc]; simp; exact Int.emod_eq_of_lt (by omega) (by omega)
      · rw [if_neg he, h3]; simp [he]
theorem putNs_eq {p : Int} (hp : 2 ≤ p) {es fs : List Ex} (h : ∀ x, x ∈ es ↔ x ∈ fs) : ofSum p (sumOf fs) = putNs p es := by
  obtain ⟨h1, h2, h3⟩ := putNs_ok hp es
  obtain ⟨g1, g2, g3⟩ := sumOf_ok fs
  obtain ⟨k1, k2⟩ := ofSum_can (p := p) (by omega) g1
  refine can_ext k1 h1 fun e => ?_
  rw [k2, h3, g3]
  simp only [h]
  split
  · exact Int.emod_eq_of_lt (by omega) (by omega)
  · simp

set_option maxHeartbeats 1000000 in
set_option maxRecDepth 4000 in
theorem l08Sum_ok (p : Int) (xs : List Int) (hp : 2 ≤ p) (hp2 : p ≤ 13) (hd : 1 ≤ xs.length ∧ xs.length ≤ 3) : CallOK Go.Proofs.Try.prog 86 [.one (i64 p), .one (vInts xs)] (po p xs.length (ofSum p (sumOf (permsE xs.length (exOf xs))))) := by
  have hF := fnOk 55 [.cell 4 39]
  refine callOK hF 60 Go.Proofs.Try.func86 rfl rfl rfl (by decide) (by simp) rfl ?_
  intro w0 hw
  have S := @vc_sound w0 _ hF ⟨(po p xs.length (ofSum p (sumOf (permsE xs.length (exOf xs))))), []⟩ Go.Proofs.Try.f86 rfl (by simp)
  rw [putNs_eq hp (permsS_mem hd (exOf xs))] at S ⊢
  have c1 := l01Empty_ok p xs.length
  have c2 := l08Orders_ok xs.length hd.2
  obtain ⟨f1, f2⟩ := ordS_facts hd.2
  have hps : ∀ i o, (ordS xs.length)[i]? = some o → (permsS xs.length (exOf xs))[i]? = some (partS o (exOf xs) xs.length) := fun i o h => by unfold permsS; rw [List.getElem?_map, h]; rfl
  have hpl : (permsS xs.length (exOf xs)).length = (ordS xs.length).length := by simp [permsS]
  have hex : ∀ j a, xs[j]? = some a → j ≤ 2 → getE (exOf xs) j = by8 a := fun j a h hj => by
    have : j = 0 ∨ j = 1 ∨ j = 2 := by omega
    rcases this with rfl | rfl | rfl <;> simp [getE, exOf, h]
  generalize exOf xs = e at *
  generalize permsS xs.length e = es at *
  generalize ordS xs.length = L at *
  simp
  refine CallW.ok (by decide) (by simp) c1 (by simp) (S 60 _ _ ?_)
  simp
  refine CallW.ok (by decide) (by simp) c2 (by simp) (S 60 _ _ ?_)
  simp
  refine J.loop hw (fun i : Nat => ⟨[(0, .c (.d (i64 p))), (1, .c (.d (vInts xs))), (4, .c (.ref 64004 0)), (5, .c (.d (i64 xs.length))), (6, .c (.ref 64006 0)), (7, .c (.ob 64007)), (9, .c (.d (i64 i)))],
      [(64004, .var [.d (i64 0), .d (i64 0), .ob 64005]), (64005, .arr 108 4 []), (64006, .var [.d (i64 p), .d (i64 xs.length), .ob 64008]), (64008, .arr 108 4 (terms (putNs p (es.take i)))), (64007, .arr 22 1 (L.map fun x => [oInts x]))]⟩)
    (fun i => i ≤ L.length) (fun i => L.length - i) 0 (by simp) (by simp [putNs]) ?_
  intro i hi
  refine S 60 _ _ ?_
  simp
  refine ⟨fun hlt => ?_, fun hge => ?_⟩
  · obtain ⟨o, ho⟩ : ∃ o, L[i]? = some o := ⟨L[i], List.getElem?_eq_getElem hlt⟩
    obtain ⟨f3, f4⟩ := f2 o (List.mem_of_getElem? ho)
    have hpm := hps i o ho
    refine J.loop hw (fun j : Nat => ⟨[(0, .c (.d (i64 p))), (1, .c (.d (vInts xs))), (4, .c (.ref 64004 0)), (5, .c (.d (i64 xs.length))), (6, .c (.ref 64006 0)), (7, .c (.ob 64007)), (9, .c (.d (i64 i))), (10, .c (.ref 64010 0)), (11, .c (.d (i64 j)))],
        [(64004, .var [.d (i64 0), .d (i64 0), .ob 64005]), (64005, .arr 108 4 []), (64006, .var [.d (i64 p), .d (i64 xs.length), .ob 64008]), (64008, .arr 108 4 (terms (putNs p (es.take i)))), (64007, .arr 22 1 (L.map fun x => [oInts x])),
          (64010, .var [.d (u8 (partS o e j).a), .d (u8 (partS o e j).b), .d (u8 (partS o e j).c)])]⟩)
      (fun j => j ≤ xs.length) (fun j => xs.length - j) 0 (by simp) (by simp [partS]) ?_
    intro j hj
    refine S 12 _ _ ?_
    simp
    refine ⟨fun hlt2 => ?_, fun hge2 => ?_⟩
    · refine J.dr hF mixed 12 [[], [], [0, 1], [0, 1, 2], [], [0, 1, 2, 3, 4], [0, 1, 2, 3, 4, 5], [], [], [7, 8], [7, 8, 9], [7, 8, 9, 10], [0, 1, 2, 3, 4, 5, 6, 7, 8, 9, 10, 11], [0, 1, 2, 3, 4, 5, 6, 7, 8, 9, 10, 11, 12]] [[34, 35, 36, 37, 38, 39, 40, 41, 42, 43, 44, 45], [34, 35, 36, 37, 38, 39, 40, 41, 42, 43, 44, 45], [36, 37, 38, 39, 40, 41, 42, 43, 44, 45], [37, 38, 39, 40, 41, 42, 43, 44, 45], [34, 35, 36, 37, 38, 39, 40, 41, 42, 43, 44, 45], [39, 40, 41, 42, 43, 44, 45], [40, 41, 42, 43, 44, 45], [34, 35, 36, 37, 38, 39, 40, 41, 42, 43, 44, 45], [34, 35, 36, 37, 38, 39, 40, 41, 42, 43, 44, 45], [34, 35, 36, 37, 38, 39, 40, 43, 44, 45], [34, 35, 36, 37, 38, 39, 40, 44, 45], [34, 35, 36, 37, 38, 39, 40, 45]] (by decide) ?_
      simp
      refine ⟨hlt, fun o' ho' => ?_⟩
      obtain rfl : o = o' := Option.some.inj (ho.symm.trans ho')
      refine ⟨by omega, fun n hn => ⟨hlt2, fun v hv => ?_⟩⟩
      have h2 := hex j v hv (by omega)
      have hn0 : partS o e (j + 1) = setE (partS o e j) n.toNat (by8 v) := by rw [partS, hn, ← h2]; rfl
      generalize partS o e j = x at hn0 ⊢
      rcases f4 n (List.mem_of_getElem? hn) with rfl | rfl | rfl
      all_goals
        simp only [setE, Int.toNat_zero, Int.toNat_one, Int.reduceToNat] at hn0
        refine S 60 _ _ ?_
        simp
        exact Nxt.mk (j + 1) (by omega) (by simp [hn0, wrapS (i := j) (n := xs.length) hlt2 (by omega)]) (by omega)
    · have : j = xs.length := by omega
      subst this
      generalize partS o e xs.length = x at hpm ⊢
      have htk : putNs p (es.take (i + 1)) = putN p (putNs p (es.take i)) x := by rw [List.take_add_one, hpm]; exact putNs_snoc _ _ _
      obtain ⟨q1, q2, _⟩ := putNs_ok hp (es.take i)
      have hlen : (putNs p (es.take i)).length ≤ 6 := by rw [List.length_take] at q2; omega
      have c3 := l01At_ok p xs.length (putNs p (es.take i)) x (by omega)
      have hb := coef_bound (show 0 < p by omega) q1 x
      have c4 := l01Put_ok p xs.length (putNs p (es.take i)) x 1 (by omega) (by omega) (by omega) (by omega) (by omega)
      refine S 60 _ _ ?_
      simp
      refine CallW.ok (by decide) (by simp) c3 (by simp) (S 60 _ _ ?_)
      simp
      refine ⟨fun hc => ?_, fun hc => ?_⟩
      · refine CallW.ok (by decide) (by simp) c4 (by simp) (S 60 _ _ ?_)
        simp
        exact Nxt.mk (i + 1) (by omega) (by simp [htk, putN, hc, wrapS (i := i) (n := L.length) hlt (by omega)]) (by omega)
      · exact Nxt.mk (i + 1) (by omega) (by simp [htk, putN, hc, wrapS (i := i) (n := L.length) hlt (by omega)]) (by omega)
  · have e1 : es.take i = es := List.take_of_length_le (by omega)
    rw [e1]

end Go.Sm

namespace Go.Sm
open Go.RowKit

def powerR (p d k : Int) : RV := if Pr p ∧ (1 ≤ d ∧ d ≤ 3) ∧ 1 ≤ k ∧ k ≤ 12 then pres p d (ofSum p (sumOf (permsE d.toNat ⟨by8 k, 0, 0⟩))) 0 else pres 0 0 [] 2

theorem permsE_small (p : Int) (_ : 2 ≤ p) (d : Nat) (e : Ex) : (ofSum p (sumOf (permsE d e))).length ≤ 2000000 := by
  have h1 := ofSum_length p (sumOf (permsE d e))
  have h2 := (sumOf_ok (permsE d e)).2.1
  have h3 := permsE_len d e
  omega
theorem powerR_small (p d k : Int) : PresS (powerR p d k) := by
  unfold powerR
  split
  · rename_i h
    exact ⟨_, _, _, _, rfl, permsE_small p h.1.pos.1 _ _⟩
  · exact ⟨_, _, _, _, rfl, by simp⟩

theorem PowerSumPoly_ok (p d k : Int) : CallOK Go.Proofs.Try.prog 35 [.one (i64 p), .one (i64 d), .one (i64 k)] (powerR p d k) := by
  have hF := fnOk 31 [.cell 6 39, .tmp 7]
  refine callOK hF 60 Go.Proofs.Try.func35 rfl rfl rfl (by decide) (by simp) rfl ?_
  intro w0 hw
  have S := @vc_sound w0 _ hF ⟨(powerR p d k), []⟩ Go.Proofs.Try.f35 rfl (by simp)
  have c1 := isPrime_ok p
  have c2 := isVars_ok d
  by_cases hp : Pr p
  · by_cases hd : 1 ≤ d ∧ d ≤ 3
    · rw [decide_eq_true hp] at c1
      rw [decide_eq_true hd] at c2
      by_cases hk : 1 ≤ k ∧ k ≤ 12
      · have e : powerR p d k = pres p d (ofSum p (sumOf (permsE d.toNat ⟨by8 k, 0, 0⟩))) 0 := by unfold powerR; rw [if_pos ⟨hp, hd, hk⟩]
        rw [e] at S ⊢
        obtain ⟨n, rfl⟩ : ∃ n : Nat, d = n := ⟨d.toNat, by omega⟩
        have hpp := hp.pos
        have c3 := monomialSum_ok p n ⟨by8 k, 0, 0⟩ (by omega) (by omega) (by omega)
        simp only [Int.toNat_natCast] at S ⊢
        simp
        refine CallW.ok (by decide) (by simp) c1 (by simp) (S 60 _ _ ?_)
        simp
        refine CallW.ok (by decide) (by simp) c2 (by simp) (S 60 _ _ ?_)
        simp
        refine ⟨fun h1 => ⟨hk.2, fun h2 => ?_⟩, hk.1⟩
        refine CallW.ok (by decide) (by simp) c3 (by simp) (S 60 _ _ ?_)
        simp
      · have e : powerR p d k = pres 0 0 [] 2 := by unfold powerR; rw [if_neg (fun h => hk h.2.2)]
        rw [e] at S ⊢
        simp
        refine CallW.ok (by decide) (by simp) c1 (by simp) (S 60 _ _ ?_)
        simp
        refine CallW.ok (by decide) (by simp) c2 (by simp) (S 60 _ _ ?_)
        simp
        intro h1 h2
        exact absurd ⟨h1, h2⟩ hk
    · have e : powerR p d k = pres 0 0 [] 2 := by unfold powerR; rw [if_neg (fun h => hd h.2.1)]
      rw [e] at S ⊢
      rw [decide_eq_true hp] at c1
      rw [decide_eq_false hd] at c2
      simp
      refine CallW.ok (by decide) (by simp) c1 (by simp) (S 60 _ _ ?_)
      simp
      refine CallW.ok (by decide) (by simp) c2 (by simp) (S 60 _ _ ?_)
      simp
  · have e : powerR p d k = pres 0 0 [] 2 := by unfold powerR; rw [if_neg (fun h => hp h.1)]
    rw [e] at S ⊢
    rw [decide_eq_false hp] at c1
    simp
    refine CallW.ok (by decide) (by simp) c1 (by simp) (S 60 _ _ ?_)
    simp

set_option maxRecDepth 4000 in
theorem specPowerSumPoly_ok (p d k : Int) : CallOK Go.Proofs.Try.prog 34 [.one (i64 p), .one (i64 d), .one (i64 k)] (powerR p d k) := by
  have hF := fnOk 27 [.cell 6 39, .tmp 7]
  refine callOK hF 60 Go.Proofs.Try.func34 rfl rfl rfl (by decide) (by simp) rfl ?_
  intro w0 hw
  have S := @vc_sound w0 _ hF ⟨(powerR p d k), []⟩ Go.Proofs.Try.f34 rfl (by simp)
  have c1 := l08Shape_ok p d
  have c2 := l01In_ok k 1 12
  by_cases hp : Pr p ∧ 1 ≤ d ∧ d ≤ 3
  · by_cases hk : 1 ≤ k ∧ k ≤ 12
    · have hpp := hp.1.pos
      have e : powerR p d k = pres p d (ofSum p (sumOf (permsE d.toNat ⟨by8 k, 0, 0⟩))) 0 := by unfold powerR; rw [if_pos ⟨hp.1, hp.2, hk⟩]
      rw [e] at S ⊢
      rw [decide_eq_true hp] at c1
      rw [decide_eq_true hk] at c2
      have c3 := l08Sum_ok p [k] (by omega) (by omega) (by simp)
      have c4 := l08Sum_ok p [k, 0] (by omega) (by omega) (by simp)
      have c5 := l08Sum_ok p [k, 0, 0] (by omega) (by omega) (by simp)
      have e1 : ∀ xs, xs = [] ∨ xs = [0] ∨ xs = [0, 0] → exOf (k :: xs) = ⟨by8 k, 0, 0⟩ := by
        intro xs h
        rcases h with rfl | rfl | rfl <;> rfl
      rw [e1 _ (by simp)] at c3 c4 c5
      have hd : d = 1 ∨ d = 2 ∨ d = 3 := by omega
      rcases hd with rfl | rfl | rfl
      all_goals
        simp
        refine CallW.ok (by decide) (by simp) c1 (by simp) (S 60 _ _ ?_)
        simp
        refine CallW.ok (by decide) (by simp) c2 (by simp) (S 60 _ _ ?_)
        simp
      · refine CallW.ok (by decide) (by simp) c3 (by simp) (S 60 _ _ ?_)
        simp
      · refine CallW.ok (by decide) (by simp) c4 (by simp) (S 60 _ _ ?_)
        simp
      · refine CallW.ok (by decide) (by simp) c5 (by simp) (S 60 _ _ ?_)
        simp
    · have e : powerR p d k = pres 0 0 [] 2 := by unfold powerR; rw [if_neg (fun h => hk h.2.2)]
      rw [e] at S ⊢
      rw [decide_eq_true hp] at c1
      rw [decide_eq_false hk] at c2
      simp
      refine CallW.ok (by decide) (by simp) c1 (by simp) (S 60 _ _ ?_)
      simp
      refine CallW.ok (by decide) (by simp) c2 (by simp) (S 60 _ _ ?_)
      simp
  · have e : powerR p d k = pres 0 0 [] 2 := by unfold powerR; rw [if_neg (fun h => hp ⟨h.1, h.2.1⟩)]
    rw [e] at S ⊢
    rw [decide_eq_false hp] at c1
    simp
    refine CallW.ok (by decide) (by simp) c1 (by simp) (S 60 _ _ ?_)
    simp

end Go.Sm

namespace Go.Sm
open Go.RowKit

/-- A monomial times a number, as terms. -/
def mono (p : Int) (e : Ex) (n : Int) : List Tm := putT p [] e n
theorem mono_can {p : Int} (hp : 0 < p) (e : Ex) (n : Int) : Can p (mono p e n) := (putT_can hp (can_nil p) e n).1
theorem mono_coef {p : Int} (hp : 0 < p) (e : Ex) (n : Int) (e' : Ex) : coef (mono p e n) e' = if e' = e then n % p else 0 := by
  have := (putT_can hp (can_nil p) e n).2 e'
  simpa [coef, mono] using this
theorem mono_len (p : Int) (e : Ex) (n : Int) : (mono p e n).length ≤ 1 := by
  have := putT_length p [] e n
  simpa [mono] using this
theorem mono_sum {p : Int} (hp : 0 < p) (e : Ex) (n : Int) : ofSum p [(e, n)] = mono p e n := by
  obtain ⟨k1, k2⟩ := ofSum_can hp (l := [(e, n)]) (by simp)
  refine can_ext k1 (mono_can hp e n) fun e' => ?_
  rw [k2, mono_coef hp]
  simp only [sget]
  by_cases h : e = e'
  · simp [h]
  · have h' : ¬ e' = e := fun q => h q.symm
    simp [h, h']

def fct (p : Int) (i k : Nat) : List Tm := putT p (mono p (unE i) 1) (unE k) (p - 1)
theorem fct_can {p : Int} (hp : 0 < p) (i k : Nat) : Can p (fct p i k) := (putT_can hp (mono_can hp _ _) _ _).1
theorem fct_len (p : Int) (i k : Nat) : (fct p i k).length ≤ 2 := by
  have := putT_length p (mono p (unE i) 1) (unE k) (p - 1)
  have := mono_len p (unE i) 1
  unfold fct; omega
theorem fct_plus {p : Int} (hp : Pr p) {i k : Nat} (hik : (i = 0 ∧ k = 1) ∨ (i = 0 ∧ k = 2) ∨ (i = 1 ∧ k = 2)) : plusT p (mono p (unE i) 1) (mono p (unE k) 1) (p - 1) = fct p i k := by
  rcases hik with ⟨rfl, rfl⟩ | ⟨rfl, rfl⟩ | ⟨rfl, rfl⟩ <;> rcases hp with rfl | rfl | rfl | rfl | rfl | rfl <;> decide

def van1 (p : Int) : List Tm := mono p ⟨0, 0, 0⟩ 1
def van2 (p : Int) : List Tm := mulT p (van1 p) (fct p 0 1)
def van3 (p : Int) : List Tm := mulT p (van2 p) (fct p 0 2)
def van4 (p : Int) : List Tm := mulT p (van3 p) (fct p 1 2)
def vanT (p : Int) (d : Int) : List Tm := if d = 1 then van1 p else if d = 2 then van2 p else van4 p

theorem van1_ok {p : Int} (hp : 0 < p) : Can p (van1 p) ∧ (van1 p).length ≤ 1 := ⟨mono_can hp _ _, mono_len _ _ _⟩
theorem mul_ok2 {p : Int} (hp : 0 < p) {xs ys : List Tm} {n k : Nat} (hx : Can p xs ∧ xs.length ≤ n) (hy : Can p ys) (hl : ys.length ≤ k) : Can p (mulT p xs ys) ∧ (mulT p xs ys).length ≤ n * k := by
  obtain ⟨_, _, h1, h2, _⟩ := mul_tell hp hx.1 hy
  exact ⟨h1, Nat.le_trans h2 (Nat.mul_le_mul hx.2 hl)⟩
theorem van2_ok {p : Int} (hp : 0 < p) : Can p (van2 p) ∧ (van2 p).length ≤ 2 := mul_ok2 hp (van1_ok hp) (fct_can hp _ _) (fct_len _ _ _)
theorem van3_ok {p : Int} (hp : 0 < p) : Can p (van3 p) ∧ (van3 p).length ≤ 4 := mul_ok2 hp (van2_ok hp) (fct_can hp _ _) (fct_len _ _ _)
theorem van4_ok {p : Int} (hp : 0 < p) : Can p (van4 p) ∧ (van4 p).length ≤ 8 := mul_ok2 hp (van3_ok hp) (fct_can hp _ _) (fct_len _ _ _)

theorem deg_fct {p : Int} (hp : Pr p) {i k : Nat} (hik : (i = 0 ∧ k = 1) ∨ (i = 0 ∧ k = 2) ∨ (i = 1 ∧ k = 2)) : degT (fct p i k) = 1 ∧ (fct p i k).length ≠ 0 := by
  rcases hik with ⟨rfl, rfl⟩ | ⟨rfl, rfl⟩ | ⟨rfl, rfl⟩ <;> rcases hp with rfl | rfl | rfl | rfl | rfl | rfl <;> decide
theorem deg_van1 {p : Int} (hp : Pr p) : degT (van1 p) = 0 ∧ (van1 p).length ≠ 0 := by rcases hp with rfl | rfl | rfl | rfl | rfl | rfl <;> decide
theorem deg_van2 {p : Int} (hp : Pr p) : degT (van2 p) = 1 ∧ (van2 p).length ≠ 0 := by rcases hp with rfl | rfl | rfl | rfl | rfl | rfl <;> decide
theorem deg_van3 {p : Int} (hp : Pr p) : degT (van3 p) = 2 ∧ (van3 p).length ≠ 0 := by rcases hp with rfl | rfl | rfl | rfl | rfl | rfl <;> decide

/-- A state with what is needed further alone. -/
theorem J.clean {P : Program} {N : Nat} {w0 : Base} {s : St} (hw : w0.ok64) {Q : Exit → Act → World → Prop} {k : List It} (t : St) (h : Fit (autoRn s t) s t) (hj : J P N w0 Q k t) : J P N w0 Q k s := J.fit hw h hj
abbrev vanI (p i k : Int) (ts : List Tm) : St := ⟨[(0, .c (.d (i64 p))), (1, .c (.d (i64 3))), (4, .c (.ref 64004 0)), (5, .c (.ref 64005 0)), (6, .c (.d (i64 i))), (7, .c (.d (i64 k))), (11, .c (.d (i64 3))), (12, .c (.d (i64 i)))],
  [(64004, .var [.d (i64 0), .d (i64 0), .ob 64014]), (64014, .arr 108 4 []), (64005, .var [.d (i64 p), .d (i64 3), .ob 64015]), (64015, .arr 108 4 (terms ts))]⟩
abbrev vanS (p i k : Int) (ts : List Tm) : St := ⟨[(0, .c (.d (i64 p))), (1, .c (.d (i64 3))), (4, .c (.ref 64004 0)), (5, .c (.ref 64005 0)), (6, .c (.d (i64 i))), (7, .c (.d (i64 k)))],
  [(64004, .var [.d (i64 0), .d (i64 0), .ob 64014]), (64014, .arr 108 4 []), (64005, .var [.d (i64 p), .d (i64 3), .ob 64015]), (64015, .arr 108 4 (terms ts))]⟩

set_option maxHeartbeats 1000000 in
set_option maxRecDepth 4000 in
theorem vandermonde_ok (p d : Int) (hp : Pr p) (hd : 1 ≤ d ∧ d ≤ 3) : CallOK Go.Proofs.Try.prog 89 [.one (i64 p), .one (i64 d)] (po p d (vanT p d)) := by
  have hF := fnOk 37 [.cell 4 39]
  refine callOK hF 60 Go.Proofs.Try.func89 rfl rfl rfl (by decide) (by simp) rfl ?_
  intro w0 hw
  have S := @vc_sound w0 _ hF ⟨(po p d (vanT p d)), []⟩ Go.Proofs.Try.f89 rfl (by simp)
  have hpp := hp.pos
  have c0 := constant_ok p d 1 (by omega) (by omega)
  rw [mono_sum (by omega)] at c0
  have l0 := letter_ok p d 0 (by omega) (by omega) (by omega)
  have l1 := letter_ok p d 1 (by omega) (by omega) (by omega)
  have l2 := letter_ok p d 2 (by omega) (by omega) (by omega)
  rw [mono_sum (by omega)] at l0 l1 l2
  have f01 := add_ok p d p d (p - 1) (mono p (unE 0) 1) (mono p (unE 1) 1) (by omega) (by omega) (mono_can (by omega) _ _) (mono_can (by omega) _ _) (Nat.le_trans (mono_len _ _ _) (by omega)) (Nat.le_trans (mono_len _ _ _) (by omega)) (by omega) (by omega)
  rw [fct_plus hp (by omega)] at f01
  have f02 := add_ok p d p d (p - 1) (mono p (unE 0) 1) (mono p (unE 2) 1) (by omega) (by omega) (mono_can (by omega) _ _) (mono_can (by omega) _ _) (Nat.le_trans (mono_len _ _ _) (by omega)) (Nat.le_trans (mono_len _ _ _) (by omega)) (by omega) (by omega)
  rw [fct_plus hp (by omega)] at f02
  have f12 := add_ok p d p d (p - 1) (mono p (unE 1) 1) (mono p (unE 2) 1) (by omega) (by omega) (mono_can (by omega) _ _) (mono_can (by omega) _ _) (Nat.le_trans (mono_len _ _ _) (by omega)) (Nat.le_trans (mono_len _ _ _) (by omega)) (by omega) (by omega)
  rw [fct_plus hp (by omega)] at f12
  have m1 := mul_ok p d p d (van1 p) (fct p 0 1) (by omega) (by omega) (van1_ok (by omega)).1 (fct_can (by omega) _ _) (Nat.le_trans (van1_ok (by omega)).2 (by omega)) (Nat.le_trans (fct_len _ _ _) (by omega))
  have m2 := mul_ok p d p d (van2 p) (fct p 0 2) (by omega) (by omega) (van2_ok (by omega)).1 (fct_can (by omega) _ _) (Nat.le_trans (van2_ok (by omega)).2 (by omega)) (Nat.le_trans (fct_len _ _ _) (by omega))
  have m3 := mul_ok p d p d (van3 p) (fct p 1 2) (by omega) (by omega) (van3_ok (by omega)).1 (fct_can (by omega) _ _) (Nat.le_trans (van3_ok (by omega)).2 (by omega)) (Nat.le_trans (fct_len _ _ _) (by omega))
  rw [show mono p ⟨0, 0, 0⟩ 1 = van1 p from rfl] at c0
  rw [show mulT p (van1 p) (fct p 0 1) = van2 p from rfl] at m1
  rw [show mulT p (van2 p) (fct p 0 2) = van3 p from rfl] at m2
  rw [show mulT p (van3 p) (fct p 1 2) = van4 p from rfl] at m3
  generalize mono p (unE 0) 1 = x0 at *
  generalize mono p (unE 1) 1 = x1 at *
  generalize mono p (unE 2) 1 = x2 at *
  generalize fct p 0 1 = y1 at *
  generalize fct p 0 2 = y2 at *
  generalize fct p 1 2 = y3 at *
  have hd' : d = 1 ∨ d = 2 ∨ d = 3 := by omega
  have hw1 : IntKind.i64.wrap (p - 1) = p - 1 := wrap64 (by omega) (by omega)
  rcases hd' with rfl | rfl | rfl <;> simp only [vanT] at S ⊢ <;> simp at S ⊢
  all_goals
    refine CallW.ok (by decide) (by simp) c0 (by simp) (S 60 _ _ ?_)
    simp
    refine J.rounds 4 (LpW.step (S 60 _ _ ?_))
    simp
    refine J.rounds 4 (LpW.step (S 60 _ _ ?_))
    simp
  · refine LpW.inv (LpW.step (S 60 _ _ ?_))
    simp
  · refine J.dr hF mixed 12 [[], [], [], [], [1, 2, 3], [], [], [], [1, 2, 3, 4, 5, 6, 7], [], [9], [1, 2, 3, 4, 5, 6, 7, 8, 9, 10], [0, 1, 2, 3, 4, 5, 6, 7, 8, 9, 10, 11], [0, 1, 2, 3, 4, 5, 6, 7, 8, 9, 10, 11, 12]] [[22, 23, 24, 25, 26, 27, 28, 29, 30, 31, 32, 33], [22, 23, 24, 25, 26, 27, 28, 29, 30, 31, 32, 33], [22, 23, 24, 25, 26, 27, 28, 29, 30, 31, 32, 33], [22, 23, 24, 25, 26, 27, 28, 29, 30, 31, 32, 33], [22, 26, 27, 28, 29, 30, 31, 32, 33], [22, 23, 24, 25, 26, 27, 28, 29, 30, 31, 32, 33], [22, 23, 24, 25, 26, 27, 28, 29, 30, 31, 32, 33], [22, 23, 24, 25, 26, 27, 28, 29, 30, 31, 32, 33], [22, 30, 31, 32, 33], [22, 23, 24, 25, 26, 27, 28, 29, 30, 31, 32, 33], [22, 23, 24, 25, 26, 27, 28, 29, 30, 32, 33], [22, 33]] (by decide) ?_
    simp
    refine DrC.ok hF (by rfl) (by simp) l0 (by simp) (by simp) ?_
    simp [hw1]
    refine DrC.ok hF (by rfl) (by simp) l1 (by simp) (by simp) ?_
    simp [hw1]
    refine DrC.ok hF (by rfl) (by simp) f01 (by simp) (by simp) ?_
    simp
    refine S 60 _ _ ?_
    simp
    refine CallW.ok (by decide) (by simp) m1 (by simp) (S 60 _ _ ?_)
    simp
    refine LpW.inv (LpW.step (S 60 _ _ ?_))
    simp
    refine LpW.inv (LpW.step (S 60 _ _ ?_))
    simp
    refine J.rounds 4 (LpW.step (S 60 _ _ ?_))
    simp
    refine LpW.inv (LpW.step (S 60 _ _ ?_))
    simp
  · refine J.dr hF mixed 12 [[], [], [], [], [1, 2, 3], [], [], [], [1, 2, 3, 4, 5, 6, 7], [], [9], [1, 2, 3, 4, 5, 6, 7, 8, 9, 10], [0, 1, 2, 3, 4, 5, 6, 7, 8, 9, 10, 11], [0, 1, 2, 3, 4, 5, 6, 7, 8, 9, 10, 11, 12]] [[22, 23, 24, 25, 26, 27, 28, 29, 30, 31, 32, 33], [22, 23, 24, 25, 26, 27, 28, 29, 30, 31, 32, 33], [22, 23, 24, 25, 26, 27, 28, 29, 30, 31, 32, 33], [22, 23, 24, 25, 26, 27, 28, 29, 30, 31, 32, 33], [22, 26, 27, 28, 29, 30, 31, 32, 33], [22, 23, 24, 25, 26, 27, 28, 29, 30, 31, 32, 33], [22, 23, 24, 25, 26, 27, 28, 29, 30, 31, 32, 33], [22, 23, 24, 25, 26, 27, 28, 29, 30, 31, 32, 33], [22, 30, 31, 32, 33], [22, 23, 24, 25, 26, 27, 28, 29, 30, 31, 32, 33], [22, 23, 24, 25, 26, 27, 28, 29, 30, 32, 33], [22, 33]] (by decide) ?_
    simp
    refine DrC.ok hF (by rfl) (by simp) l0 (by simp) (by simp) ?_
    simp [hw1]
    refine DrC.ok hF (by rfl) (by simp) l1 (by simp) (by simp) ?_
    simp [hw1]
    refine DrC.ok hF (by rfl) (by simp) f01 (by simp) (by simp) ?_
    simp
    refine S 60 _ _ ?_
    simp
    refine CallW.ok (by decide) (by simp) m1 (by simp) (S 60 _ _ ?_)
    simp
    refine LpW.inv (LpW.step (J.clean hw (vanI p 0 2 (van2 p)) (by simp) (S 60 _ _ ?_)))
    simp
    refine J.dr hF mixed 12 [[], [], [], [], [1, 2, 3], [], [], [], [1, 2, 3, 4, 5, 6, 7], [], [9], [1, 2, 3, 4, 5, 6, 7, 8, 9, 10], [0, 1, 2, 3, 4, 5, 6, 7, 8, 9, 10, 11], [0, 1, 2, 3, 4, 5, 6, 7, 8, 9, 10, 11, 12]] [[22, 23, 24, 25, 26, 27, 28, 29, 30, 31, 32, 33], [22, 23, 24, 25, 26, 27, 28, 29, 30, 31, 32, 33], [22, 23, 24, 25, 26, 27, 28, 29, 30, 31, 32, 33], [22, 23, 24, 25, 26, 27, 28, 29, 30, 31, 32, 33], [22, 26, 27, 28, 29, 30, 31, 32, 33], [22, 23, 24, 25, 26, 27, 28, 29, 30, 31, 32, 33], [22, 23, 24, 25, 26, 27, 28, 29, 30, 31, 32, 33], [22, 23, 24, 25, 26, 27, 28, 29, 30, 31, 32, 33], [22, 30, 31, 32, 33], [22, 23, 24, 25, 26, 27, 28, 29, 30, 31, 32, 33], [22, 23, 24, 25, 26, 27, 28, 29, 30, 32, 33], [22, 33]] (by decide) ?_
    simp
    refine DrC.ok hF (by rfl) (by simp) l0 (by simp) (by simp) ?_
    simp [hw1]
    refine DrC.ok hF (by rfl) (by simp) l2 (by simp) (by simp) ?_
    simp [hw1]
    refine DrC.ok hF (by rfl) (by simp) f02 (by simp) (by simp) ?_
    simp
    refine S 60 _ _ ?_
    simp
    refine CallW.ok (by decide) (by simp) m2 (by simp) (S 60 _ _ ?_)
    simp
    refine LpW.inv (LpW.step (S 60 _ _ ?_))
    simp
    refine LpW.inv (LpW.step (S 60 _ _ ?_))
    simp
    refine J.rounds 4 (LpW.step (J.clean hw (vanI p 1 2 (van3 p)) (by simp) (S 60 _ _ ?_)))
    simp
    refine J.dr hF mixed 12 [[], [], [], [], [1, 2, 3], [], [], [], [1, 2, 3, 4, 5, 6, 7], [], [9], [1, 2, 3, 4, 5, 6, 7, 8, 9, 10], [0, 1, 2, 3, 4, 5, 6, 7, 8, 9, 10, 11], [0, 1, 2, 3, 4, 5, 6, 7, 8, 9, 10, 11, 12]] [[22, 23, 24, 25, 26, 27, 28, 29, 30, 31, 32, 33], [22, 23, 24, 25, 26, 27, 28, 29, 30, 31, 32, 33], [22, 23, 24, 25, 26, 27, 28, 29, 30, 31, 32, 33], [22, 23, 24, 25, 26, 27, 28, 29, 30, 31, 32, 33], [22, 26, 27, 28, 29, 30, 31, 32, 33], [22, 23, 24, 25, 26, 27, 28, 29, 30, 31, 32, 33], [22, 23, 24, 25, 26, 27, 28, 29, 30, 31, 32, 33], [22, 23, 24, 25, 26, 27, 28, 29, 30, 31, 32, 33], [22, 30, 31, 32, 33], [22, 23, 24, 25, 26, 27, 28, 29, 30, 31, 32, 33], [22, 23, 24, 25, 26, 27, 28, 29, 30, 32, 33], [22, 33]] (by decide) ?_
    simp
    refine DrC.ok hF (by rfl) (by simp) l1 (by simp) (by simp) ?_
    simp [hw1]
    refine DrC.ok hF (by rfl) (by simp) l2 (by simp) (by simp) ?_
    simp [hw1]
    refine DrC.ok hF (by rfl) (by simp) f12 (by simp) (by simp) ?_
    simp
    refine S 60 _ _ ?_
    simp
    refine CallW.ok (by decide) (by simp) m3 (by simp) (S 60 _ _ ?_)
    simp
    refine LpW.inv (LpW.step (S 60 _ _ ?_))
    simp
    refine LpW.inv (LpW.step (S 60 _ _ ?_))
    simp
    refine J.rounds 4 (LpW.step (S 60 _ _ ?_))
    simp
    refine LpW.inv (LpW.step (S 60 _ _ ?_))
    simp

set_option maxHeartbeats 1000000 in
set_option maxRecDepth 4000 in
theorem l08Vandermonde_ok (p d : Int) (hp : Pr p) (hd : 1 ≤ d ∧ d ≤ 3) : CallOK Go.Proofs.Try.prog 88 [.one (i64 p), .one (i64 d)] (po p d (vanT p d)) := by
  have hF := fnOk 45 [.cell 4 39]
  refine callOK hF 60 Go.Proofs.Try.func88 rfl rfl rfl (by decide) (by simp) rfl ?_
  intro w0 hw
  have S := @vc_sound w0 _ hF ⟨(po p d (vanT p d)), []⟩ Go.Proofs.Try.f88 rfl (by simp)
  have hpp := hp.pos
  have c0 := l01One_ok p d ⟨0, 0, 0⟩ 1 (by omega) (by omega) (by omega) (by omega)
  have l0 := l01One_ok p d (unE 0) 1 (by omega) (by omega) (by omega) (by omega)
  have l1 := l01One_ok p d (unE 1) 1 (by omega) (by omega) (by omega) (by omega)
  have l2 := l01One_ok p d (unE 2) 1 (by omega) (by omega) (by omega) (by omega)
  have e0 := l08Letter_ok 0 (by omega)
  have e1 := l08Letter_ok 1 (by omega)
  have e2 := l08Letter_ok 2 (by omega)
  have b01 := coef_bound (show 0 < p by omega) (mono_can (show 0 < p by omega) (unE 0) 1) (unE 1)
  have f01 := l01Put_ok p d (mono p (unE 0) 1) (unE 1) (p - 1) (Nat.le_trans (mono_len _ _ _) (by omega)) (by omega) (by omega) (by omega) (by omega)
  rw [show putT p (mono p (unE 0) 1) (unE 1) (p - 1) = fct p 0 1 from rfl] at f01
  have b02 := coef_bound (show 0 < p by omega) (mono_can (show 0 < p by omega) (unE 0) 1) (unE 2)
  have f02 := l01Put_ok p d (mono p (unE 0) 1) (unE 2) (p - 1) (Nat.le_trans (mono_len _ _ _) (by omega)) (by omega) (by omega) (by omega) (by omega)
  rw [show putT p (mono p (unE 0) 1) (unE 2) (p - 1) = fct p 0 2 from rfl] at f02
  have b12 := coef_bound (show 0 < p by omega) (mono_can (show 0 < p by omega) (unE 1) 1) (unE 2)
  have f12 := l01Put_ok p d (mono p (unE 1) 1) (unE 2) (p - 1) (Nat.le_trans (mono_len _ _ _) (by omega)) (by omega) (by omega) (by omega) (by omega)
  rw [show putT p (mono p (unE 1) 1) (unE 2) (p - 1) = fct p 1 2 from rfl] at f12
  rw [show putT p [] ⟨0, 0, 0⟩ 1 = mono p ⟨0, 0, 0⟩ 1 from rfl] at c0
  rw [show putT p [] (unE 0) 1 = mono p (unE 0) 1 from rfl] at l0
  rw [show putT p [] (unE 1) 1 = mono p (unE 1) 1 from rfl] at l1
  rw [show putT p [] (unE 2) 1 = mono p (unE 2) 1 from rfl] at l2
  have g1 := deg_fct hp (i := 0) (k := 1) (by omega)
  have h1 := deg_van1 hp
  have m1 := l01Times_ok p d p d (van1 p) (fct p 0 1) (by omega) (by omega) (van1_ok (by omega)).1 (fct_can (by omega) _ _) (Nat.le_trans (van1_ok (by omega)).2 (by omega)) (Nat.le_trans (fct_len _ _ _) (by omega)) h1.2 g1.2 (by omega) (by omega) (by omega) (by omega) (by omega)
  have g2 := deg_fct hp (i := 0) (k := 2) (by omega)
  have h2 := deg_van2 hp
  have m2 := l01Times_ok p d p d (van2 p) (fct p 0 2) (by omega) (by omega) (van2_ok (by omega)).1 (fct_can (by omega) _ _) (Nat.le_trans (van2_ok (by omega)).2 (by omega)) (Nat.le_trans (fct_len _ _ _) (by omega)) h2.2 g2.2 (by omega) (by omega) (by omega) (by omega) (by omega)
  have g3 := deg_fct hp (i := 1) (k := 2) (by omega)
  have h3 := deg_van3 hp
  have m3 := l01Times_ok p d p d (van3 p) (fct p 1 2) (by omega) (by omega) (van3_ok (by omega)).1 (fct_can (by omega) _ _) (Nat.le_trans (van3_ok (by omega)).2 (by omega)) (Nat.le_trans (fct_len _ _ _) (by omega)) h3.2 g3.2 (by omega) (by omega) (by omega) (by omega) (by omega)
  rw [show mono p ⟨0, 0, 0⟩ 1 = van1 p from rfl] at c0
  rw [show mulT p (van1 p) (fct p 0 1) = van2 p from rfl] at m1
  rw [show mulT p (van2 p) (fct p 0 2) = van3 p from rfl] at m2
  rw [show mulT p (van3 p) (fct p 1 2) = van4 p from rfl] at m3
  generalize mono p (unE 0) 1 = x0 at *
  generalize mono p (unE 1) 1 = x1 at *
  generalize mono p (unE 2) 1 = x2 at *
  generalize fct p 0 1 = y1 at *
  generalize fct p 0 2 = y2 at *
  generalize fct p 1 2 = y3 at *
  have hd' : d = 1 ∨ d = 2 ∨ d = 3 := by omega
  have hw1 : IntKind.i64.wrap (p - 1) = p - 1 := wrap64 (by omega) (by omega)
  rcases hd' with rfl | rfl | rfl <;> simp only [vanT] at S ⊢ <;> simp at S ⊢
  all_goals
    refine CallW.ok (by decide) (by simp) c0 (by simp) (S 60 _ _ ?_)
    simp
    refine J.rounds 4 (LpW.step (S 60 _ _ ?_))
    simp
    refine J.rounds 4 (LpW.step (S 60 _ _ ?_))
    simp
  · refine LpW.inv (LpW.step (S 60 _ _ ?_))
    simp
  · refine CallW.ok (by decide) (by simp) e0 (by simp) (S 60 _ _ ?_)
    simp [hw1]
    refine CallW.ok (by decide) (by simp) l0 (by simp) (S 60 _ _ ?_)
    simp [hw1]
    refine CallW.ok (by decide) (by simp) e1 (by simp) (S 60 _ _ ?_)
    simp [hw1]
    refine CallW.ok (by decide) (by simp) f01 (by simp) (S 60 _ _ ?_)
    simp [hw1]
    refine CallW.ok (by decide) (by simp) m1 (by simp) (S 60 _ _ ?_)
    simp [hw1]
    refine LpW.inv (LpW.step (S 60 _ _ ?_))
    simp
    refine LpW.inv (LpW.step (S 60 _ _ ?_))
    simp
    refine J.rounds 4 (LpW.step (S 60 _ _ ?_))
    simp
    refine LpW.inv (LpW.step (S 60 _ _ ?_))
    simp
  · refine CallW.ok (by decide) (by simp) e0 (by simp) (S 60 _ _ ?_)
    simp [hw1]
    refine CallW.ok (by decide) (by simp) l0 (by simp) (S 60 _ _ ?_)
    simp [hw1]
    refine CallW.ok (by decide) (by simp) e1 (by simp) (S 60 _ _ ?_)
    simp [hw1]
    refine CallW.ok (by decide) (by simp) f01 (by simp) (S 60 _ _ ?_)
    simp [hw1]
    refine CallW.ok (by decide) (by simp) m1 (by simp) (S 60 _ _ ?_)
    simp [hw1]
    refine LpW.inv (LpW.step (J.clean hw (vanS p 0 2 (van2 p)) (by simp) (S 60 _ _ ?_)))
    simp
    refine CallW.ok (by decide) (by simp) e0 (by simp) (S 60 _ _ ?_)
    simp [hw1]
    refine CallW.ok (by decide) (by simp) l0 (by simp) (S 60 _ _ ?_)
    simp [hw1]
    refine CallW.ok (by decide) (by simp) e2 (by simp) (S 60 _ _ ?_)
    simp [hw1]
    refine CallW.ok (by decide) (by simp) f02 (by simp) (S 60 _ _ ?_)
    simp [hw1]
    refine CallW.ok (by decide) (by simp) m2 (by simp) (S 60 _ _ ?_)
    simp [hw1]
    refine LpW.inv (LpW.step (S 60 _ _ ?_))
    simp
    refine LpW.inv (LpW.step (S 60 _ _ ?_))
    simp
    refine J.rounds 4 (LpW.step (J.clean hw (vanS p 1 2 (van3 p)) (by simp) (S 60 _ _ ?_)))
    simp
    refine CallW.ok (by decide) (by simp) e1 (by simp) (S 60 _ _ ?_)
    simp [hw1]
    refine CallW.ok (by decide) (by simp) l1 (by simp) (S 60 _ _ ?_)
    simp [hw1]
    refine CallW.ok (by decide) (by simp) e2 (by simp) (S 60 _ _ ?_)
    simp [hw1]
    refine CallW.ok (by decide) (by simp) f12 (by simp) (S 60 _ _ ?_)
    simp [hw1]
    refine CallW.ok (by decide) (by simp) m3 (by simp) (S 60 _ _ ?_)
    simp [hw1]
    refine LpW.inv (LpW.step (S 60 _ _ ?_))
    simp
    refine LpW.inv (LpW.step (S 60 _ _ ?_))
    simp
    refine J.rounds 4 (LpW.step (S 60 _ _ ?_))
    simp
    refine LpW.inv (LpW.step (S 60 _ _ ?_))
    simp

def vandR (p d : Int) : RV := if Pr p ∧ 1 ≤ d ∧ d ≤ 3 then pres p d (vanT p d) 0 else pres 0 0 [] 2
theorem vanT_ok {p : Int} (hp : 0 < p) (d : Int) : Can p (vanT p d) ∧ (vanT p d).length ≤ 8 := by
  have h1 := van1_ok hp
  have h2 := van2_ok hp
  have h4 := van4_ok hp
  unfold vanT
  split
  · exact ⟨h1.1, by omega⟩
  · split
    · exact ⟨h2.1, by omega⟩
    · exact h4
theorem vandR_small (p d : Int) : PresS (vandR p d) := by
  unfold vandR
  split
  · rename_i h
    have := (vanT_ok (p := p) (by have := h.1.pos; omega) d).2
    exact ⟨_, _, _, _, rfl, by omega⟩
  · exact ⟨_, _, _, _, rfl, by simp⟩

theorem VandermondePoly_ok (p d : Int) : CallOK Go.Proofs.Try.prog 37 [.one (i64 p), .one (i64 d)] (vandR p d) := by
  have hF := fnOk 18 [.cell 4 39, .tmp 5]
  refine callOK hF 60 Go.Proofs.Try.func37 rfl rfl rfl (by decide) (by simp) rfl ?_
  intro w0 hw
  have S := @vc_sound w0 _ hF ⟨(vandR p d), []⟩ Go.Proofs.Try.f37 rfl (by simp)
  have c1 := isPrime_ok p
  have c2 := isVars_ok d
  by_cases hp : Pr p
  · rw [decide_eq_true hp] at c1
    by_cases hd : 1 ≤ d ∧ d ≤ 3
    · rw [decide_eq_true hd] at c2
      have e : vandR p d = pres p d (vanT p d) 0 := by unfold vandR; rw [if_pos ⟨hp, hd⟩]
      rw [e] at S ⊢
      have c3 := vandermonde_ok p d hp hd
      simp
      refine CallW.ok (by decide) (by simp) c1 (by simp) (S 60 _ _ ?_)
      simp
      refine CallW.ok (by decide) (by simp) c2 (by simp) (S 60 _ _ ?_)
      simp
      refine CallW.ok (by decide) (by simp) c3 (by simp) (S 60 _ _ ?_)
      simp
    · rw [decide_eq_false hd] at c2
      have e : vandR p d = pres 0 0 [] 2 := by unfold vandR; rw [if_neg (fun h => hd h.2)]
      rw [e] at S ⊢
      simp
      refine CallW.ok (by decide) (by simp) c1 (by simp) (S 60 _ _ ?_)
      simp
      refine CallW.ok (by decide) (by simp) c2 (by simp) (S 60 _ _ ?_)
      simp
  · rw [decide_eq_false hp] at c1
    have e : vandR p d = pres 0 0 [] 2 := by unfold vandR; rw [if_neg (fun h => hp h.1)]
    rw [e] at S ⊢
    simp
    refine CallW.ok (by decide) (by simp) c1 (by simp) (S 60 _ _ ?_)
    simp

theorem specVandermondePoly_ok (p d : Int) : CallOK Go.Proofs.Try.prog 36 [.one (i64 p), .one (i64 d)] (vandR p d) := by
  have hF := fnOk 14 [.cell 4 39, .tmp 5]
  refine callOK hF 60 Go.Proofs.Try.func36 rfl rfl rfl (by decide) (by simp) rfl ?_
  intro w0 hw
  have S := @vc_sound w0 _ hF ⟨(vandR p d), []⟩ Go.Proofs.Try.f36 rfl (by simp)
  have c1 := l08Shape_ok p d
  by_cases hp : Pr p ∧ 1 ≤ d ∧ d ≤ 3
  · have e : vandR p d = pres p d (vanT p d) 0 := by unfold vandR; rw [if_pos hp]
    rw [e] at S ⊢
    rw [decide_eq_true hp] at c1
    have c3 := l08Vandermonde_ok p d hp.1 hp.2
    simp
    refine CallW.ok (by decide) (by simp) c1 (by simp) (S 60 _ _ ?_)
    simp
    refine CallW.ok (by decide) (by simp) c3 (by simp) (S 60 _ _ ?_)
    simp
  · have e : vandR p d = pres 0 0 [] 2 := by unfold vandR; rw [if_neg hp]
    rw [e] at S ⊢
    rw [decide_eq_false hp] at c1
    simp
    refine CallW.ok (by decide) (by simp) c1 (by simp) (S 60 _ _ ?_)
    simp

end Go.Sm

namespace Go.Sm
open Go.RowKit

def TmOk (p d : Int) (t : Tm) : Prop := InV d t.e ∧ 1 ≤ t.v ∧ t.v < p
instance (p d : Int) (t : Tm) : Decidable (TmOk p d t) := by unfold TmOk; infer_instance
/-- A polynomial. -/
def GoodP (p d : Int) (ts : List Tm) : Prop := Pr p ∧ (1 ≤ d ∧ d ≤ 3) ∧ (∀ t ∈ ts, TmOk p d t) ∧ Asc ts
noncomputable instance (p d : Int) (ts : List Tm) : Decidable (GoodP p d ts) := Classical.propDecidable _

/-- What is asked of a term at its place. -/
def StepOk (p d : Int) (ts : List Tm) (i : Nat) : Prop := ∀ t, ts[i]? = some t → TmOk p d t ∧ ∀ j u, i = j + 1 → ts[j]? = some u → cmpE u.e t.e < 0
theorem cmpE_trans {x y z : Ex} (h1 : cmpE x y < 0) (h2 : cmpE y z < 0) : cmpE x z < 0 := by
  rw [cmpE_key] at *; omega
theorem asc_adj {ts : List Tm} (h : ∀ i t u, ts[i + 1]? = some t → ts[i]? = some u → cmpE u.e t.e < 0) : Asc ts := by
  induction ts with
  | nil => exact List.Pairwise.nil
  | cons x ts ih =>
    have ih := ih fun i t u h1 h2 => h (i + 1) t u (by simpa using h1) (by simpa using h2)
    refine List.pairwise_cons.2 ⟨fun y hy => ?_, ih⟩
    cases ts with
    | nil => cases hy
    | cons z ts =>
      have hz := h 0 z x (by simp) (by simp)
      rcases List.mem_cons.1 hy with rfl | hy
      · exact hz
      · exact cmpE_trans hz ((List.pairwise_cons.1 ih).1 y hy)
theorem asc_get {ts : List Tm} (h : Asc ts) {i j : Nat} {t u : Tm} (ht : ts[i]? = some t) (hu : ts[j]? = some u) (hij : i < j) : cmpE t.e u.e < 0 := by
  obtain ⟨h1, rfl⟩ := List.getElem?_eq_some_iff.1 ht
  obtain ⟨h2, rfl⟩ := List.getElem?_eq_some_iff.1 hu
  exact List.pairwise_iff_getElem.1 h i j h1 h2 hij
theorem goodP_iff {p d : Int} {ts : List Tm} (hp : Pr p) (hd : 1 ≤ d ∧ d ≤ 3) : GoodP p d ts ↔ ∀ i < ts.length, StepOk p d ts i := by
  constructor
  · rintro ⟨_, _, h3, h4⟩ i _ t ht
    refine ⟨h3 t (List.mem_of_getElem? ht), fun j u hj hu => ?_⟩
    exact asc_get h4 hu ht (by omega)
  · intro h
    refine ⟨hp, hd, fun t ht => ?_, asc_adj fun i t u h1 h2 => ?_⟩
    · obtain ⟨i, hi, rfl⟩ := List.getElem_of_mem ht
      exact (h i hi _ (List.getElem?_eq_getElem hi)).1
    · have hi := (List.getElem?_eq_some_iff.1 h1).1
      exact (h (i + 1) hi t h1).2 i u rfl h2
theorem goodP_false {p d : Int} {ts : List Tm} {i : Nat} {t : Tm} (ht : ts[i]? = some t) (h : ¬ TmOk p d t) : ¬ GoodP p d ts := fun hg => h (hg.2.2.1 t (List.mem_of_getElem? ht))
theorem goodP_false2 {p d : Int} {ts : List Tm} {i j : Nat} {t u : Tm} (ht : ts[i]? = some t) (hu : ts[j]? = some u) (hj : i = j + 1) (h : ¬ cmpE u.e t.e < 0) : ¬ GoodP p d ts := fun hg => h (asc_get hg.2.2.2 hu ht (by omega))
theorem goodP_can {p d : Int} {ts : List Tm} (h : GoodP p d ts) : Can p ts := ⟨h.2.2.2, fun t ht => (h.2.2.1 t ht).2⟩

/-- All monomials. -/
def allE : List Ex := (List.range 13).flatMap fun a => (List.range 13).flatMap fun b => ((List.range 13).filter fun c => a + b + c ≤ 12).map fun c => ⟨UInt8.ofNat a, UInt8.ofNat b, UInt8.ofNat c⟩
theorem allE_length : allE.length = 455 := by decide +kernel
theorem allE_mem {d : Int} {e : Ex} (h : InV d e) : e ∈ allE := by
  obtain ⟨_, _, h3⟩ := h
  unfold Ex.deg at h3
  refine List.mem_flatMap.2 ⟨e.a.toNat, List.mem_range.2 (by omega), List.mem_flatMap.2 ⟨e.b.toNat, List.mem_range.2 (by omega), List.mem_map.2 ⟨e.c.toNat, List.mem_filter.2 ⟨List.mem_range.2 (by omega), by simp; omega⟩, ?_⟩⟩⟩
  cases e; simp
theorem nodup_subset {α : Type} [DecidableEq α] : ∀ {xs ys : List α}, xs.Nodup → (∀ x ∈ xs, x ∈ ys) → xs.length ≤ ys.length
  | [], _, _, _ => by simp
  | x :: xs, ys, hn, hs => by
    obtain ⟨h1, h2⟩ := List.nodup_cons.1 hn
    have hx := hs x (List.mem_cons_self ..)
    have := nodup_subset (ys := ys.erase x) h2 fun z hz => (List.mem_erase_of_ne (fun e => h1 (by rw [← e]; exact hz))).2 (hs z (List.mem_cons_of_mem _ hz))
    rw [List.length_erase_of_mem hx] at this
    have hp := List.length_pos_of_mem hx
    simp only [List.length_cons]; omega
theorem goodP_len {p d : Int} {ts : List Tm} (h : GoodP p d ts) : ts.length ≤ 455 := by
  have h1 := nodup_subset (ys := allE) (asc_nodup h.2.2.2) fun e he => by
    obtain ⟨t, ht, rfl⟩ := List.mem_map.1 he
    exact allE_mem (h.2.2.1 t ht).1
  rw [allE_length, List.length_map] at h1
  exact h1

set_option maxHeartbeats 2000000 in
set_option maxRecDepth 4000 in
theorem IsPoly_ok (p d : Int) (ts : List Tm) (hl : ts.length ≤ 1048576) : CallOK Go.Proofs.Try.prog 96 [pv p d ts] (.one (bo (decide (GoodP p d ts)))) := by
  have hF := fnOk 69 [.tmp 2]
  refine callOK hF 60 Go.Proofs.Try.func96 rfl rfl rfl (by decide) (by simp) rfl ?_
  intro w0 hw
  have S := @vc_sound w0 _ hF ⟨(.one (bo (decide (GoodP p d ts)))), []⟩ Go.Proofs.Try.f96 rfl (by simp)
  have c1 := isPrime_ok p
  have c2 := isVars_ok d
  generalize hb : decide (GoodP p d ts) = b at S ⊢
  by_cases hp : Pr p
  · rw [decide_eq_true hp] at c1
    by_cases hd : 1 ≤ d ∧ d ≤ 3
    · rw [decide_eq_true hd] at c2
      simp
      refine CallW.ok (by decide) (by simp) c1 (by simp) (S 60 _ _ ?_)
      simp
      refine CallW.ok (by decide) (by simp) c2 (by simp) (S 60 _ _ ?_)
      simp
      refine J.loop hw (fun i : Nat => ⟨[(1, .c (.ref 64001 0)), (2, .c (.d (bo false))), (17, .c (.d (vTerms ts))), (18, .c (.d (i64 ts.length))), (19, .c (.d (i64 i)))], [(64001, .var [.d (i64 p), .d (i64 d), .d (vTerms ts)])]⟩)
        (fun i => i ≤ ts.length ∧ ∀ j < i, StepOk p d ts j) (fun i => ts.length - i) 0 (by simp) (by simp) ?_
      rintro i ⟨hi, hall⟩
      refine S 8 _ _ ?_
      simp
      refine ⟨fun hlt => ?_, fun hge => ?_⟩
      · obtain ⟨t, ht⟩ : ∃ t, ts[i]? = some t := ⟨ts[i], List.getElem?_eq_getElem hlt⟩
        have c3 := degree_ok t.e
        refine S 6 _ _ ?_
        simp
        refine ⟨hlt, fun x hx => ?_⟩
        obtain rfl : t = x := Option.some.inj (ht.symm.trans hx)
        clear hx
        refine S 60 _ _ ?_
        simp
        refine J.dr hF mixed 29 [[], [0], [0, 1], [0, 1, 2], [0, 1, 2, 3], [0, 1, 2, 3, 4], [0, 1, 2, 3, 4, 5], [0, 1, 2, 3, 4, 5, 6], [0, 1, 2, 3, 4, 5, 6, 7], [0, 1, 2, 3, 4, 5, 6, 7, 8], [0, 1, 2, 3, 4, 5, 6, 7, 8, 9], [0, 1, 2, 3, 4, 5, 6, 7, 8, 9, 10], [0, 1, 2, 3, 4, 5, 6, 7, 8, 9], [0, 1, 2, 3, 4, 5, 6, 7, 8, 9, 12], [0, 1, 2, 3, 4, 5, 6, 7, 8, 9, 10, 11, 12, 13], [0, 1, 2, 3, 4, 5, 6, 7, 8, 9, 10, 11, 12, 13, 14], [0, 1, 2, 3, 4, 5, 6, 7, 8, 9, 10, 11, 12, 13, 14, 15], [0, 1, 2, 3, 4, 5, 6, 7, 8, 9, 10, 11, 12, 13, 14, 15, 16], [0, 1, 2, 3, 4, 5, 6, 7, 8, 9, 10, 11, 12, 13, 14, 15, 16, 17], [0, 1, 2, 3, 4, 5, 6, 7, 8, 9, 10, 11, 12, 13, 14, 15, 16, 17, 18], [0, 1, 2, 3, 4, 5, 6, 7, 8, 9, 10, 11, 12, 13, 14, 15, 16, 17, 18, 19], [0, 1, 2, 3, 4, 5, 6, 7, 8, 9, 10, 11, 12, 13, 14, 15, 16, 17, 18, 19, 20], [0, 1, 2, 3, 4, 5, 6, 7, 8, 9, 10, 11, 12, 13, 14, 15, 16, 17, 18, 19], [0, 1, 2, 3, 4, 5, 6, 7, 8, 9, 10, 11, 12, 13, 14, 15, 16, 17, 18, 19, 22], [0, 1, 2, 3, 4, 5, 6, 7, 8, 9, 10, 11, 12, 13, 14, 15, 16, 17, 18, 19, 20, 21, 22, 23], [0, 1, 2, 3, 4, 5, 6, 7, 8, 9, 10, 11, 12, 13, 14, 15, 16, 17, 18, 19, 20, 21, 22, 23, 24], [0, 1, 2, 3, 4, 5, 6, 7, 8, 9, 10, 11, 12, 13, 14, 15, 16, 17, 18, 19, 20, 21, 22, 23, 24, 25], [0, 1, 2, 3, 4, 5, 6, 7, 8, 9, 10, 11, 12, 13, 14, 15, 16, 17, 18, 19], [0, 1, 2, 3, 4, 5, 6, 7, 8, 9, 10, 11, 12, 13, 14, 15, 16, 17, 18, 19, 27], [0, 1, 2, 3, 4, 5, 6, 7, 8, 9, 10, 11, 12, 13, 14, 15, 16, 17, 18, 19, 20, 21, 22, 23, 24, 25, 26, 27, 28], [0, 1, 2, 3, 4, 5, 6, 7, 8, 9, 10, 11, 12, 13, 14, 15, 16, 17, 18, 19, 20, 21, 22, 23, 24, 25, 26, 27, 28, 29], [0, 1, 2, 3, 4, 5, 6, 7, 8, 9, 10, 11, 12, 13, 14, 15, 16, 17, 18, 19, 20, 21, 22, 23, 24, 25, 26, 27, 28, 29, 30], [0, 1, 2, 3, 4, 5, 6, 7, 8, 9, 10, 11, 12, 13, 14, 15, 16, 17, 18, 19, 20, 21, 22, 23, 24, 25, 26, 27, 28, 29, 30, 31]] [[24, 25, 26, 27, 28, 29, 30, 31, 32, 33, 34, 35, 36, 37, 38, 39, 40, 41, 42, 43, 44, 45, 46, 47, 48, 49, 50, 51, 52], [25, 26, 27, 28, 29, 30, 31, 32, 33, 34, 35, 36, 37, 38, 39, 40, 41, 42, 43, 44, 45, 46, 47, 48, 49, 50, 51, 52], [26, 27, 28, 29, 30, 31, 32, 33, 34, 35, 36, 37, 38, 39, 40, 41, 42, 43, 44, 45, 46, 47, 48, 49, 50, 51, 52], [27, 28, 29, 30, 31, 32, 33, 34, 35, 36, 37, 38, 39, 40, 41, 42, 43, 44, 45, 46, 47, 48, 49, 50, 51, 52], [28, 29, 30, 31, 32, 33, 34, 35, 36, 37, 38, 39, 40, 41, 42, 43, 44, 45, 46, 47, 48, 49, 50, 51, 52], [29, 30, 31, 32, 33, 34, 35, 36, 37, 38, 39, 40, 41, 42, 43, 44, 45, 46, 47, 48, 49, 50, 51, 52], [30, 31, 32, 33, 34, 35, 36, 37, 38, 39, 40, 41, 42, 43, 44, 45, 46, 47, 48, 49, 50, 51, 52], [31, 32, 33, 34, 35, 36, 37, 38, 39, 40, 41, 42, 43, 44, 45, 46, 47, 48, 49, 50, 51, 52], [32, 33, 34, 35, 36, 37, 38, 39, 40, 41, 42, 43, 44, 45, 46, 47, 48, 49, 50, 51, 52], [33, 34, 35, 36, 37, 38, 39, 40, 41, 42, 43, 44, 45, 46, 47, 48, 49, 50, 51, 52], [34, 35, 36, 37, 38, 39, 40, 41, 42, 43, 44, 45, 46, 47, 48, 49, 50, 51, 52], [35, 36, 37, 38, 39, 40, 41, 42, 43, 44, 45, 46, 47, 48, 49, 50, 51, 52], [34, 35, 36, 37, 38, 39, 40, 41, 42, 43, 44, 45, 46, 47, 48, 49, 50, 51, 52], [34, 35, 37, 38, 39, 40, 41, 42, 43, 44, 45, 46, 47, 48, 49, 50, 51, 52], [38, 39, 40, 41, 42, 43, 44, 45, 46, 47, 48, 49, 50, 51, 52], [39, 40, 41, 42, 43, 44, 45, 46, 47, 48, 49, 50, 51, 52], [40, 41, 42, 43, 44, 45, 46, 47, 48, 49, 50, 51, 52], [41, 42, 43, 44, 45, 46, 47, 48, 49, 50, 51, 52], [42, 43, 44, 45, 46, 47, 48, 49, 50, 51, 52], [43, 44, 45, 46, 47, 48, 49, 50, 51, 52], [44, 45, 46, 47, 48, 49, 50, 51, 52], [45, 46, 47, 48, 49, 50, 51, 52], [44, 45, 46, 47, 48, 49, 50, 51, 52], [44, 45, 47, 48, 49, 50, 51, 52], [48, 49, 50, 51, 52], [49, 50, 51, 52], [50, 51, 52], [44, 45, 46, 47, 48, 49, 50, 51, 52], [44, 45, 46, 47, 48, 49, 50, 52]] (by decide) ?_
        simp
        refine DrC.ok hF (by rfl) (by simp) c3 (by simp) (by simp) ?_
        have hb1 : ¬ TmOk p d t → b = false := fun h => by rw [← hb]; simp; exact goodP_false ht h
        by_cases h1 : t.e.deg ≤ 12
        · have k1 : ¬ 12 < t.e.deg := by omega
          by_cases h2 : 1 ≤ t.v
          · have k2 : ¬ t.v < 1 := by omega
            by_cases h3 : t.v < p
            · have k3 : ¬ p ≤ t.v := by omega
              have hstep : (∀ j u, i = j + 1 → ts[j]? = some u → cmpE u.e t.e < 0) → InV d t.e → StepOk p d ts i := fun h h' x hx => by
                obtain rfl : t = x := Option.some.inj (ht.symm.trans hx)
                exact ⟨⟨h', h2, h3⟩, h⟩
              have hnx : StepOk p d ts i → ∀ j < i + 1, StepOk p d ts j := fun h j hj => by
                by_cases e : j = i
                · rw [e]; exact h
                · exact hall j (by omega)
              have hdd : d = 1 ∨ d = 2 ∨ d = 3 := by omega
              have hcase : (i = 0 ∨ ∃ j u, i = j + 1 ∧ ts[j]? = some u ∧ cmpE u.e t.e < 0) ∨ ∃ j u, i = j + 1 ∧ ts[j]? = some u ∧ ¬ cmpE u.e t.e < 0 := by
                by_cases hi0 : i = 0
                · exact .inl (.inl hi0)
                · obtain ⟨j, rfl⟩ : ∃ j, i = j + 1 := ⟨i - 1, by omega⟩
                  obtain ⟨u, hu⟩ : ∃ u, ts[j]? = some u := ⟨ts[j], List.getElem?_eq_getElem (by omega)⟩
                  by_cases h : cmpE u.e t.e < 0
                  · exact .inl (.inr ⟨j, u, rfl, hu, h⟩)
                  · exact .inr ⟨j, u, rfl, hu, h⟩
              rcases hcase with hc | ⟨j, u, rfl, hu, h4⟩
              · have hprev : ∀ j u, i = j + 1 → ts[j]? = some u → cmpE u.e t.e < 0 := by
                  intro j u hj hu
                  rcases hc with rfl | ⟨j', u', rfl, hu', h⟩
                  · omega
                  · have : j' = j := by omega
                    subst this
                    rw [hu] at hu'
                    obtain rfl := Option.some.inj hu'
                    exact h
                rcases hc with rfl | ⟨j, u, rfl, hu, h4⟩
                · simp [k1, k2, k3]
                  refine S 60 _ _ ?_
                  simp
                  refine J.clean hw ⟨[(1, .c (.ref 64001 0)), (2, .c (.d (bo false))), (17, .c (.d (vTerms ts))), (18, .c (.d (i64 ts.length))), (19, .c (.d (i64 (0 : Nat)))), (4, .c (.ref 64004 0)), (5, .c (.d (i64 d)))], [(64001, .var [.d (i64 p), .d (i64 d), .d (vTerms ts)]), (64004, .var [.d (u8 t.e.a), .d (u8 t.e.b), .d (u8 t.e.c), .d (i64 t.v)])]⟩ (by simp) ?_
                  rcases hdd with rfl | rfl | rfl
                  · refine J.rounds 4 (LpW.step (S 60 _ _ ?_))
                    simp
                    refine ⟨fun hz => ?_, fun hz => ?_⟩
                    · have hb2 := hb1 fun h => hz (h.1.1 (by omega))
                      simp [hb2]
                    · refine LpW.inv (LpW.step (S 60 _ _ ?_))
                      simp
                      refine ⟨fun hy => ?_, fun hy => ?_⟩
                      · have hb2 := hb1 fun h => hy (h.1.2.1 (by omega))
                        simp [hb2]
                      · refine LpW.inv (LpW.step (S 60 _ _ ?_))
                        simp
                        exact Nxt.mk (0 + 1) ⟨by omega, hnx (hstep hprev ⟨fun _ => by simp_all, fun _ => by simp_all, h1⟩)⟩ (by simp [wrapS (i := 0) (n := ts.length) hlt (by omega)]) (by omega)
                  · refine J.rounds 4 (LpW.step (S 60 _ _ ?_))
                    simp
                    refine ⟨fun hy => ?_, fun hy => ?_⟩
                    · have hb2 := hb1 fun h => hy (h.1.2.1 (by omega))
                      simp [hb2]
                    · refine LpW.inv (LpW.step (S 60 _ _ ?_))
                      simp
                      exact Nxt.mk (0 + 1) ⟨by omega, hnx (hstep hprev ⟨fun h => absurd h (by omega), fun _ => by simp_all, h1⟩)⟩ (by simp [wrapS (i := 0) (n := ts.length) hlt (by omega)]) (by omega)
                  · refine J.rounds 4 (LpW.step (S 60 _ _ ?_))
                    simp
                    exact Nxt.mk (0 + 1) ⟨by omega, hnx (hstep hprev ⟨fun h => absurd h (by omega), fun h => absurd h (by omega), h1⟩)⟩ (by simp [wrapS (i := 0) (n := ts.length) hlt (by omega)]) (by omega)
                · have c4 := compareExps_ok u.e t.e
                  have hj0 : (0 : Int) < ((j + 1 : Nat) : Int) := by omega
                  have hwj : IntKind.i64.wrap (j : Int) = j := by rw [wrap64] <;> omega
                  have k4 : ¬ 0 ≤ cmpE u.e t.e := by omega
                  simp [k1, k2, k3, hj0, hwj]
                  refine ⟨by omega, fun x hx => ?_⟩
                  obtain rfl : u = x := Option.some.inj (hu.symm.trans hx)
                  refine S 60 _ _ ?_
                  simp
                  refine CallW.ok (by decide) (by simp) c4 (by simp) (S 60 _ _ ?_)
                  simp [k4]
                  refine J.clean hw ⟨[(1, .c (.ref 64001 0)), (2, .c (.d (bo false))), (17, .c (.d (vTerms ts))), (18, .c (.d (i64 ts.length))), (19, .c (.d (i64 (j + 1 : Nat)))), (4, .c (.ref 64004 0)), (5, .c (.d (i64 d)))], [(64001, .var [.d (i64 p), .d (i64 d), .d (vTerms ts)]), (64004, .var [.d (u8 t.e.a), .d (u8 t.e.b), .d (u8 t.e.c), .d (i64 t.v)])]⟩ (by simp) ?_
                  rcases hdd with rfl | rfl | rfl
                  · refine J.rounds 4 (LpW.step (S 60 _ _ ?_))
                    simp
                    refine ⟨fun hz => ?_, fun hz => ?_⟩
                    · have hb2 := hb1 fun h => hz (h.1.1 (by omega))
                      simp [hb2]
                    · refine LpW.inv (LpW.step (S 60 _ _ ?_))
                      simp
                      refine ⟨fun hy => ?_, fun hy => ?_⟩
                      · have hb2 := hb1 fun h => hy (h.1.2.1 (by omega))
                        simp [hb2]
                      · refine LpW.inv (LpW.step (S 60 _ _ ?_))
                        simp
                        exact Nxt.mk ((j + 1) + 1) ⟨by omega, hnx (hstep hprev ⟨fun _ => by simp_all, fun _ => by simp_all, h1⟩)⟩ (by simp; rw [wrap64] <;> omega) (by omega)
                  · refine J.rounds 4 (LpW.step (S 60 _ _ ?_))
                    simp
                    refine ⟨fun hy => ?_, fun hy => ?_⟩
                    · have hb2 := hb1 fun h => hy (h.1.2.1 (by omega))
                      simp [hb2]
                    · refine LpW.inv (LpW.step (S 60 _ _ ?_))
                      simp
                      exact Nxt.mk ((j + 1) + 1) ⟨by omega, hnx (hstep hprev ⟨fun h => absurd h (by omega), fun _ => by simp_all, h1⟩)⟩ (by simp; rw [wrap64] <;> omega) (by omega)
                  · refine J.rounds 4 (LpW.step (S 60 _ _ ?_))
                    simp
                    exact Nxt.mk ((j + 1) + 1) ⟨by omega, hnx (hstep hprev ⟨fun h => absurd h (by omega), fun h => absurd h (by omega), h1⟩)⟩ (by simp; rw [wrap64] <;> omega) (by omega)
              · have c4 := compareExps_ok u.e t.e
                have hj0 : (0 : Int) < ((j + 1 : Nat) : Int) := by omega
                have hwj : IntKind.i64.wrap (j : Int) = j := by rw [wrap64] <;> omega
                have k4 : 0 ≤ cmpE u.e t.e := by omega
                have hb2 : b = false := by rw [← hb]; simp; exact goodP_false2 ht hu rfl h4
                simp [k1, k2, k3, hj0, hwj]
                refine ⟨by omega, fun x hx => ?_⟩
                obtain rfl : u = x := Option.some.inj (hu.symm.trans hx)
                refine S 60 _ _ ?_
                simp
                refine CallW.ok (by decide) (by simp) c4 (by simp) (S 60 _ _ ?_)
                simp [k4, hb2]
            · have k3 : p ≤ t.v := by omega
              have hb2 := hb1 fun h => h3 h.2.2
              simp [k1, k2, k3]
              refine S 60 _ _ ?_
              simp [hb2]
          · have k2 : t.v < 1 := by omega
            have hb2 := hb1 fun h => h2 h.2.1
            simp [k1, k2]
            refine S 60 _ _ ?_
            simp [hb2]
        · have k1 : 12 < t.e.deg := by omega
          have hb2 := hb1 fun h => h1 h.1.2.2
          simp [k1]
          refine S 60 _ _ ?_
          simp [hb2]
      · refine S 60 _ _ ?_
        simp
        rw [← hb]
        have : GoodP p d ts := (goodP_iff hp hd).2 fun j hj => hall j (by omega)
        simpa using this
    · rw [decide_eq_false hd] at c2
      have hb' : b = false := by rw [← hb]; simp; exact fun h => hd h.2.1
      simp
      refine CallW.ok (by decide) (by simp) c1 (by simp) (S 60 _ _ ?_)
      simp
      refine CallW.ok (by decide) (by simp) c2 (by simp) (S 60 _ _ ?_)
      simp [hb']
  · rw [decide_eq_false hp] at c1
    have hb' : b = false := by rw [← hb]; simp; exact fun h => hp h.1
    simp
    refine CallW.ok (by decide) (by simp) c1 (by simp) (S 60 _ _ ?_)
    simp [hb']

set_option maxHeartbeats 2000000 in
set_option maxRecDepth 4000 in
theorem l01Is_ok (p d : Int) (ts : List Tm) (hl : ts.length ≤ 1048576) : CallOK Go.Proofs.Try.prog 93 [pv p d ts] (.one (bo (decide (GoodP p d ts)))) := by
  have hF := fnOk 59 [.tmp 2]
  refine callOK hF 60 Go.Proofs.Try.func93 rfl rfl rfl (by decide) (by simp) rfl ?_
  intro w0 hw
  have S := @vc_sound w0 _ hF ⟨(.one (bo (decide (GoodP p d ts)))), []⟩ Go.Proofs.Try.f93 rfl (by simp)
  have c1 := l01Prime_ok p
  have c2 := l01In_ok d 1 3
  generalize hb : decide (GoodP p d ts) = b at S ⊢
  by_cases hp : Pr p
  · rw [decide_eq_true hp] at c1
    have hpp := hp.pos
    by_cases hd : 1 ≤ d ∧ d ≤ 3
    · rw [decide_eq_true hd] at c2
      have hwp : IntKind.i64.wrap (p - 1) = p - 1 := wrap64 (by omega) (by omega)
      simp
      refine CallW.ok (by decide) (by simp) c1 (by simp) (S 60 _ _ ?_)
      simp
      refine CallW.ok (by decide) (by simp) c2 (by simp) (S 60 _ _ ?_)
      simp
      refine J.loop hw (fun i : Nat => ⟨[(1, .c (.ref 64001 0)), (2, .c (.d (bo false))), (3, .c (.d (i64 i)))], [(64001, .var [.d (i64 p), .d (i64 d), .d (vTerms ts)])]⟩)
        (fun i => i ≤ ts.length ∧ ∀ j < i, StepOk p d ts j) (fun i => ts.length - i) 0 (by simp) (by simp) ?_
      rintro i ⟨hi, hall⟩
      refine S 10 _ _ ?_
      simp
      refine ⟨fun hlt => ?_, fun hge => ?_⟩
      · obtain ⟨t, ht⟩ : ∃ t, ts[i]? = some t := ⟨ts[i], List.getElem?_eq_getElem hlt⟩
        have c3 := l01Exps_ok d t.e hd.1 hd.2
        have c4 := l01In_ok t.v 1 (p - 1)
        have hb1 : ¬ TmOk p d t → b = false := fun h => by rw [← hb]; simp; exact goodP_false ht h
        refine S 9 _ _ ?_
        simp
        refine ⟨hlt, fun x hx => ?_⟩
        obtain rfl : t = x := Option.some.inj (ht.symm.trans hx)
        clear hx
        try (refine S 60 _ _ ?_; simp)
        refine J.dr hF mixed 28 [[], [0], [], [2], [0, 1, 2, 3], [0, 1, 2, 3, 4], [0, 1, 2, 3, 4, 5], [0, 1, 2, 3, 4, 5, 6], [0, 1, 2, 3, 4, 5, 6, 7], [0, 1, 2, 3, 4, 5, 6], [0, 1, 2, 3, 4, 5, 6, 9], [0, 1, 2, 3, 4, 5, 6, 9, 10], [0, 1, 2, 3, 4, 5, 6, 7, 8, 9, 10, 11], [0, 1, 2, 3, 4, 5, 6, 7, 8, 9, 10, 11, 12], [0, 1, 2, 3, 4, 5, 6, 7, 8, 9, 10, 11, 12, 13], [0, 1, 2, 3, 4, 5, 6, 7, 8, 9, 10, 11, 12, 13, 14], [0, 1, 2, 3, 4, 5, 6, 7, 8, 9, 10, 11, 12, 13, 14, 15], [0, 1, 2, 3, 4, 5, 6, 7, 8, 9, 10, 11, 12, 13, 14, 15, 16], [0, 1, 2, 3, 4, 5, 6, 7, 8, 9, 10, 11, 12, 13, 14, 15, 16, 17], [0, 1, 2, 3, 4, 5, 6, 7, 8, 9, 10, 11, 12, 13, 14, 15, 16, 17, 18], [0, 1, 2, 3, 4, 5, 6, 7, 8, 9, 10, 11, 12, 13, 14, 15, 16, 17, 18, 19], [0, 1, 2, 3, 4, 5, 6, 7, 8, 9, 10, 11, 12, 13, 14, 15, 16, 17, 18], [0, 1, 2, 3, 4, 5, 6, 7, 8, 9, 10, 11, 12, 13, 14, 15, 16, 17, 18, 21], [0, 1, 2, 3, 4, 5, 6, 7, 8, 9, 10, 11, 12, 13, 14, 15, 16, 17, 18, 19, 20, 21, 22], [0, 1, 2, 3, 4, 5, 6, 7, 8, 9, 10, 11, 12, 13, 14, 15, 16, 17, 18, 19, 20, 21, 22, 23], [0, 1, 2, 3, 4, 5, 6, 7, 8, 9, 10, 11, 12, 13, 14, 15, 16, 17, 18, 19, 20, 21, 22, 23, 24], [0, 1, 2, 3, 4, 5, 6, 7, 8, 9, 10, 11, 12, 13, 14, 15, 16, 17, 18], [0, 1, 2, 3, 4, 5, 6, 7, 8, 9, 10, 11, 12, 13, 14, 15, 16, 17, 18, 26], [0, 1, 2, 3, 4, 5, 6, 7, 8, 9, 10, 11, 12, 13, 14, 15, 16, 17, 18, 19, 20, 21, 22, 23, 24, 25, 26, 27], [0, 1, 2, 3, 4, 5, 6, 7, 8, 9, 10, 11, 12, 13, 14, 15, 16, 17, 18, 19, 20, 21, 22, 23, 24, 25, 26, 27, 28], [0, 1, 2, 3, 4, 5, 6, 7, 8, 9, 10, 11, 12, 13, 14, 15, 16, 17, 18, 19, 20, 21, 22, 23, 24, 25, 26, 27, 28, 29], [0, 1, 2, 3, 4, 5, 6, 7, 8, 9, 10, 11, 12, 13, 14, 15, 16, 17, 18, 19, 20, 21, 22, 23, 24, 25, 26, 27, 28, 29, 30]] [[27, 28, 29, 30, 31, 32, 33, 34, 35, 36, 37, 38, 39, 40, 41, 42, 43, 44, 45, 46, 47, 48, 49, 50, 51, 52, 53, 54], [28, 29, 30, 31, 32, 33, 34, 35, 36, 37, 38, 39, 40, 41, 42, 43, 44, 45, 46, 47, 48, 49, 50, 51, 52, 53, 54], [27, 28, 29, 30, 31, 32, 33, 34, 35, 36, 37, 38, 39, 40, 41, 42, 43, 44, 45, 46, 47, 48, 49, 50, 51, 52, 53, 54], [27, 28, 30, 31, 32, 33, 34, 35, 36, 37, 38, 39, 40, 41, 42, 43, 44, 45, 46, 47, 48, 49, 50, 51, 52, 53, 54], [31, 32, 33, 34, 35, 36, 37, 38, 39, 40, 41, 42, 43, 44, 45, 46, 47, 48, 49, 50, 51, 52, 53, 54], [32, 33, 34, 35, 36, 37, 38, 39, 40, 41, 42, 43, 44, 45, 46, 47, 48, 49, 50, 51, 52, 53, 54], [33, 34, 35, 36, 37, 38, 39, 40, 41, 42, 43, 44, 45, 46, 47, 48, 49, 50, 51, 52, 53, 54], [34, 35, 36, 37, 38, 39, 40, 41, 42, 43, 44, 45, 46, 47, 48, 49, 50, 51, 52, 53, 54], [35, 36, 37, 38, 39, 40, 41, 42, 43, 44, 45, 46, 47, 48, 49, 50, 51, 52, 53, 54], [34, 35, 36, 37, 38, 39, 40, 41, 42, 43, 44, 45, 46, 47, 48, 49, 50, 51, 52, 53, 54], [34, 35, 37, 38, 39, 40, 41, 42, 43, 44, 45, 46, 47, 48, 49, 50, 51, 52, 53, 54], [34, 35, 38, 39, 40, 41, 42, 43, 44, 45, 46, 47, 48, 49, 50, 51, 52, 53, 54], [39, 40, 41, 42, 43, 44, 45, 46, 47, 48, 49, 50, 51, 52, 53, 54], [40, 41, 42, 43, 44, 45, 46, 47, 48, 49, 50, 51, 52, 53, 54], [41, 42, 43, 44, 45, 46, 47, 48, 49, 50, 51, 52, 53, 54], [42, 43, 44, 45, 46, 47, 48, 49, 50, 51, 52, 53, 54], [43, 44, 45, 46, 47, 48, 49, 50, 51, 52, 53, 54], [44, 45, 46, 47, 48, 49, 50, 51, 52, 53, 54], [45, 46, 47, 48, 49, 50, 51, 52, 53, 54], [46, 47, 48, 49, 50, 51, 52, 53, 54], [47, 48, 49, 50, 51, 52, 53, 54], [46, 47, 48, 49, 50, 51, 52, 53, 54], [46, 47, 49, 50, 51, 52, 53, 54], [50, 51, 52, 53, 54], [51, 52, 53, 54], [52, 53, 54], [46, 47, 48, 49, 50, 51, 52, 53, 54], [46, 47, 48, 49, 50, 51, 52, 54]] (by decide) ?_
        simp
        refine DrC.ok hF (by rfl) (by simp) c3 (by simp) (by simp) ?_
        by_cases h1 : InV d t.e
        · by_cases h2 : 1 ≤ t.v ∧ t.v ≤ p - 1
          · rw [decide_eq_true h2] at c4
            have hstep : (∀ j u, i = j + 1 → ts[j]? = some u → cmpE u.e t.e < 0) → ∀ j < i + 1, StepOk p d ts j := fun h j hj => by
              by_cases e : j = i
              · rw [e]
                intro x hx
                obtain rfl : t = x := Option.some.inj (ht.symm.trans hx)
                exact ⟨⟨h1, h2.1, by omega⟩, h⟩
              · exact hall j (by omega)
            by_cases hi0 : i = 0
            · subst hi0
              simp [h1]
              refine DrC.ok hF (by rfl) (by simp [hwp]) c4 (by simp) (by simp) ?_
              simp
              refine S 60 _ _ ?_
              simp
              exact Nxt.mk (0 + 1) ⟨by omega, hstep fun j u hj => by omega⟩ (by simp) (by omega)
            · obtain ⟨j, rfl⟩ : ∃ j, i = j + 1 := ⟨i - 1, by omega⟩
              obtain ⟨u, hu⟩ : ∃ u, ts[j]? = some u := ⟨ts[j], List.getElem?_eq_getElem (by omega)⟩
              have c5 := l01Before_ok u.e t.e
              have hj0 : (0 : Int) < ((j + 1 : Nat) : Int) := by omega
              have hwj : IntKind.i64.wrap (j : Int) = j := by rw [wrap64] <;> omega
              simp [h1]
              refine DrC.ok hF (by rfl) (by simp [hwp]) c4 (by simp) (by simp) ?_
              simp [hj0, hwj]
              refine ⟨by omega, fun x hx => ?_⟩
              obtain rfl : u = x := Option.some.inj (hu.symm.trans hx)
              refine S 60 _ _ ?_
              simp
              by_cases h4 : cmpE u.e t.e < 0
              · rw [decide_eq_true h4] at c5
                refine CallW.ok (by decide) (by simp) c5 (by simp) (S 60 _ _ ?_)
                simp
                refine Nxt.mk (j + 1 + 1) ⟨by omega, hstep fun j' u' hj hu' => ?_⟩ (by simp; rw [wrap64] <;> omega) (by omega)
                obtain rfl : j = j' := by omega
                obtain rfl : u = u' := Option.some.inj (hu.symm.trans hu')
                exact h4
              · rw [decide_eq_false h4] at c5
                have hb2 : b = false := by rw [← hb]; simp; exact goodP_false2 ht hu rfl h4
                refine CallW.ok (by decide) (by simp) c5 (by simp) (S 60 _ _ ?_)
                simp [hb2]
          · rw [decide_eq_false h2] at c4
            have hb2 := hb1 fun h => h2 ⟨h.2.1, by have := h.2.2; omega⟩
            simp [h1]
            refine DrC.ok hF (by rfl) (by simp [hwp]) c4 (by simp) (by simp) ?_
            simp
            refine S 60 _ _ ?_
            simp [hb2]
        · have hb2 := hb1 fun h => h1 h.1
          simp [h1]
          refine S 60 _ _ ?_
          simp [hb2]
      · refine S 60 _ _ ?_
        simp
        rw [← hb]
        have : GoodP p d ts := (goodP_iff hp hd).2 fun j hj => hall j (by omega)
        simpa using this
    · rw [decide_eq_false hd] at c2
      have hb' : b = false := by rw [← hb]; simp; exact fun h => hd h.2.1
      simp
      refine CallW.ok (by decide) (by simp) c1 (by simp) (S 60 _ _ ?_)
      simp
      refine CallW.ok (by decide) (by simp) c2 (by simp) (S 60 _ _ ?_)
      simp [hb']
  · rw [decide_eq_false hp] at c1
    have hb' : b = false := by rw [← hb]; simp; exact fun h => hp h.1
    simp
    refine CallW.ok (by decide) (by simp) c1 (by simp) (S 60 _ _ ?_)
    simp [hb']

end Go.Sm
