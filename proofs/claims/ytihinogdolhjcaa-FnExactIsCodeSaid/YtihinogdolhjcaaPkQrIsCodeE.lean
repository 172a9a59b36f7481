/- Towards FnExactIsCodeSaid: the program's function returns what the reference's returns. Part 5 of 6. -/
import Derived.Shelf.SlLaysF0
import Derived.Ground.SlsfProg
import Derived.Test.YtihinogdolhjcaaProg
import Derived.Shelf.SlSortCmp.NoneTotal
import Derived.Shelf.SlLaysF
import Derived.Test.YtihinogdolhjcaaPkQrIsCodeA
import Derived.Test.YtihinogdolhjcaaPkQrIsCodeB
import Derived.Test.YtihinogdolhjcaaPkQrIsCodeC
import Derived.Test.YtihinogdolhjcaaPkQrIsCodeD
namespace Go.Proofs
open Go.Shelf
def Try.sortT_ren : Go.Shelf.Ren := ⟨fun | 6 => 120 | 15 => 150 | 14 => 149 | 28 => 176 | 29 => 177 | 20 => 168 | 21 => 169 | 22 => 170 | 23 => 171 | 24 => 172 | 25 => 173 | 26 => 174 | 27 => 175 | 46 => 187 | 47 => 188 | 48 => 189 | 49 => 190 | 50 => 191 | 57 => 195 | n => n, fun | 22 => 37 | 24 => 108 | 25 => 115 | 3 => 3 | 39 => 105 | 0 => 0 | 53 => 158 | 55 => 160 | 4 => 4 | 46 => 151 | 45 => 150 | 50 => 155 | 5 => 5 | 9 => 9 | 66 => 166 | 70 => 170 | 76 => 174 | 77 => 175 | n => n, fun | n => n⟩
theorem Try.sortT : Go.Proofs.SlLaysF0.n6 Try.prog Try.sortT_ren := {
  mixed := by kernel_rfl
  f6 := ⟨Try.f120.name, by decide, Try.func120.trans (congrArg some (by kernel_rfl))⟩
  f14 := ⟨Try.f149.name, by decide, Try.func149.trans (congrArg some (by kernel_rfl))⟩
  f15 := Try.func150.trans (congrArg some (by kernel_rfl))
  f20 := ⟨Try.f168.name, by decide, Try.func168.trans (congrArg some (by kernel_rfl))⟩
  f21 := ⟨Try.f169.name, by decide, Try.func169.trans (congrArg some (by kernel_rfl))⟩
  f22 := ⟨Try.f170.name, by decide, Try.func170.trans (congrArg some (by kernel_rfl))⟩
  f23 := ⟨Try.f171.name, by decide, Try.func171.trans (congrArg some (by kernel_rfl))⟩
  f24 := ⟨Try.f172.name, by decide, Try.func172.trans (congrArg some (by kernel_rfl))⟩
  f25 := ⟨Try.f173.name, by decide, Try.func173.trans (congrArg some (by kernel_rfl))⟩
  f26 := ⟨Try.f174.name, by decide, Try.func174.trans (congrArg some (by kernel_rfl))⟩
  f27 := ⟨Try.f175.name, by decide, Try.func175.trans (congrArg some (by kernel_rfl))⟩
  f28 := Try.func176.trans (congrArg some (by kernel_rfl))
  f29 := Try.func177.trans (congrArg some (by kernel_rfl))
  f46 := ⟨Try.f187.name, by decide, Try.func187.trans (congrArg some (by kernel_rfl))⟩
  f47 := Try.func188.trans (congrArg some (by kernel_rfl))
  f48 := Try.func189.trans (congrArg some (by kernel_rfl))
  f49 := ⟨Try.f190.name, by decide, Try.func190.trans (congrArg some (by kernel_rfl))⟩
  f50 := ⟨Try.f191.name, by decide, Try.func191.trans (congrArg some (by kernel_rfl))⟩
  f57 := ⟨Try.f195.name, by decide, Try.func195.trans (congrArg some (by kernel_rfl))⟩
  t0 := Try.underlying0
  a0 := Try.isAgg0
  z0 := Try.sizeOf0
  v0 := Try.zeroValue0
  t3 := Try.underlying3
  a3 := Try.isAgg3
  z3 := Try.sizeOf3
  v3 := Try.zeroValue3
  t4 := Try.underlying4
  a4 := Try.isAgg4
  z4 := Try.sizeOf4
  v4 := Try.zeroValue4
  t5 := Try.underlying5
  a5 := Try.isAgg5
  z5 := Try.sizeOf5
  v5 := Try.zeroValue5
  t9 := Try.underlying9
  a9 := Try.isAgg9
  z9 := Try.sizeOf9
  v9 := Try.zeroValue9
  t22 := Try.underlying37
  a22 := Try.isAgg37
  z22 := Try.sizeOf37
  v22 := Try.zeroValue37
  t25 := Try.underlying115
  a25 := Try.isAgg115
  z25 := Try.sizeOf115
  v25 := Try.zeroValue115
  t39 := Try.underlying105
  a39 := Try.isAgg105
  z39 := Try.sizeOf105
  v39 := Try.zeroValue105
  t45 := Try.underlying150
  a45 := Try.isAgg150
  z45 := Try.sizeOf150
  v45 := Try.zeroValue150
  t46 := Try.underlying151
  a46 := Try.isAgg151
  z46 := Try.sizeOf151
  v46 := Try.zeroValue151
  t50 := Try.underlying155
  a50 := Try.isAgg155
  z50 := Try.sizeOf155
  v50 := Try.zeroValue155
  t53 := Try.underlying158
  a53 := Try.isAgg158
  z53 := Try.sizeOf158
  v53 := Try.zeroValue158
  t55 := Try.underlying160
  a55 := Try.isAgg160
  z55 := Try.sizeOf160
  v55 := Try.zeroValue160
  t66 := Try.underlying166
  a66 := Try.isAgg166
  z66 := Try.sizeOf166
  v66 := Try.zeroValue166
  t70 := Try.underlying170
  a70 := Try.isAgg170
  z70 := Try.sizeOf170
  v70 := Try.zeroValue170
  t76 := Try.underlying174
  a76 := Try.isAgg174
  z76 := Try.sizeOf174
  v76 := Try.zeroValue174
  t77 := Try.underlying175
  a77 := Try.isAgg175
  z77 := Try.sizeOf175
  v77 := Try.zeroValue175 }
end Go.Proofs

namespace Go.Sm
open Go.RowKit Go.Shelf Go.Sort

/-! ### the order of monomials -/
theorem u8_toNat_inj {x y : UInt8} (h : (x.toNat : Int) = y.toNat) : x = y := UInt8.toNat_inj.1 (by omega)
/-- A monomial's place among all. -/
def Ex.key (e : Ex) : Int := e.deg * 65536 + (255 - (e.a.toNat : Int)) * 256 + (255 - (e.b.toNat : Int))
theorem cmpE_key (x y : Ex) : cmpE x y < 0 ↔ x.key < y.key := by
  have := u8_lt x.a; have := u8_lt x.b; have := u8_lt y.a; have := u8_lt y.b
  unfold cmpE Ex.key
  split
  · omega
  · rename_i h
    split
    · rename_i ha
      have hna : (x.a.toNat : Int) ≠ y.a.toNat := fun e => ha (u8_toNat_inj e)
      omega
    · rename_i ha
      have : x.a = y.a := Decidable.not_not.1 ha
      rw [this]; omega
theorem cmpE_zero (x y : Ex) : cmpE x y = 0 ↔ x = y := by
  refine ⟨fun h => ?_, fun h => by rw [h]; exact cmpE_self y⟩
  unfold cmpE at h
  split at h
  · omega
  · rename_i h0
    split at h
    · rename_i ha; exact absurd (u8_toNat_inj (by omega)) ha
    · rename_i ha
      have ha : x.a = y.a := Decidable.not_not.1 ha
      have hb : x.b = y.b := u8_toNat_inj (by omega)
      have hc : x.c = y.c := by
        unfold Ex.deg at h0
        rw [ha, hb] at h0
        exact u8_toNat_inj (by omega)
      cases x; cases y; simp_all
theorem key_inj {x y : Ex} (h : x.key = y.key) : x = y := by
  have h1 : ¬ cmpE x y < 0 := by rw [cmpE_key]; omega
  have h2 : ¬ cmpE y x < 0 := by rw [cmpE_key]; omega
  refine (cmpE_zero x y).1 ?_
  unfold cmpE at h1 h2 ⊢
  have e1 : y.deg - x.deg = -(x.deg - y.deg) := by omega
  by_cases hd : x.deg - y.deg = 0
  · have hd' : y.deg - x.deg = 0 := by omega
    simp only [hd, hd', ne_eq, not_true_eq_false, if_false] at h1 h2 ⊢
    by_cases ha : x.a = y.a
    · simp only [ha, not_true_eq_false, if_false] at h1 h2 ⊢; omega
    · have ha' : ¬ y.a = x.a := fun e => ha e.symm
      simp only [ha, ha', not_false_eq_true, if_true] at h1 h2 ⊢; omega
  · have hd' : ¬ y.deg - x.deg = 0 := by omega
    simp only [hd, hd', ne_eq, not_false_eq_true, if_true] at h1 h2 ⊢; omega

theorem poly1_ok (x y : Tm) : CallOK Go.Proofs.Try.prog 121 [.agg [u8 x.e.a, u8 x.e.b, u8 x.e.c, i64 x.v], .agg [u8 y.e.a, u8 y.e.b, u8 y.e.c, i64 y.v]] (.one (i64 (cmpE x.e y.e))) := by
  have hF := fnOk 10 [.tmp 4]
  refine callOK hF 60 Go.Proofs.Try.func121 rfl rfl rfl (by decide) (by simp) rfl ?_
  intro w0 hw
  have S := @vc_sound w0 _ hF ⟨(.one (i64 (cmpE x.e y.e))), []⟩ Go.Proofs.Try.f121 rfl (by simp)
  have c1 := compareExps_ok x.e y.e
  simp
  refine CallW.ok (by decide) (by simp) c1 (by simp) (S 60 _ _ ?_)
  simp

def Tm.vs (t : Tm) : List Value := [.int .u8 t.e.a.toNat, .int .u8 t.e.b.toNat, .int .u8 t.e.c.toNat, .int .i64 t.v]

theorem bel_grow {w w' : World} (h : Bel w.heap.size w w') : ∃ q os, w' = grow (w.drewN q) os := by
  refine ⟨w'.drawn - w.drawn, w'.heap.extract w.heap.size w'.heap.size, ?_⟩
  have hh : w'.heap = w.heap ++ w'.heap.extract w.heap.size w'.heap.size := by
    apply Array.ext_getElem?
    intro i
    by_cases hi : i < w.heap.size
    · rw [Array.getElem?_append_left hi, h.block i hi]
    · rw [Array.getElem?_append_right (by omega), Array.getElem?_extract]
      split
      · congr 1; omega
      · rename_i h2
        exact Array.getElem?_eq_none (by omega)
  have hd : w'.drawn = w.drawn + (w'.drawn - w.drawn) := by have := h.drawn; omega
  have e1 := h.os; have e2 := h.tape; have e3 := h.output
  cases w' with
  | mk heap tape drawn os output =>
    simp only at hh hd e1 e2 e3
    subst e1; subst e2; subst e3
    unfold grow World.drewN
    simp only [World.mk.injEq, and_true, true_and]
    exact ⟨hh, hd⟩

theorem cmp_lays (blk off size : Nat) (w : World) : Go.Proofs.CmpLays Go.Proofs.Try.prog 121 #[] Tm.vs 4 (fun x y => cmpE x.e y.e) blk off size w := by
  intro m os dk hs x y
  have h := (poly1_ok x y).2 (Go.Proofs.sortWorldK Tm.vs 4 w blk off m dk os) [.agg x.vs.toArray, .agg y.vs.toArray]
    ⟨_, _, rfl, ⟨x.vs, rfl, by simp, by simp [Tm.vs, DsV, Rd, Value.oneCell']⟩, _, _, rfl, ⟨y.vs, rfl, by simp, by simp [Tm.vs, DsV, Rd, Value.oneCell']⟩, rfl⟩
  refine Calls.mono h fun e w' hq => ?_
  obtain ⟨v, rfl, ⟨us, h1, h2, h3, _⟩, hb⟩ := hq
  refine ⟨?_, bel_grow hb⟩
  simp only [RShape] at h1
  subst h1
  obtain ⟨u, r, he, hr, _⟩ := h3
  simp only [List.cons.injEq] at he
  rw [he.1]
  simp only [Rd] at hr
  rw [hr.1]

theorem swoT : SWO (Go.Proofs.ltOf fun x y : Tm => cmpE x.e y.e) where
  irrefl x := by unfold Go.Proofs.ltOf; simp [cmpE_self]
  trans x y z h1 h2 := by
    unfold Go.Proofs.ltOf at *
    rw [decide_eq_true_eq, cmpE_key] at *; omega
  ntrans x y z h1 h2 := by
    unfold Go.Proofs.ltOf at *
    rw [decide_eq_false_iff_not, cmpE_key] at *; omega

def leT (a b : Tm) : Prop := ¬ cmpE b.e a.e < 0
/-- One strictly ascending list among the orders of a list. -/
theorem sorted_one {d ys : List Tm} (hp : ys.Perm d) (hs : ys.Pairwise fun a b => cmpE a.e b.e < 0) (hd : d.Pairwise leT) : d = ys := by
  have h2 : ys.Pairwise leT := by
    refine hs.imp fun {a b} h => ?_
    unfold leT
    rw [cmpE_key] at *; omega
  have h1 : ∀ a b, a ∈ d → b ∈ ys → leT a b → leT b a → a = b := by
    intro a b ha hb h1 h2
    have ha' : a ∈ ys := hp.symm.subset ha
    obtain ⟨i, hi, rfl⟩ := List.getElem_of_mem ha'
    obtain ⟨j, hj, rfl⟩ := List.getElem_of_mem hb
    rcases Nat.lt_trichotomy i j with h | h | h
    · exact absurd (List.pairwise_iff_getElem.1 hs i j hi hj h) h2
    · subst h; rfl
    · exact absurd (List.pairwise_iff_getElem.1 hs j i hj hi h) h1
  exact List.Perm.eq_of_pairwise h1 hd h2 hp.symm

theorem flat_get {α : Type} [Inhabited α] (enc : α → List Value) {k : Nat} (hk : ∀ x, (enc x).length = k) : ∀ (xs : List α) (t : Nat), t < xs.length * k → (xs.flatMap enc)[t]? = some ((enc xs.toArray[t / k]!)[t % k]!)
  | [], t, h => by simp at h
  | x :: xs, t, h => by
    have k0 : 0 < k := Nat.pos_of_ne_zero fun e => by subst e; simp at h
    rw [List.flatMap_cons]
    by_cases ht : t < k
    · rw [List.getElem?_append_left (by rw [hk]; exact ht), Nat.div_eq_of_lt ht, Nat.mod_eq_of_lt ht]
      have : (x :: xs).toArray[0]! = x := rfl
      rw [this, List.getElem?_eq_getElem (by rw [hk]; exact ht), getElem!_pos (enc x) t (by rw [hk]; exact ht)]
    · obtain ⟨u, rfl⟩ : ∃ u, t = u + k := ⟨t - k, by omega⟩
      have hu : u < xs.length * k := by rw [List.length_cons, Nat.add_mul] at h; omega
      rw [List.getElem?_append_right (by rw [hk]; omega), hk, Nat.add_sub_cancel, flat_get enc hk xs u hu, Nat.add_div_right _ k0, Nat.add_mod_right]
      have hl : u / k < xs.length := (Nat.div_lt_iff_lt_mul k0).2 hu
      have : (x :: xs).toArray[(u / k).succ]! = xs.toArray[u / k]! := by
        rw [getElem!_pos _ _ (by simpa using hl), getElem!_pos _ _ (by simpa using hl)]
        simp
      rw [this]

theorem Tm.vs_len (t : Tm) : t.vs.length = 4 := rfl
theorem terms_EsV {w : World} {B M : Nat → Prop} : ∀ (ts : List Tm), EsV (Rd w B M) 4 (terms ts) (ts.flatMap Tm.vs)
  | [] => rfl
  | t :: ts => by
    simp only [terms, List.map_cons, List.flatMap_cons]
    refine ⟨t.vs, _, rfl, rfl, ?_, terms_EsV ts⟩
    simp [Tm.vs, DsV, Rd, Value.oneCell']
theorem terms_EsV_eq {w : World} {B M : Nat → Prop} : ∀ {ts : List Tm} {vs : List Value}, EsV (Rd w B M) 4 (terms ts) vs → vs = ts.flatMap Tm.vs
  | [], vs, h => h
  | t :: ts, vs, h => by
    obtain ⟨u, r, rfl, _, h1, h2⟩ := h
    rw [List.flatMap_cons, terms_EsV_eq h2]
    congr 1
    simp only [DsV, Rd] at h1
    obtain ⟨_, _, rfl, ⟨rfl, _⟩, _, _, rfl, ⟨rfl, _⟩, _, _, rfl, ⟨rfl, _⟩, _, _, rfl, ⟨rfl, _⟩, rfl⟩ := h1
    rfl
theorem terms_noOwn (ts : List Tm) : (terms ts).all (fun e => e.all noOwn) = true := by simp [terms]

theorem perm_of_permIn {d d' : Array Tm} (h : PermIn 0 d.size d d') : d'.toList.Perm d.toList := by
  obtain ⟨h1, _, h3⟩ := h
  have e1 : d'.extract 0 d.size = d' := by rw [← h1]; simp
  have e2 : d.extract 0 d.size = d := by simp
  rwa [e1, e2] at h3

theorem sortTerms_ok (xs ys : List Tm) (hl : xs.length < 4611686018427387904) (hp : ys.Perm xs) (hs : ys.Pairwise fun a b => cmpE a.e b.e < 0) :
    CallX Go.Proofs.Try.prog 120 [.one (oTerms xs), .one (.v (.func (.func 121) #[] #[]))] ⟨.tup [], [(0, oTerms ys)]⟩ := by
  refine ⟨⟨Go.Proofs.Try.f120, Go.Proofs.Try.func120, rfl, rfl⟩, fun w X vs us hA hnd => ?_⟩
  obtain ⟨v1, q1, x1, c1, rfl, rfl, h1, h2, v2, q2, x2, c2, rfl, rfl, h3, h4, rfl, rfl⟩ := hA
  simp only [RShape] at h1 h3
  subst h1; subst h3
  obtain ⟨_, _, he, hr1, _⟩ := h2
  simp only [List.cons.injEq] at he
  obtain ⟨rfl, rfl⟩ := he
  obtain ⟨_, _, he, hr2, _⟩ := h4
  simp only [List.cons.injEq] at he
  obtain ⟨rfl, rfl⟩ := he
  simp only [ArgX, Rd] at hr2
  obtain ⟨rfl, _⟩ := hr2
  obtain ⟨hr, _, hX⟩ := hr1
  have hlen : ys.length = xs.length := hp.length_eq
  simp only [Rd] at hr
  rcases hr with ⟨hn, rfl⟩ | ⟨b, cap, cur, rfl, hcap, _, hh, hmax, hsz, hes⟩
  · have hx : xs = [] := by simpa [terms] using hn
    subst hx
    have hy : ys = [] := List.length_eq_zero_iff.1 hlen
    subst hy
    have hc := Go.Proofs.AnyF.slices_SortFunc_none (P := Go.Proofs.Try.prog) (ρ := Go.Proofs.Try.sortT_ren) { Go.Proofs.Try.sortT with } none 0 (.func (.func 121) #[] #[]) w
    refine Calls.mono hc fun e w' hq => ?_
    obtain ⟨rfl, rfl⟩ := hq
    refine ⟨_, rfl, ⟨[nilV], [], ⟨[], rfl, rfl, rfl⟩, ?_, rfl, ?_, ?_, ?_⟩, Low.refl _ _⟩
    · rfl
    · exact ⟨nilV, [], rfl, by simp [Rd, terms], rfl⟩
    · simp [fpDs, fp, cellsR]
    · intro b hb; simp [fpDs, fp, cellsR] at hb
  · obtain ⟨vs, hv1, hv2⟩ := RdEs.vals hes
    have hvs := terms_EsV_eq hv1
    subst hvs
    have hlt := lt_of_heap hh
    have hcell : ∀ (j : Nat) (u : Value), (xs.flatMap Tm.vs)[j]? = some u → cur[j]? = some u := by
      intro j u hj
      have := hv2 j u hj
      simpa [World.cell?, hh] using this
    have hH : HoldsK Tm.vs 4 w b 0 xs.toArray := by
      intro j hj
      have hj' : j < xs.length * 4 := by simpa using hj
      have hg := flat_get Tm.vs Tm.vs_len xs j hj'
      refine ⟨?_, by simp [World.frozen?, hh]⟩
      rw [hv2 j _ hg, get_flatK _ _ _ _ (by simpa using hj')]
      rfl
    have eg : ∀ args w, (callFunc 121 args).run Go.Proofs.Try.prog w = .ok (.enter 121 args) w := Go.Proofs.enters_of Go.Proofs.Try.func121 (by kernel_rfl) rfl
    have hc := Go.Proofs.AnyQ.slices_SortFunc Go.Proofs.Try.sortT 4 (fun w => tyOk108.isAgg w) (fun w => tyOk108.sizeOf w) Tm.vs Tm.vs_len
      (fun x v hv => by simp [Tm.vs] at hv; rcases hv with rfl | rfl | rfl | rfl <;> rfl) (fun x y => cmpE x.e y.e) swoT 121 #[] b 0 cap xs.toArray w eg (cmp_lays b 0 _ w) hH hlt (by simpa using hl)
    have hll : (terms xs).length = xs.toArray.size := by simp [terms]
    rw [hll]
    refine Calls.mono hc fun e w' hq => ?_
    obtain ⟨rfl, d', n, os, hperm, hsort, rfl⟩ := hq
    have hd' : d'.toList = ys := by
      refine sorted_one (hp.trans (perm_of_permIn hperm).symm) hs ?_
      rw [List.pairwise_iff_getElem]
      intro i j hi hj hij
      have hn : d'.size = xs.toArray.size := hperm.1
      have hi' : i < d'.size := by simpa using hi
      have hj' : j < d'.size := by simpa using hj
      have := hsort i j (Nat.zero_le _) hij (by omega)
      unfold Go.Proofs.ltOf at this
      rw [getElem!_pos d' i hi', getElem!_pos d' j hj'] at this
      simpa [leT] using this
    subst hd'
    have hds : d'.size = xs.length := by simpa using hlen
    have hW : (Go.Proofs.sortWorldK Tm.vs 4 w b 0 n d' os).heap = (w.heap.modify b (onCells (putCells id 0 (flatK Tm.vs 4 d')))) ++ os := rfl
    have hnew : (Go.Proofs.sortWorldK Tm.vs 4 w b 0 n d' os).heap[b]? = some (.cells (putCells id 0 (flatK Tm.vs 4 d') cur) 108 (0, 0)) := by
      rw [hW, Array.getElem?_append_left (by simpa using hlt), Array.getElem?_modify]
      simp [hh, onCells]
    have hcells : ∀ (j : Nat) (u : Value), (d'.toList.flatMap Tm.vs)[j]? = some u → (Go.Proofs.sortWorldK Tm.vs 4 w b 0 n d' os).cell? ⟨b, 0 + j, none⟩ = some u := by
      intro j u hj
      have hjl : j < d'.toList.length * 4 := by
        have := (List.getElem?_eq_some_iff.1 hj).1
        rw [(terms_EsV (w := w) (B := fun _ => False) (M := fun _ => False) d'.toList).length] at this
        simpa [terms] using this
      have hjs : j < d'.size * 4 := by simpa using hjl
      have hcu : j < cur.size := by
        rw [hsz]
        have : xs.length ≤ cap := by simpa [terms] using hcap
        omega
      simp only [World.cell?, hnew, putCells]
      have hg := flat_get Tm.vs Tm.vs_len d'.toList j hjl
      rw [hj] at hg
      simp only [Option.some.injEq] at hg
      subst hg
      have hF := get_flatK Tm.vs 4 d' j hjs
      have hjF : j < (flatK Tm.vs 4 d').size := by simpa using hjs
      simp [hcu, hF]
      omega
    have hread : Rd (Go.Proofs.sortWorldK Tm.vs 4 w b 0 n d' os) (fun _ => False) (fun _ => False) (oTerms d'.toList) (.slice (some ⟨b, 0, none⟩) xs.toArray.size cap) := by
      simp only [Rd]
      refine .inr ⟨b, cap, _, ?_, ?_, not_false, hnew, hmax, ?_, RdEs.ofV (terms_EsV _) hcells⟩
      · simp [terms, hds]
      · simp [terms, hds]; simpa [terms] using hcap
      · simp [putCells, hsz]
    have hfp : fp (Go.Proofs.sortWorldK Tm.vs 4 w b 0 n d' os) (oTerms d'.toList) (.slice (some ⟨b, 0, none⟩) xs.toArray.size cap) = [b] := by
      rw [fp_own_some, fpEs_vals (terms d'.toList) _ 0 (terms_EsV (w := w) (B := fun _ => False) (M := fun _ => False) _) (fun j u hj => hcells j u hj), fpVs_noOwn _ (terms_noOwn _)]
    have hXb : X b := hX b (by rw [fp_own_some]; exact List.mem_cons_self ..)
    refine ⟨_, rfl, ⟨[.slice (some ⟨b, 0, none⟩) xs.toArray.size cap], [], ⟨[], rfl, rfl, rfl⟩, rfl, ?_, ⟨_, _, rfl, hread, rfl⟩, ?_, ?_⟩, ?_⟩
    · simp [terms, freshCs, D.fresh, cellsR]
    · show (fpDs _ [oTerms d'.toList] [_]).Nodup
      simp only [fpDs, List.headD_cons, hfp, List.append_nil]
      simp
    · intro y hy
      have hy : y ∈ fpDs _ [oTerms d'.toList] [_] := hy
      simp only [fpDs, List.headD_cons, hfp, List.append_nil, List.mem_singleton] at hy
      subst hy
      exact .inr hXb
    · refine ⟨rfl, rfl, rfl, ?_, ?_, Nat.le_add_right _ _⟩
      · rw [hW]; simp
      · intro y hy
        have hyb : y ≠ b := fun e => hy.2 (by rw [e]; exact hXb)
        have hylt : y < w.heap.size := hy.1
        rw [hW, Array.getElem?_append_left (by simpa using hylt), Array.getElem?_modify, if_neg (fun e => hyb e.symm)]

end Go.Sm

namespace Go.Sm
open Go.RowKit

/-- An entry of a sum. -/
abbrev sumE (p : Ex × Int) : List Int × Value := ([(p.1.a.toNat : Int), p.1.b.toNat, p.1.c.toNat], .int .i64 p.2)
abbrev sumM (l : List (Ex × Int)) : MD := ⟨.u8, 3, l.map fun p => sumE p⟩
abbrev sumD (l : List (Ex × Int)) : D := .mp (sumM l)

/-- What of a sum is not 0. -/
def kept (p : Int) (l : List (Ex × Int)) : List Tm := l.filterMap fun x => if x.2 % p = 0 then none else some ⟨x.1, x.2 % p⟩
def srt (l : List Tm) : List Tm := l.mergeSort fun a b => decide (a.e.key ≤ b.e.key)
def ofSum (p : Int) (l : List (Ex × Int)) : List Tm := srt (kept p l)

theorem srt_perm (l : List Tm) : (srt l).Perm l := List.mergeSort_perm l _
theorem srt_sorted {l : List Tm} (h : (l.map (·.e)).Nodup) : (srt l).Pairwise fun a b => cmpE a.e b.e < 0 := by
  have h1 : (srt l).Pairwise fun a b => decide (a.e.key ≤ b.e.key) = true := by
    refine List.pairwise_mergeSort ?_ ?_ l
    · intro a b c h1 h2
      rw [decide_eq_true_eq] at *; omega
    · intro a b
      simp only [Bool.or_eq_true, decide_eq_true_eq]; omega
  have h2 : ((srt l).map (·.e)).Nodup := (((srt_perm l).map _).nodup_iff).2 h
  have h3 : (srt l).Pairwise fun a b => a.e ≠ b.e := by
    rw [List.Nodup, List.pairwise_map] at h2
    exact h2
  refine (h1.and h3).imp fun {a b} hab => ?_
  rw [cmpE_key]
  have := hab.1
  rw [decide_eq_true_eq] at this
  have hne : a.e.key ≠ b.e.key := fun e => hab.2 (key_inj e)
  omega
theorem kept_keys {p : Int} : ∀ {l : List (Ex × Int)}, (l.map (·.1)).Nodup → ((kept p l).map (·.e)).Nodup
  | [], _ => by simp [kept]
  | x :: l, h => by
    simp only [List.map_cons, List.nodup_cons] at h
    have ih := kept_keys (p := p) h.2
    unfold kept at ih ⊢
    rw [List.filterMap_cons]
    split
    · exact ih
    · rename_i t ht
      split at ht
      · cases ht
      · simp only [Option.some.injEq] at ht; subst ht
        simp only [List.map_cons, List.nodup_cons]
        refine ⟨fun hm => h.1 ?_, ih⟩
        obtain ⟨t, ht, he⟩ := List.mem_map.1 hm
        obtain ⟨y, hy, hy2⟩ := List.mem_filterMap.1 ht
        split at hy2
        · cases hy2
        · simp only [Option.some.injEq] at hy2; subst hy2
          simp only at he
          rw [← he]; exact List.mem_map_of_mem hy
theorem kept_length (p : Int) (l : List (Ex × Int)) : (kept p l).length ≤ l.length := List.length_filterMap_le _ _

@[simp] theorem map_erase' {α γ : Type} (f : α → γ) (L : List α) (j : Nat) : (L.map f).eraseIdx j = (L.eraseIdx j).map f := map_erase f L j

theorem kept_take {p : Int} : ∀ {rem : List (Ex × Int)} {i : Nat} {x : Ex × Int}, rem[i]? = some x → (kept p rem).Perm (kept p [x] ++ kept p (rem.eraseIdx i))
  | [], i, x, h => by simp at h
  | y :: rem, 0, x, h => by
    simp at h; subst h
    simp only [List.eraseIdx_zero, List.tail_cons]
    have : kept p (y :: rem) = kept p [y] ++ kept p rem := by
      rw [show y :: rem = [y] ++ rem from rfl]
      unfold kept; rw [List.filterMap_append]
    rw [this]
  | y :: rem, i + 1, x, h => by
    have ih := kept_take (p := p) (rem := rem) (i := i) (x := x) (by simpa using h)
    have e1 : ∀ l, kept p (y :: l) = kept p [y] ++ kept p l := by
      intro l
      rw [show y :: l = [y] ++ l from rfl]
      unfold kept; rw [List.filterMap_append]
    rw [List.eraseIdx_cons_succ, e1 rem, e1 (rem.eraseIdx i)]
    refine (ih.append_left _).trans ?_
    rw [← List.append_assoc, ← List.append_assoc]
    exact List.Perm.append_right _ List.perm_append_comm

theorem poly_ok (p d : Int) (l : List (Ex × Int)) (hl : l.length ≤ 1048576) (hn : (l.map (·.1)).Nodup) (hp : 0 < p) (hp2 : p < 4000000000000000000) : CallOK Go.Proofs.Try.prog 83 [.one (sumD l), .one (i64 p), .one (i64 d)] (po p d (ofSum p l)) := by
  have hF := fnOk 41 [.cell 6 39]
  refine callOK hF 60 Go.Proofs.Try.func83 rfl rfl rfl (by decide) (by simp) rfl ?_
  intro w0 hw
  have S := @vc_sound w0 _ hF ⟨(po p d (ofSum p l)), []⟩ Go.Proofs.Try.f83 rfl (by simp)
  simp
  refine J.loop hw (fun q : List Tm × List (Ex × Int) × Option (List Int × Value) => ⟨[(1, .c (.d (i64 p))), (6, .c (.ref 64006 0)), (7, .c (.ref 64008 0)), (14, .c (.ref 64010 0))],
      [(64006, .var [.d (i64 0), .d (i64 0), .ob 64007]), (64007, .arr 108 4 []), (64008, .var [.d (i64 p), .d (i64 d), .ob 64009]), (64009, .arr 108 4 (terms q.1)), (64010, .it (sumM l) (q.2.1.map fun p => sumE p) q.2.2)]⟩)
    (fun q => (q.1 ++ kept p q.2.1).Perm (kept p l)) (fun q => q.2.1.length) ([], l, none) (by simp) (by simp) ?_
  rintro ⟨acc, rem, last⟩ hperm
  simp only at hperm
  refine S 60 _ _ ?_
  simp
  have hal : acc.length ≤ 1048576 := by
    have h1 := hperm.length_eq
    have h2 := kept_length p l
    simp only [List.length_append] at h1
    omega
  refine OpW.next (key := 64010) (m := sumM l) (rem := rem.map fun p => sumE p) (last := last) rfl rfl (by decide) (by rfl) (by rfl) (fun h0 => ?_) (fun i e he => ?_)
  · have h0 : rem = [] := by simpa using h0
    subst h0
    have hperm : acc.Perm (kept p l) := by simpa [kept] using hperm
    refine S 60 _ _ ?_
    simp
    refine CallW.mut (sortTerms_ok acc (ofSum p l) (by omega) ((srt_perm _).trans hperm.symm) (srt_sorted (kept_keys hn))) (by decide) (by simp) (by simp) (by simp) (by simp) (by simp) (by simp) ?_
    refine S 60 _ _ ?_
    simp
  · obtain ⟨x, hx, rfl⟩ : ∃ x, rem[i]? = some x ∧ e = sumE x := by
      rw [List.getElem?_map] at he
      cases hq : rem[i]? with
      | none => rw [hq] at he; cases he
      | some x => rw [hq] at he; simp only [Option.map_some, Option.some.injEq] at he; exact ⟨x, rfl, he.symm⟩
    have hr := tmod_range x.2 p hp
    have h0 : p ≠ 0 := by omega
    have hmod : (IntKind.i64.wrap (x.2.tmod p + p)).tmod p = x.2 % p := by rw [wrap64 (by omega) (by omega), tmod_mod _ _ hp]
    have hk := kept_take (p := p) hx
    have hdec : (rem.eraseIdx i).length < rem.length := by
      have := (List.getElem?_eq_some_iff.1 hx).1
      rw [List.length_eraseIdx]; split <;> omega
    refine S 60 _ _ ?_
    simp [keyFV, h0, hmod]
    refine ⟨fun hnz => ?_, fun hz => ?_⟩
    · have hk1 : kept p [x] = [⟨x.1, x.2 % p⟩] := by simp [kept, hnz]
      refine ⟨⟨by omega, by omega⟩, ?_⟩
      refine Nxt.mk (acc ++ [Tm.mk x.1 (x.2 % p)], rem.eraseIdx i, some (sumE x)) ?_ (by simp) hdec
      show ((acc ++ [Tm.mk x.1 (x.2 % p)]) ++ kept p (rem.eraseIdx i)).Perm (kept p l)
      rw [List.append_assoc, ← hk1]
      exact (hk.symm.append_left acc).trans hperm
    · have hk1 : kept p [x] = [] := by simp [kept, hz]
      refine Nxt.mk (acc, rem.eraseIdx i, some (sumE x)) ?_ (by simp) hdec
      show (acc ++ kept p (rem.eraseIdx i)).Perm (kept p l)
      rw [hk1, List.nil_append] at hk
      exact (hk.symm.append_left acc).trans hperm

end Go.Sm

namespace Go.Sm
open Go.RowKit

def by8 (n : Int) : UInt8 := UInt8.ofNat (n % 256).toNat
@[simp] theorem wrapu8 (n : Int) : IntKind.u8.wrap n = ((by8 n).toNat : Int) := by
  have h1 := Int.emod_nonneg n (show (256 : Int) ≠ 0 by decide)
  have h2 := Int.emod_lt_of_pos n (show (0 : Int) < 256 by decide)
  have : IntKind.u8.wrap n = n % 256 := by
    unfold IntKind.wrap
    simp [IntKind.signed, IntKind.bits]
  rw [this]
  unfold by8
  rw [UInt8.toNat_ofNat']
  omega
@[simp] theorem by8_toNat (x : UInt8) : by8 (x.toNat : Int) = x := by
  have := u8_lt x
  unfold by8
  apply UInt8.toNat_inj.1
  rw [UInt8.toNat_ofNat']
  omega

theorem eqExps_ok (x y : Ex) : CallOK Go.Proofs.Try.prog 151 [.agg x.ds, .agg y.ds] (.one (bo (decide (x = y)))) := by
  have hF := fnOk 17 [.tmp 4]
  refine callOK hF 60 Go.Proofs.Try.func151 rfl rfl rfl (by decide) (by simp) rfl ?_
  intro w0 hw
  have S := @vc_sound w0 _ hF ⟨(.one (bo (decide (x = y)))), []⟩ Go.Proofs.Try.f151 rfl (by simp)
  simp
  refine J.rounds 5 (LpW.step (S 60 _ _ ?_))
  simp
  refine J.dr hF mixed 6 [[], [0], [0, 1], [], [3], [3, 4], [0, 1, 2, 3, 4, 5]] [[10, 11, 12, 13, 14, 15], [11, 12, 13, 14, 15], [12, 13, 14, 15], [10, 11, 12, 13, 14, 15], [10, 11, 12, 14, 15], [10, 11, 12, 15]] (by decide) ?_
  simp
  refine S 60 _ _ ?_
  simp
  refine ⟨fun ha e => ha (by rw [e]), fun ha => LpW.inv (LpW.step (S 60 _ _ ?_))⟩
  simp
  refine J.dr hF mixed 6 [[], [0], [0, 1], [], [3], [3, 4], [0, 1, 2, 3, 4, 5]] [[10, 11, 12, 13, 14, 15], [11, 12, 13, 14, 15], [12, 13, 14, 15], [10, 11, 12, 13, 14, 15], [10, 11, 12, 14, 15], [10, 11, 12, 15]] (by decide) ?_
  simp
  refine S 60 _ _ ?_
  simp
  refine ⟨fun hb e => hb (by rw [e]), fun hb => LpW.inv (LpW.step (S 60 _ _ ?_))⟩
  simp
  refine J.dr hF mixed 6 [[], [0], [0, 1], [], [3], [3, 4], [0, 1, 2, 3, 4, 5]] [[10, 11, 12, 13, 14, 15], [11, 12, 13, 14, 15], [12, 13, 14, 15], [10, 11, 12, 13, 14, 15], [10, 11, 12, 14, 15], [10, 11, 12, 15]] (by decide) ?_
  simp
  refine S 60 _ _ ?_
  simp
  refine ⟨fun hc e => hc (by rw [e]), fun hc => LpW.inv (LpW.step (S 60 _ _ ?_))⟩
  simp
  cases x; cases y; simp_all

theorem eqTerm_ok (x y : Tm) : CallOK Go.Proofs.Try.prog 123 [.agg [u8 x.e.a, u8 x.e.b, u8 x.e.c, i64 x.v], .agg [u8 y.e.a, u8 y.e.b, u8 y.e.c, i64 y.v]] (.one (bo (decide (x = y)))) := by
  have hF := fnOk 16 [.tmp 4]
  refine callOK hF 60 Go.Proofs.Try.func123 rfl rfl rfl (by decide) (by simp) rfl ?_
  intro w0 hw
  have S := @vc_sound w0 _ hF ⟨(.one (bo (decide (x = y)))), []⟩ Go.Proofs.Try.f123 rfl (by simp)
  have c1 := eqExps_ok x.e y.e
  simp
  by_cases he : x.e = y.e
  · rw [decide_eq_true he] at c1
    refine CallW.ok (by decide) (by simp) c1 (by simp) (S 60 _ _ ?_)
    simp
    refine ⟨fun hv e => hv (by rw [e]), fun hv => ?_⟩
    cases x; cases y; simp_all
  · rw [decide_eq_false he] at c1
    refine CallW.ok (by decide) (by simp) c1 (by simp) (S 60 _ _ ?_)
    simp
    exact fun e => he (by rw [e])

theorem eqTermS_ok (xs ys : List Tm) (hl : xs.length ≤ 2000000) : CallOK Go.Proofs.Try.prog 84 [.one (vTerms xs), .one (vTerms ys)] (.one (bo (decide (xs = ys)))) := by
  have hF := fnOk 27 [.tmp 4]
  refine callOK hF 60 Go.Proofs.Try.func84 rfl rfl rfl (by decide) (by simp) rfl ?_
  intro w0 hw
  have S := @vc_sound w0 _ hF ⟨(.one (bo (decide (xs = ys)))), []⟩ Go.Proofs.Try.f84 rfl (by simp)
  simp
  refine ⟨fun hne e => hne (by rw [e]), fun he => ?_⟩
  refine J.loop hw (fun i : Nat => ⟨[(0, .c (.d (vTerms xs))), (1, .c (.d (vTerms ys))), (5, .c (.d (i64 i)))], []⟩)
    (fun i => i ≤ xs.length ∧ xs.take i = ys.take i) (fun i => xs.length - i) 0 (by simp) (by simp) ?_
  rintro i ⟨hi, ht⟩
  refine S 60 _ _ ?_
  simp
  refine ⟨fun hlt => ?_, fun hge => ?_⟩
  · refine J.dr hF mixed 8 [[], [], [0, 1], [0, 1, 2], [], [], [4, 5], [4, 5, 6], [0, 1, 2, 3, 4, 5, 6, 7], [0, 1, 2, 3, 4, 5, 6, 7, 8]] [[17, 18, 19, 20, 21, 22, 23, 24], [17, 18, 19, 20, 21, 22, 23, 24], [19, 20, 21, 22, 23, 24], [20, 21, 22, 23, 24], [17, 18, 19, 20, 21, 22, 23, 24], [17, 18, 19, 20, 21, 22, 23, 24], [17, 18, 19, 20, 23, 24], [17, 18, 19, 20, 24]] (by decide) ?_
    simp
    refine ⟨hlt, fun a ha => ⟨by omega, fun b hb => ?_⟩⟩
    have c1 := eqTerm_ok a b
    by_cases hab : a = b
    · rw [decide_eq_true hab] at c1
      refine S 60 _ _ ?_
      simp
      refine CallW.ok (by decide) (by simp) c1 (by simp) (S 60 _ _ ?_)
      simp
      subst hab
      refine Nxt.mk (i + 1) ⟨hlt, ?_⟩ (by simp [wrapS (i := i) (n := xs.length) hlt (by omega)]) (by omega)
      rw [List.take_add_one, List.take_add_one, ht, ha, hb]
    · rw [decide_eq_false hab] at c1
      refine S 60 _ _ ?_
      simp
      refine CallW.ok (by decide) (by simp) c1 (by simp) (S 60 _ _ ?_)
      simp
      intro e
      subst e
      rw [ha] at hb
      exact hab (Option.some.inj hb)
  · have h1 : xs = xs.take i := by rw [List.take_of_length_le (by omega)]
    have h2 : ys = ys.take i := by rw [List.take_of_length_le (by omega)]
    rw [h1, h2, ht]

theorem eqPoly_ok (p d p' d' : Int) (xs ys : List Tm) (hl : xs.length ≤ 2000000) : CallOK Go.Proofs.Try.prog 29 [pv p d xs, pv p' d' ys] (.one (bo (decide (p = p' ∧ d = d' ∧ xs = ys)))) := by
  have hF := fnOk 21 [.tmp 4]
  refine callOK hF 60 Go.Proofs.Try.func29 rfl rfl rfl (by decide) (by simp) rfl ?_
  intro w0 hw
  have S := @vc_sound w0 _ hF ⟨(.one (bo (decide (p = p' ∧ d = d' ∧ xs = ys)))), []⟩ Go.Proofs.Try.f29 rfl (by simp)
  have c1 := eqTermS_ok xs ys hl
  by_cases hp : p = p'
  · by_cases hd : d = d'
    · subst hp; subst hd
      have e : decide (p = p ∧ d = d ∧ xs = ys) = decide (xs = ys) := by simp
      rw [e] at S ⊢
      simp
      refine CallW.ok (by decide) (by simp) c1 (by simp) (S 60 _ _ ?_)
      by_cases hx : xs = ys
      · rw [decide_eq_true hx]; simp
      · rw [decide_eq_false hx]; simp
    · have hb : (d != d') = true := by simpa using hd
      have e : decide (p = p' ∧ d = d' ∧ xs = ys) = false := by simp [hd]
      rw [e]
      have hb0 : (p != p') = false := by simpa using hp
      simp [hb0, hb]
  · have hb : (p != p') = true := by simpa using hp
    have e : decide (p = p' ∧ d = d' ∧ xs = ys) = false := by simp [hp]
    rw [e]
    simp [hb]

/-- Marked terms: numbers from k on. -/
def markTs : Nat → Int → List Tm
  | 0, _ => []
  | n + 1, k => ⟨⟨by8 k, by8 (k + 1), by8 (k + 2)⟩, k + 3⟩ :: markTs n (k + 4)
theorem markTs_length : ∀ (n : Nat) (k : Int), (markTs n k).length = n
  | 0, _ => rfl
  | n + 1, k => by simp [markTs, markTs_length n]
theorem markTs_succ : ∀ (n : Nat) (k : Int), markTs (n + 1) k = markTs n k ++ [⟨⟨by8 (k + 4 * n), by8 (k + 4 * n + 1), by8 (k + 4 * n + 2)⟩, k + 4 * n + 3⟩]
  | 0, k => by simp [markTs]
  | n + 1, k => by
    have e : k + 4 + 4 * (n : Int) = k + 4 * ((n + 1 : Nat) : Int) := by omega
    rw [markTs, markTs_succ n (k + 4), markTs, List.cons_append, e]
theorem markTs_get {n : Nat} {k : Int} {i : Nat} {t : Tm} (h : (markTs n k)[i]? = some t) : t = ⟨⟨by8 (k + 4 * i), by8 (k + 4 * i + 1), by8 (k + 4 * i + 2)⟩, k + 4 * i + 3⟩ := by
  induction n generalizing k i with
  | zero => simp [markTs] at h
  | succ n ih =>
    cases i with
    | zero => simp [markTs] at h; rw [← h]; simp
    | succ i =>
      have := ih (k := k + 4) (i := i) (by simpa [markTs] using h)
      rw [this]
      have e : k + 4 + 4 * (i : Int) = k + 4 * ((i + 1 : Nat) : Int) := by omega
      rw [e]

theorem markTermS_ok (ts : List Tm) (k : Int) (hl : ts.length ≤ 2000000) (hk : 0 ≤ k) (hk2 : k ≤ 1000000000) : CallX Go.Proofs.Try.prog 74 [.one (oTerms ts), .one (i64 k)] ⟨(.one (i64 (k + 4 * ts.length))), [(0, oTerms (markTs ts.length k))]⟩ := by
  have hF := fnOk 35 [.tmp 4]
  refine callX hF 60 Go.Proofs.Try.func74 rfl rfl rfl (by decide) (by simp) rfl (by simp) (by simp [ownAt]) ?_
  intro w0 hw hfix
  have S := @vc_sound w0 _ hF ⟨(.one (i64 (k + 4 * ts.length))), [(0, oTerms (markTs ts.length k))]⟩ Go.Proofs.Try.f74 rfl hfix
  simp
  refine J.loop hw (fun p : Nat × List Tm => ⟨[(0, .c (.ob 0)), (1, .c (.d (i64 (k + 4 * p.1)))), (5, .c (.d (i64 p.1)))], [(0, .arr 108 4 (terms p.2))]⟩)
    (fun p => p.1 ≤ ts.length ∧ p.2.length = ts.length ∧ p.2.take p.1 = markTs p.1 k) (fun p => ts.length - p.1) (0, ts) (by simp [markTs]) (by simp) ?_
  rintro ⟨i, zs⟩ ⟨hi, hlen, htk⟩
  simp only at hi hlen htk
  have w1 : IntKind.i64.wrap (k + 4 * (i : Int) + 1) = k + 4 * i + 1 := wrap64 (by omega) (by omega)
  have w2 : IntKind.i64.wrap (k + 4 * (i : Int) + 1 + 1) = k + 4 * i + 2 := by rw [wrap64 (by omega) (by omega)]; omega
  have w3 : IntKind.i64.wrap (k + 4 * (i : Int) + 2 + 1) = k + 4 * i + 3 := by rw [wrap64 (by omega) (by omega)]; omega
  have w4 : IntKind.i64.wrap (k + 4 * (i : Int) + 3 + 1) = k + 4 * (i + 1 : Nat) := by rw [wrap64 (by omega) (by omega)]; omega
  refine S 60 _ _ ?_
  simp
  refine ⟨fun hlt => ?_, fun hge => ?_⟩
  · obtain ⟨t, ht⟩ : ∃ t, zs[i]? = some t := ⟨_, List.getElem?_eq_getElem (by omega)⟩
    refine J.rounds 5 (LpW.step (S 60 _ _ ?_))
    simp [ht, w1]
    refine ⟨by omega, LpW.inv (LpW.step (S 60 _ _ ?_))⟩
    simp [hlt, w2]
    refine LpW.inv (LpW.step (S 60 _ _ ?_))
    simp [hlt, w3]
    refine LpW.inv (LpW.step (S 60 _ _ ?_))
    simp [hlt, w4]
    refine Nxt.mk (i + 1, zs.set i ⟨⟨by8 (k + 4 * i), by8 (k + 4 * i + 1), by8 (k + 4 * i + 2)⟩, k + 4 * i + 3⟩) ⟨by show i + 1 ≤ _; omega, by simpa using hlen, ?_⟩ (by simp [wrapS (i := i) (n := ts.length) (by omega) (by omega), List.map_set]) (by show ts.length - (i + 1) < ts.length - i; omega)
    show (zs.set i _).take (i + 1) = markTs (i + 1) k
    rw [List.take_add_one, List.take_set_of_le (Nat.le_refl i), htk, markTs_succ]
    simp [show i < zs.length by omega]
  · have e : i = ts.length := by omega
    have hz : zs = markTs ts.length k := by
      rw [e, ← hlen, List.take_length] at htk
      rw [htk, hlen]
    refine ⟨by omega, by rw [hz]⟩

theorem heldTermS_ok (n : Nat) (k : Int) (hl : n ≤ 2000000) (hk : 0 ≤ k) (hk2 : k ≤ 1000000000) : CallOK Go.Proofs.Try.prog 85 [.one (vTerms (markTs n k)), .one (i64 k)] (.one (i64 (k + 4 * n))) := by
  have hF := fnOk 39 [.tmp 4]
  refine callOK hF 60 Go.Proofs.Try.func85 rfl rfl rfl (by decide) (by simp) rfl ?_
  intro w0 hw
  have S := @vc_sound w0 _ hF ⟨(.one (i64 (k + 4 * n))), []⟩ Go.Proofs.Try.f85 rfl (by simp)
  have hlen := markTs_length n k
  simp
  refine J.loop hw (fun i : Nat => ⟨[(0, .c (.d (vTerms (markTs n k)))), (1, .c (.d (i64 (k + 4 * i)))), (5, .c (.d (i64 i)))], []⟩)
    (fun i => i ≤ n) (fun i => n - i) 0 (by simp) (by simp) ?_
  intro i hi
  have w1 : IntKind.i64.wrap (k + 4 * (i : Int) + 1) = k + 4 * i + 1 := wrap64 (by omega) (by omega)
  have w2 : IntKind.i64.wrap (k + 4 * (i : Int) + 1 + 1) = k + 4 * i + 2 := by rw [wrap64 (by omega) (by omega)]; omega
  have w3 : IntKind.i64.wrap (k + 4 * (i : Int) + 2 + 1) = k + 4 * i + 3 := by rw [wrap64 (by omega) (by omega)]; omega
  have w4 : IntKind.i64.wrap (k + 4 * (i : Int) + 3 + 1) = k + 4 * (i + 1 : Nat) := by rw [wrap64 (by omega) (by omega)]; omega
  refine S 60 _ _ ?_
  simp [hlen]
  refine ⟨fun hlt => ?_, fun hge => ?_⟩
  · refine J.rounds 5 (LpW.step (S 60 _ _ ?_))
    simp [w1, hlen]
    refine ⟨hlt, fun t ht => ?_⟩
    have hg := markTs_get ht
    simp [hg]
    refine LpW.inv (LpW.step (S 60 _ _ ?_))
    simp [w2, hlen]
    refine ⟨hlt, fun t2 ht2 => ?_⟩
    have hg2 := markTs_get ht2
    simp [hg2]
    refine LpW.inv (LpW.step (S 60 _ _ ?_))
    simp [w3, hlen]
    refine ⟨hlt, fun t3 ht3 => ?_⟩
    have hg3 := markTs_get ht3
    simp [hg3]
    refine LpW.inv (LpW.step (S 60 _ _ ?_))
    simp [w4, hlen]
    refine ⟨hlt, fun t4 ht4 => ?_⟩
    have hg4 := markTs_get ht4
    simp [hg4]
    exact Nxt.mk (i + 1) (by omega) (by simp [wrapS (i := i) (n := n) hlt (by omega)]) (by omega)
  · have : i = n := by omega
    subst this; rfl

theorem markPoly_ok (p d : Int) (ts : List Tm) (k : Int) (hl : ts.length ≤ 2000000) (hk : 0 ≤ k) (hk2 : k ≤ 1000000000) : CallX Go.Proofs.Try.prog 30 [po p d ts, .one (i64 k)] ⟨(.one (i64 (k + 4 * ts.length))), [(2, oTerms (markTs ts.length k))]⟩ := by
  have hF := fnOk 10 [.tmp 4]
  refine callX hF 60 Go.Proofs.Try.func30 rfl rfl rfl (by decide) (by simp) rfl (by simp) (by simp [ownAt]) ?_
  intro w0 hw hfix
  have S := @vc_sound w0 _ hF ⟨(.one (i64 (k + 4 * ts.length))), [(2, oTerms (markTs ts.length k))]⟩ Go.Proofs.Try.f30 rfl hfix
  have c1 := markTermS_ok ts k hl hk hk2
  simp
  refine CallW.mut c1 (by decide) (by simp) (by simp) (by simp) (by simp) (by simp) (by simp) ?_
  refine S 60 _ _ ?_
  simp

theorem heldPoly_ok (p d : Int) (n : Nat) (k : Int) (hl : n ≤ 2000000) (hk : 0 ≤ k) (hk2 : k ≤ 1000000000) : CallOK Go.Proofs.Try.prog 31 [pv p d (markTs n k), .one (i64 k)] (.one (i64 (k + 4 * n))) := by
  have hF := fnOk 12 [.tmp 4]
  refine callOK hF 60 Go.Proofs.Try.func31 rfl rfl rfl (by decide) (by simp) rfl ?_
  intro w0 hw
  have S := @vc_sound w0 _ hF ⟨(.one (i64 (k + 4 * n))), []⟩ Go.Proofs.Try.f31 rfl (by simp)
  have c1 := heldTermS_ok n k hl hk hk2
  simp
  refine CallW.ok (by decide) (by simp) c1 (by simp) (S 60 _ _ ?_)
  have hb : ¬ (k + 4 * (n : Int) < 0) := by omega
  simp [hb]

end Go.Sm

namespace Go.Sm
open Go.RowKit

abbrev exs (es : List Ex) : List (List D) := es.map fun e => [u8 e.a, u8 e.b, u8 e.c]
abbrev oExs (es : List Ex) : D := .own 88 3 (exs es)
abbrev vExs (es : List Ex) : D := .vw true 3 (exs es)

/-- f (k - 1), f (k - 2), .. -/
def downTo (f : Nat → List Ex) : Nat → List Ex
  | 0 => []
  | k + 1 => f k ++ downTo f k
theorem downTo_len {f : Nat → List Ex} {m : Nat} (h : ∀ k, (f k).length ≤ m) : ∀ k, (downTo f k).length ≤ k * m
  | 0 => by simp [downTo]
  | k + 1 => by
    have := downTo_len h k
    have := h k
    rw [downTo, List.length_append, Nat.add_mul]; omega
def mkE (a b c : Nat) : Ex := ⟨by8 a, by8 b, by8 c⟩
/-- Is it a monomial in d letters. -/
def inD (d : Int) (b c : Nat) : Prop := ¬ (d < 2 ∧ 0 < b) ∧ ¬ (d < 3 ∧ 0 < c)
instance (d : Int) (b c : Nat) : Decidable (inD d b c) := by unfold inD; infer_instance
def monRow (d : Int) (n a : Nat) (b : Nat) : List Ex := if inD d b (n - a - b) then [mkE a b (n - a - b)] else []
def mons (d : Int) (n : Nat) : List Ex := downTo (fun a => downTo (monRow d n a) (n - a + 1)) (n + 1)
theorem monRow_len (d : Int) (n a b : Nat) : (monRow d n a b).length ≤ 1 := by unfold monRow; split <;> simp
theorem mons_len (d : Int) (n : Nat) (hn : n ≤ 12) : (mons d n).length ≤ 169 := by
  have h : ∀ a, (downTo (monRow d n a) (n - a + 1)).length ≤ 13 := by
    intro a
    have := downTo_len (monRow_len d n a) (n - a + 1)
    omega
  have := downTo_len h (n + 1)
  unfold mons
  omega

set_option maxRecDepth 4000 in
set_option maxHeartbeats 1000000 in
theorem monomials_ok (d : Int) (n : Nat) (hd : 1 ≤ d ∧ d ≤ 3) (hn : n ≤ 12) : CallOK Go.Proofs.Try.prog 82 [.one (i64 d), .one (i64 n)] (.one (oExs (mons d n))) := by
  have hF := fnOk 52 [.tmp 4]
  refine callOK hF 60 Go.Proofs.Try.func82 rfl rfl rfl (by decide) (by simp) rfl ?_
  intro w0 hw
  have S := @vc_sound w0 _ hF ⟨(.one (oExs (mons d n))), []⟩ Go.Proofs.Try.f82 rfl (by simp)
  have hml := mons_len d n hn
  simp
  refine J.loop hw (fun q : Nat × List Ex => ⟨[(0, .c (.d (i64 d))), (1, .c (.d (i64 n))), (5, .c (.ob 64005)), (6, .c (.d (i64 ((q.1 : Int) - 1))))], [(64005, .arr 88 3 (exs q.2))]⟩)
    (fun q => q.1 ≤ n + 1 ∧ q.2 ++ downTo (fun a => downTo (monRow d n a) (n - a + 1)) q.1 = mons d n) (fun q => q.1) (n + 1, []) (by simp [mons]) (by simp) ?_
  rintro ⟨A, acc⟩ ⟨hA, hacc⟩
  simp only at hA hacc
  cases A with
  | zero =>
    have : acc = mons d n := by simpa [downTo] using hacc
    refine S 60 _ _ ?_
    simp [this]
  | succ a =>
    have w1 : IntKind.i64.wrap ((n : Int) - a) = ((n - a : Nat) : Int) := by rw [wrap64 (by omega) (by omega)]; omega
    have hge : (0 : Int) ≤ a := by omega
    refine S 60 _ _ ?_
    simp [w1]
    refine J.loop hw (fun q : Nat × List Ex => ⟨[(0, .c (.d (i64 d))), (1, .c (.d (i64 n))), (5, .c (.ob 64005)), (6, .c (.d (i64 (a : Int)))), (7, .c (.d (i64 ((q.1 : Int) - 1))))], [(64005, .arr 88 3 (exs q.2))]⟩)
      (fun q => q.1 ≤ n - a + 1 ∧ q.2 ++ (downTo (monRow d n a) q.1 ++ downTo (fun a => downTo (monRow d n a) (n - a + 1)) a) = mons d n) (fun q => q.1) (n - a + 1, acc) (by simpa [downTo] using hacc) (by simp) ?_
    rintro ⟨B, acc⟩ ⟨hB, hacc⟩
    simp only at hB hacc
    have hal : acc.length ≤ 169 := by
      have := congrArg List.length hacc
      simp only [List.length_append] at this
      omega
    cases B with
    | zero =>
      refine S 60 _ _ ?_
      simp
      refine Nxt.mk (a, acc) ⟨by show a ≤ n + 1; omega, by simpa [downTo] using hacc⟩ ?_ (by show a < a + 1; omega)
      have w2 : IntKind.i64.wrap ((a : Int) - 1) = (a : Int) - 1 := wrap64 (by omega) (by omega)
      simp [w2]
    | succ b =>
      have w3 : IntKind.i64.wrap ((n : Int) - a - b) = ((n - a - b : Nat) : Int) := by rw [wrap64 (by omega) (by omega)]; omega
      have w3' : IntKind.i64.wrap (((n - a : Nat) : Int) - b) = ((n - a - b : Nat) : Int) := by rw [wrap64 (by omega) (by omega)]; omega
      have w4 : IntKind.i64.wrap ((b : Int) - 1) = (b : Int) - 1 := wrap64 (by omega) (by omega)
      have hskip : ¬ inD d b (n - a - b) → b ≤ n - a + 1 ∧ acc ++ (downTo (monRow d n a) b ++ downTo (fun a => downTo (monRow d n a) (n - a + 1)) a) = mons d n := by
        intro h
        have hm : monRow d n a b = [] := by unfold monRow; rw [if_neg h]
        refine ⟨by omega, ?_⟩
        rw [← hacc]; simp [downTo, hm]
      have hput : inD d b (n - a - b) → b ≤ n - a + 1 ∧ (acc ++ [mkE a b (n - a - b)]) ++ (downTo (monRow d n a) b ++ downTo (fun a => downTo (monRow d n a) (n - a + 1)) a) = mons d n := by
        intro h
        have hm : monRow d n a b = [mkE a b (n - a - b)] := by unfold monRow; rw [if_pos h]
        refine ⟨by omega, ?_⟩
        rw [← hacc]; simp [downTo, hm]
      have hb2 : (acc.length + 1) * 3 ≤ 140737488355328 := by omega
      by_cases h2 : d < 2
      · by_cases hb : 0 < b
        · have hbn : ¬ b = 0 := by omega
          refine S 90 _ _ ?_
          simp [w1, w3', h2, hb]
          refine Nxt.mk (b, acc) (hskip (by unfold inD; omega)) (by simp [w4]) (by show b < b + 1; omega)
        · have hb0 : b = 0 := by omega
          have h3 : d < 3 := by omega
          by_cases hc : 0 < n - a - b
          · have hcn : ¬ n - a - b = 0 := by omega
            refine S 90 _ _ ?_
            simp [w1, w3', h2, h3, hb, hc]
            refine Nxt.mk (b, acc) (hskip (by unfold inD; omega)) (by simp [w4]) (by show b < b + 1; omega)
          · refine S 90 _ _ ?_
            simp [w1, w3', h2, h3, hb, hc]
            refine ⟨⟨by omega, by omega⟩, ?_⟩
            refine Nxt.mk (b, acc ++ [mkE a b (n - a - b)]) (hput (by unfold inD; omega)) (by simp [w4, mkE]) (by show b < b + 1; omega)
      · by_cases h3 : d < 3
        · by_cases hc : 0 < n - a - b
          · have hcn : ¬ n - a - b = 0 := by omega
            refine S 90 _ _ ?_
            simp [w1, w3', h2, h3, hc]
            refine Nxt.mk (b, acc) (hskip (by unfold inD; omega)) (by simp [w4]) (by show b < b + 1; omega)
          · refine S 90 _ _ ?_
            simp [w1, w3', h2, h3, hc]
            refine ⟨⟨by omega, by omega⟩, ?_⟩
            refine Nxt.mk (b, acc ++ [mkE a b (n - a - b)]) (hput (by unfold inD; omega)) (by simp [w4, mkE]) (by show b < b + 1; omega)
        · refine S 90 _ _ ?_
          simp [w1, w3', h2, h3]
          refine ⟨⟨by omega, by omega⟩, ?_⟩
          refine Nxt.mk (b, acc ++ [mkE a b (n - a - b)]) (hput (by unfold inD; omega)) (by simp [w4, mkE]) (by show b < b + 1; omega)

theorem by8_nat {n : Nat} (h : n < 256) : (by8 (n : Int)).toNat = n := by
  unfold by8
  rw [UInt8.toNat_ofNat']
  omega
theorem by8_zero {n : Nat} (h : n < 256) : by8 (n : Int) = 0 ↔ n = 0 := by
  refine ⟨fun e => ?_, fun e => by subst e; rfl⟩
  have := by8_nat h
  rw [e] at this
  exact this.symm
theorem inV_mkE {d : Int} {a b c : Nat} (hd : 1 ≤ d) (h : a + b + c ≤ 12) : InV d (mkE a b c) ↔ inD d b c := by
  unfold InV inD mkE Ex.deg
  simp only [by8_zero (show b < 256 by omega), by8_zero (show c < 256 by omega), by8_nat (show a < 256 by omega), by8_nat (show b < 256 by omega), by8_nat (show c < 256 by omega)]
  omega

set_option maxRecDepth 4000 in
set_option maxHeartbeats 1000000 in
theorem l01Monomials_ok (d : Int) (n : Nat) (hd : 1 ≤ d ∧ d ≤ 3) (hn : n ≤ 12) : CallOK Go.Proofs.Try.prog 77 [.one (i64 d), .one (i64 n)] (.one (oExs (mons d n))) := by
  have hF := fnOk 41 [.tmp 4]
  refine callOK hF 60 Go.Proofs.Try.func77 rfl rfl rfl (by decide) (by simp) rfl ?_
  intro w0 hw
  have S := @vc_sound w0 _ hF ⟨(.one (oExs (mons d n))), []⟩ Go.Proofs.Try.f77 rfl (by simp)
  have hml := mons_len d n hn
  simp
  refine J.loop hw (fun q : Nat × List Ex => ⟨[(0, .c (.d (i64 d))), (1, .c (.d (i64 n))), (5, .c (.ob 64005)), (6, .c (.d (i64 ((q.1 : Int) - 1))))], [(64005, .arr 88 3 (exs q.2))]⟩)
    (fun q => q.1 ≤ n + 1 ∧ q.2 ++ downTo (fun a => downTo (monRow d n a) (n - a + 1)) q.1 = mons d n) (fun q => q.1) (n + 1, []) (by simp [mons]) (by simp) ?_
  rintro ⟨A, acc⟩ ⟨hA, hacc⟩
  simp only at hA hacc
  cases A with
  | zero =>
    have : acc = mons d n := by simpa [downTo] using hacc
    refine S 60 _ _ ?_
    simp [this]
  | succ a =>
    have w1 : IntKind.i64.wrap ((n : Int) - a) = ((n - a : Nat) : Int) := by rw [wrap64 (by omega) (by omega)]; omega
    have hge : (0 : Int) ≤ a := by omega
    refine S 60 _ _ ?_
    simp [w1]
    refine J.loop hw (fun q : Nat × List Ex => ⟨[(0, .c (.d (i64 d))), (1, .c (.d (i64 n))), (5, .c (.ob 64005)), (6, .c (.d (i64 (a : Int)))), (7, .c (.d (i64 ((q.1 : Int) - 1))))], [(64005, .arr 88 3 (exs q.2))]⟩)
      (fun q => q.1 ≤ n - a + 1 ∧ q.2 ++ (downTo (monRow d n a) q.1 ++ downTo (fun a => downTo (monRow d n a) (n - a + 1)) a) = mons d n) (fun q => q.1) (n - a + 1, acc) (by simpa [downTo] using hacc) (by simp) ?_
    rintro ⟨B, acc⟩ ⟨hB, hacc⟩
    simp only at hB hacc
    have hal : acc.length ≤ 169 := by
      have := congrArg List.length hacc
      simp only [List.length_append] at this
      omega
    cases B with
    | zero =>
      refine S 60 _ _ ?_
      simp
      refine Nxt.mk (a, acc) ⟨by show a ≤ n + 1; omega, by simpa [downTo] using hacc⟩ ?_ (by show a < a + 1; omega)
      have w2 : IntKind.i64.wrap ((a : Int) - 1) = (a : Int) - 1 := wrap64 (by omega) (by omega)
      simp [w2]
    | succ b =>
      have w3 : IntKind.i64.wrap ((n : Int) - a - b) = ((n - a - b : Nat) : Int) := by rw [wrap64 (by omega) (by omega)]; omega
      have w3' : IntKind.i64.wrap (((n - a : Nat) : Int) - b) = ((n - a - b : Nat) : Int) := by rw [wrap64 (by omega) (by omega)]; omega
      have w4 : IntKind.i64.wrap ((b : Int) - 1) = (b : Int) - 1 := wrap64 (by omega) (by omega)
      have hskip : ¬ inD d b (n - a - b) → b ≤ n - a + 1 ∧ acc ++ (downTo (monRow d n a) b ++ downTo (fun a => downTo (monRow d n a) (n - a + 1)) a) = mons d n := by
        intro h
        have hm : monRow d n a b = [] := by unfold monRow; rw [if_neg h]
        refine ⟨by omega, ?_⟩
        rw [← hacc]; simp [downTo, hm]
      have hput : inD d b (n - a - b) → b ≤ n - a + 1 ∧ (acc ++ [mkE a b (n - a - b)]) ++ (downTo (monRow d n a) b ++ downTo (fun a => downTo (monRow d n a) (n - a + 1)) a) = mons d n := by
        intro h
        have hm : monRow d n a b = [mkE a b (n - a - b)] := by unfold monRow; rw [if_pos h]
        refine ⟨by omega, ?_⟩
        rw [← hacc]; simp [downTo, hm]
      have c1 := l01Exps_ok d (mkE a b (n - a - b)) hd.1 hd.2
      have hiff : InV d (mkE a b (n - a - b)) ↔ inD d b (n - a - b) := inV_mkE hd.1 (by omega)
      by_cases h : inD d b (n - a - b)
      · rw [decide_eq_true (hiff.2 h)] at c1
        refine S 90 _ _ ?_
        simp [w1, w3']
        refine CallW.ok (by decide) (by simp [mkE]) c1 (by simp) (S 60 _ _ ?_)
        simp
        refine ⟨⟨by omega, by omega⟩, ?_⟩
        refine Nxt.mk (b, acc ++ [mkE a b (n - a - b)]) (hput h) (by simp [w4, mkE]) (by show b < b + 1; omega)
      · rw [decide_eq_false (fun q => h (hiff.1 q))] at c1
        refine S 90 _ _ ?_
        simp [w1, w3']
        refine CallW.ok (by decide) (by simp [mkE]) c1 (by simp) (S 60 _ _ ?_)
        simp
        refine Nxt.mk (b, acc) (hskip h) (by simp [w4]) (by show b < b + 1; omega)

end Go.Sm

namespace Go.Sm
open Go.RowKit

abbrev Asc (ts : List Tm) : Prop := ts.Pairwise fun a b => cmpE a.e b.e < 0
/-- Canonical terms. -/
def Can (p : Int) (ts : List Tm) : Prop := Asc ts ∧ ∀ t ∈ ts, 1 ≤ t.v ∧ t.v < p

theorem coef_none : ∀ {ts : List Tm} {e : Ex}, (∀ t ∈ ts, t.e ≠ e) → coef ts e = 0
  | [], _, _ => rfl
  | t :: ts, e, h => by
    rw [coef, if_neg (h t (List.mem_cons_self ..))]
    exact coef_none fun u hu => h u (List.mem_cons_of_mem _ hu)
theorem asc_ne {t : Tm} {ts : List Tm} (h : Asc (t :: ts)) : ∀ u ∈ ts, u.e ≠ t.e := by
  intro u hu e
  have := (List.pairwise_cons.1 h).1 u hu
  rw [e, cmpE_self] at this; omega
theorem coef_mem : ∀ {ts : List Tm} {t : Tm}, (ts.map (·.e)).Nodup → t ∈ ts → coef ts t.e = t.v
  | [], t, _, h => by cases h
  | u :: ts, t, hn, h => by
    simp only [List.map_cons, List.nodup_cons] at hn
    rcases List.mem_cons.1 h with rfl | h
    · simp [coef]
    · have : u.e ≠ t.e := fun e => hn.1 (by rw [e]; exact List.mem_map_of_mem h)
      rw [coef, if_neg this]; exact coef_mem hn.2 h
theorem asc_nodup {ts : List Tm} (h : Asc ts) : (ts.map (·.e)).Nodup := by
  rw [List.Nodup, List.pairwise_map]
  refine h.imp fun {a b} hab e => ?_
  rw [e, cmpE_self] at hab; omega
theorem coef_perm {xs ys : List Tm} (h : xs.Perm ys) (hn : (ys.map (·.e)).Nodup) (e : Ex) : coef xs e = coef ys e := by
  have hn' : (xs.map (·.e)).Nodup := ((h.map _).nodup_iff).2 hn
  by_cases hx : ∃ t ∈ xs, t.e = e
  · obtain ⟨t, ht, rfl⟩ := hx
    rw [coef_mem hn' ht, coef_mem hn (h.subset ht)]
  · have h1 : ∀ t ∈ xs, t.e ≠ e := fun t ht he => hx ⟨t, ht, he⟩
    rw [coef_none h1, coef_none fun t ht => h1 t (h.symm.subset ht)]

/-- Canonical terms with the same coefficients are the same. -/
theorem can_ext {p : Int} : ∀ {xs ys : List Tm}, Can p xs → Can p ys → (∀ e, coef xs e = coef ys e) → xs = ys
  | [], [], _, _, _ => rfl
  | [], u :: ys, _, hy, h => by
    have := h u.e
    simp only [coef, if_true] at this
    have := hy.2 u (List.mem_cons_self ..); omega
  | t :: xs, [], hx, _, h => by
    have := h t.e
    simp only [coef, if_true] at this
    have := hx.2 t (List.mem_cons_self ..); omega
  | t :: xs, u :: ys, hx, hy, h => by
    have ht := hx.2 t (List.mem_cons_self ..)
    have hu := hy.2 u (List.mem_cons_self ..)
    obtain ⟨a1, a2⟩ := List.pairwise_cons.1 hx.1
    obtain ⟨b1, b2⟩ := List.pairwise_cons.1 hy.1
    have htu : t.e = u.e := by
      apply Decidable.byContradiction
      intro hne
      have hk : t.e.key ≠ u.e.key := fun e => hne (key_inj e)
      rcases Int.lt_or_gt_of_ne hk with hlt | hlt
      · have h0 : coef (u :: ys) t.e = 0 := coef_none fun w hw => by
          rcases List.mem_cons.1 hw with rfl | hw
          · exact fun e => hne e.symm
          · have := (cmpE_key _ _).1 (b1 w hw)
            intro e; rw [e] at this; omega
        have := h t.e
        rw [h0] at this
        simp only [coef, if_true] at this; omega
      · have h0 : coef (t :: xs) u.e = 0 := coef_none fun w hw => by
          rcases List.mem_cons.1 hw with rfl | hw
          · exact hne
          · have := (cmpE_key _ _).1 (a1 w hw)
            intro e; rw [e] at this; omega
        have := h u.e
        rw [h0] at this
        simp only [coef, if_true] at this; omega
    have hv : t.v = u.v := by
      have := h t.e
      simp only [coef, if_true, htu] at this; exact this
    have : t = u := by cases t; cases u; simp_all
    subst this
    congr 1
    refine can_ext ⟨a2, fun w hw => hx.2 w (List.mem_cons_of_mem _ hw)⟩ ⟨b2, fun w hw => hy.2 w (List.mem_cons_of_mem _ hw)⟩ fun e => ?_
    by_cases he : t.e = e
    · subst he
      rw [coef_none (asc_ne hx.1), coef_none (asc_ne hy.1)]
    · have := h e
      simpa only [coef, if_neg he] using this

/-! ### a number put to a coefficient -/
theorem putGo_true (e : Ex) (v : Int) : ∀ (ts : List Tm), putGo e v true ts = ts.filter fun t => t.e ≠ e
  | [] => rfl
  | t :: ts => by
    simp only [putGo, Bool.true_or]
    rw [putGo_true e v ts]
    by_cases h : t.e = e <;> simp [h]
theorem coef_filter {e e' : Ex} : ∀ (ts : List Tm), coef (ts.filter fun t => t.e ≠ e) e' = if e' = e then 0 else coef ts e'
  | [] => by simp [coef]
  | t :: ts => by
    have ih := coef_filter (e := e) (e' := e') ts
    rw [List.filter_cons]
    by_cases h : t.e = e
    · rw [if_neg (by simpa using h), ih]
      by_cases h2 : e' = e
      · simp [h2]
      · rw [if_neg h2, if_neg h2, coef, if_neg (fun q => h2 (by rw [← q, h]))]
    · rw [if_pos (by simpa using h), coef, ih]
      by_cases h2 : e' = e
      · rw [if_pos h2, if_pos h2, if_neg (fun q => h (by rw [q, h2]))]
      · rw [if_neg h2, if_neg h2, coef]
theorem putGo_coef {e e' : Ex} {v : Int} : ∀ {ts : List Tm}, Asc ts → coef (putGo e v false ts) e' = if e' = e then v else coef ts e'
  | [], _ => by
    simp only [putGo, coef, Bool.false_eq_true, if_false]
    by_cases h : e' = e
    · simp [h]
    · rw [if_neg (fun q => h q.symm), if_neg h]
  | t :: ts, hs => by
    obtain ⟨h1, h2⟩ := List.pairwise_cons.1 hs
    have ih := putGo_coef (e := e) (e' := e') (v := v) h2
    by_cases hlt : cmpE e t.e < 0
    · have hne : t.e ≠ e := fun q => by rw [q, cmpE_self] at hlt; omega
      simp only [putGo, hlt, decide_true, Bool.or_true, and_self, if_true, if_neg hne, List.cons_append, List.nil_append, coef, putGo_true, coef_filter]
      by_cases h : e' = e
      · simp [h]
      · rw [if_neg (fun q => h q.symm), if_neg h, if_neg h]
    · by_cases he : t.e = e
      · simp only [putGo, hlt, and_false, if_false, if_pos he, List.nil_append, decide_false, Bool.or_false, ih]
        by_cases h : e' = e
        · rw [if_pos h, if_pos h]
        · rw [if_neg h, if_neg h, coef, if_neg (fun q => h (by rw [← q, he]))]
      · simp only [putGo, hlt, and_false, if_false, if_neg he, List.nil_append, List.cons_append, decide_false, Bool.or_false, coef, ih]
        by_cases h : e' = e
        · rw [if_pos h, if_pos h, if_neg (fun q => he (by rw [q, h]))]
        · rw [if_neg h, if_neg h]
theorem putGo_mem {e : Ex} {v : Int} : ∀ {ts : List Tm} {b : Bool} {t : Tm}, t ∈ putGo e v b ts → t = ⟨e, v⟩ ∧ b = false ∨ t ∈ ts ∧ t.e ≠ e
  | [], b, t, h => by
    cases b <;> simp [putGo] at h
    exact .inl ⟨h, rfl⟩
  | u :: ts, b, t, h => by
    simp only [putGo, List.mem_append] at h
    rcases h with h | h | h
    · split at h
      · rename_i hb; simp only [List.mem_singleton] at h; exact .inl ⟨h, hb.1⟩
      · cases h
    · split at h
      · cases h
      · rename_i hu; simp only [List.mem_singleton] at h; exact .inr ⟨by rw [h]; exact List.mem_cons_self .., by rw [h]; exact hu⟩
    · rcases putGo_mem h with ⟨h1, h2⟩ | ⟨h1, h2⟩
      · cases b <;> simp at h2
        exact .inl ⟨h1, rfl⟩
      · exact .inr ⟨List.mem_cons_of_mem _ h1, h2⟩
theorem putGo_asc {e : Ex} {v : Int} : ∀ {ts : List Tm}, Asc ts → Asc (putGo e v false ts)
  | [], _ => by simp [putGo]
  | t :: ts, hs => by
    obtain ⟨h1, h2⟩ := List.pairwise_cons.1 hs
    by_cases hlt : cmpE e t.e < 0
    · have hne : t.e ≠ e := fun q => by rw [q, cmpE_self] at hlt; omega
      have hall : ∀ u ∈ t :: ts, cmpE e u.e < 0 := by
        intro u hu
        rcases List.mem_cons.1 hu with rfl | hu
        · exact hlt
        · have q1 := (cmpE_key _ _).1 hlt
          have q2 := (cmpE_key _ _).1 (h1 u hu)
          exact (cmpE_key _ _).2 (by omega)
      have hf : ts.filter (fun u => u.e ≠ e) = ts := List.filter_eq_self.2 fun u hu => by
        have := hall u (List.mem_cons_of_mem _ hu)
        have : u.e ≠ e := fun q => by rw [q, cmpE_self] at this; omega
        simpa using this
      simp only [putGo, hlt, decide_true, Bool.or_true, and_self, if_true, if_neg hne, List.cons_append, List.nil_append, putGo_true, hf]
      exact List.pairwise_cons.2 ⟨hall, hs⟩
    · by_cases he : t.e = e
      · simp only [putGo, hlt, and_false, if_false, if_pos he, List.nil_append, decide_false, Bool.or_false]
        exact putGo_asc h2
      · simp only [putGo, hlt, and_false, if_false, if_neg he, List.nil_append, List.cons_append, decide_false, Bool.or_false]
        refine List.pairwise_cons.2 ⟨fun u hu => ?_, putGo_asc h2⟩
        rcases putGo_mem hu with ⟨rfl, _⟩ | ⟨hu, _⟩
        · rw [cmpE_key] at *
          have : e.key ≠ t.e.key := fun q => he (key_inj q).symm
          simp only; omega
        · exact h1 u hu
theorem putT_can {p : Int} {ts : List Tm} (hp : 0 < p) (h : Can p ts) (e : Ex) (v : Int) : Can p (putT p ts e v) ∧ ∀ e', coef (putT p ts e v) e' = if e' = e then (v + coef ts e) % p else coef ts e' := by
  unfold putT
  have q1 := Int.emod_nonneg (v + coef ts e) (show p ≠ 0 by omega)
  have q2 := Int.emod_lt_of_pos (v + coef ts e) hp
  by_cases h0 : (v + coef ts e) % p = 0
  · have : ((v + coef ts e) % p == 0) = true := by simpa using h0
    rw [this, putGo_true]
    refine ⟨⟨h.1.sublist List.filter_sublist, fun t ht => h.2 t (List.mem_filter.1 ht).1⟩, fun e' => ?_⟩
    rw [coef_filter, h0]
  · have : ((v + coef ts e) % p == 0) = false := by simpa using h0
    rw [this]
    refine ⟨⟨putGo_asc h.1, fun t ht => ?_⟩, fun e' => putGo_coef h.1⟩
    rcases putGo_mem ht with ⟨rfl, _⟩ | ⟨ht, _⟩
    · simp only; omega
    · exact h.2 t ht
theorem can_nil (p : Int) : Can p [] := ⟨List.Pairwise.nil, fun _ h => by cases h⟩
theorem coef_bound {p : Int} {ts : List Tm} (hp : 0 < p) (h : Can p ts) (e : Ex) : 0 ≤ coef ts e ∧ coef ts e < p := by
  by_cases hx : ∃ t ∈ ts, t.e = e
  · obtain ⟨t, ht, rfl⟩ := hx
    rw [coef_mem (asc_nodup h.1) ht]
    have := h.2 t ht; omega
  · rw [coef_none fun t ht he => hx ⟨t, ht, he⟩]; omega
theorem putGo_length {e : Ex} {v : Int} : ∀ {ts : List Tm} {b : Bool}, (putGo e v b ts).length ≤ ts.length + (if b then 0 else 1)
  | [], b => by cases b <;> simp [putGo]
  | t :: ts, b => by
    have ih := putGo_length (e := e) (v := v) (ts := ts) (b := b || decide (cmpE e t.e < 0))
    simp only [putGo, List.length_append, List.length_cons]
    by_cases h1 : cmpE e t.e < 0 <;> by_cases h2 : t.e = e <;> cases b <;> simp [h1, h2, cmpE_self] at ih ⊢ <;> omega
theorem putT_length (p : Int) (ts : List Tm) (e : Ex) (v : Int) : (putT p ts e v).length ≤ ts.length + 1 := by
  have := putGo_length (e := e) (v := (v + coef ts e) % p) (ts := ts) (b := (v + coef ts e) % p == 0)
  unfold putT
  split at this <;> omega

/-! ### sums -/
def sget : List (Ex × Int) → Ex → Int
  | [], _ => 0
  | x :: l, e => if x.1 = e then x.2 else sget l e
def sput : List (Ex × Int) → Ex → Int → List (Ex × Int)
  | [], e, v => [(e, v)]
  | x :: l, e, v => if x.1 = e then (e, v) :: l else x :: sput l e v
theorem sget_sput (e e' : Ex) (v : Int) : ∀ l, sget (sput l e v) e' = if e' = e then v else sget l e'
  | [] => by
    simp only [sput, sget]
    by_cases h : e' = e
    · simp [h]
    · rw [if_neg (fun q => h q.symm), if_neg h]
  | x :: l => by
    simp only [sput]
    by_cases hx : x.1 = e
    · rw [if_pos hx]
      simp only [sget]
      by_cases h : e' = e
      · simp [h]
      · rw [if_neg (fun q => h q.symm), if_neg h, if_neg (fun q => h (by rw [← q, hx]))]
    · rw [if_neg hx]
      simp only [sget, sget_sput e e' v l]
      by_cases h : e' = e
      · rw [if_pos h, if_pos h, if_neg (fun q => hx (by rw [q, h]))]
      · rw [if_neg h, if_neg h]
theorem sput_keys (e : Ex) (v : Int) : ∀ l : List (Ex × Int), (sput l e v).map (·.1) = if e ∈ l.map (·.1) then l.map (·.1) else l.map (·.1) ++ [e]
  | [] => by simp [sput]
  | x :: l => by
    have ih := sput_keys e v l
    simp only [sput]
    by_cases hx : x.1 = e
    · simp [hx]
    · rw [if_neg hx, List.map_cons, ih]
      have hx' : ¬ e = x.1 := fun q => hx q.symm
      by_cases h : e ∈ l.map (·.1)
      · rw [if_pos h, if_pos (by simp [h]), List.map_cons]
      · rw [if_neg h, if_neg (by simp only [List.map_cons, List.mem_cons, not_or]; exact ⟨hx', h⟩), List.map_cons, List.cons_append]
theorem sput_nodup {l : List (Ex × Int)} (h : (l.map (·.1)).Nodup) (e : Ex) (v : Int) : ((sput l e v).map (·.1)).Nodup := by
  rw [sput_keys]
  split
  · exact h
  · rename_i hn
    rw [List.nodup_append]
    exact ⟨h, by simp, fun a ha b hb => by simp only [List.mem_singleton] at hb; subst hb; exact fun e => hn (e ▸ ha)⟩
theorem sput_length (l : List (Ex × Int)) (e : Ex) (v : Int) : (sput l e v).length ≤ l.length + 1 := by
  have := congrArg List.length (sput_keys e v l)
  rw [List.length_map] at this
  rw [this]
  split <;> simp
theorem sget_mem : ∀ {l : List (Ex × Int)} {x : Ex × Int}, (l.map (·.1)).Nodup → x ∈ l → sget l x.1 = x.2
  | [], x, _, h => by cases h
  | y :: l, x, hn, h => by
    simp only [List.map_cons, List.nodup_cons] at hn
    rcases List.mem_cons.1 h with rfl | h
    · simp [sget]
    · have : y.1 ≠ x.1 := fun e => hn.1 (by rw [e]; exact List.mem_map_of_mem h)
      rw [sget, if_neg this]; exact sget_mem hn.2 h
theorem sget_none : ∀ {l : List (Ex × Int)} {e : Ex}, (∀ x ∈ l, x.1 ≠ e) → sget l e = 0
  | [], _, _ => rfl
  | x :: l, e, h => by
    rw [sget, if_neg (h x (List.mem_cons_self ..))]
    exact sget_none fun u hu => h u (List.mem_cons_of_mem _ hu)

theorem ofSum_can {p : Int} {l : List (Ex × Int)} (hp : 0 < p) (hn : (l.map (·.1)).Nodup) : Can p (ofSum p l) ∧ ∀ e, coef (ofSum p l) e = sget l e % p := by
  have hk := kept_keys (p := p) hn
  refine ⟨⟨srt_sorted hk, fun t ht => ?_⟩, fun e => ?_⟩
  · have ht := (srt_perm _).subset ht
    obtain ⟨x, hx, hx2⟩ := List.mem_filterMap.1 ht
    split at hx2
    · cases hx2
    · rename_i h0
      simp only [Option.some.injEq] at hx2; subst hx2
      have q1 := Int.emod_nonneg x.2 (show p ≠ 0 by omega)
      have q2 := Int.emod_lt_of_pos x.2 hp
      simp only; omega
  · unfold ofSum
    rw [coef_perm (srt_perm _) hk]
    by_cases hx : ∃ x ∈ l, x.1 = e
    · obtain ⟨x, hx, rfl⟩ := hx
      rw [sget_mem hn hx]
      by_cases h0 : x.2 % p = 0
      · rw [h0]
        refine coef_none fun t ht he => ?_
        obtain ⟨y, hy, hy2⟩ := List.mem_filterMap.1 ht
        split at hy2
        · cases hy2
        · rename_i h1
          simp only [Option.some.injEq] at hy2; subst hy2
          simp only at he
          have a1 := sget_mem hn hx
          have a2 := sget_mem hn hy
          rw [he] at a2
          rw [a1] at a2
          rw [← a2] at h1; exact h1 h0
      · have : (⟨x.1, x.2 % p⟩ : Tm) ∈ kept p l := List.mem_filterMap.2 ⟨x, hx, by rw [if_neg h0]⟩
        exact coef_mem hk this
    · rw [sget_none fun x hxl he => hx ⟨x, hxl, he⟩]
      have : (0 : Int) % p = 0 := by simp
      rw [this]
      refine coef_none fun t ht he => ?_
      obtain ⟨y, hy, hy2⟩ := List.mem_filterMap.1 ht
      split at hy2
      · cases hy2
      · simp only [Option.some.injEq] at hy2; subst hy2
        exact hx ⟨y, hy, he⟩
theorem ofSum_length (p : Int) (l : List (Ex × Int)) : (ofSum p l).length ≤ l.length := by
  unfold ofSum
  rw [(srt_perm _).length_eq]
  exact kept_length p l

/-! ### a sum in memory -/
abbrev exK (e : Ex) : List Int := [(e.a.toNat : Int), e.b.toNat, e.c.toNat]
theorem exK_inj {x y : Ex} (h : exK x = exK y) : x = y := by
  simp only [exK, List.cons.injEq, and_true] at h
  obtain ⟨h1, h2, h3⟩ := h
  cases x; cases y
  simp only [Ex.mk.injEq]
  exact ⟨u8_toNat_inj h1, u8_toNat_inj h2, u8_toNat_inj h3⟩
theorem exK_beq (x y : Ex) : (exK x == exK y) = decide (x = y) := by
  by_cases h : x = y
  · subst h; simp
  · rw [decide_eq_false h]
    exact beq_eq_false_iff_ne.2 fun e => h (exK_inj e)
theorem mpIdx_succ (k : List Int) : ∀ (xs : List (List Int × Value)) (i : Nat), mpIdx xs k (i + 1) = (mpIdx xs k i).map fun q => (q.1 + 1, q.2)
  | [], i => rfl
  | x :: xs, i => by
    simp only [mpIdx]
    split
    · rfl
    · exact mpIdx_succ k xs (i + 1)
theorem mpGet_sum (l : List (Ex × Int)) (e : Ex) : (mpGet (l.map fun p => sumE p) (exK e)).getD (.int .i64 0) = .int .i64 (sget l e) := by
  induction l with
  | nil => rfl
  | cons x l ih =>
    unfold mpGet at ih ⊢
    simp only [List.map_cons, mpIdx, sget]
    rw [show (exK e == (sumE x).1) = decide (e = x.1) from exK_beq e x.1]
    by_cases h : x.1 = e
    · simp [h]
    · have h' : ¬ e = x.1 := fun q => h q.symm
      rw [decide_eq_false h', if_neg h]
      simp only [Bool.false_eq_true, if_false, mpIdx_succ, Option.map_map]
      exact ih
theorem mpPut_sum (l : List (Ex × Int)) (e : Ex) (v : Int) : mpPut (l.map fun p => sumE p) (exK e) (.int .i64 v) = (sput l e v).map fun p => sumE p := by
  induction l with
  | nil => rfl
  | cons x l ih =>
    unfold mpPut at ih ⊢
    simp only [List.map_cons, mpIdx, sput]
    rw [show (exK e == (sumE x).1) = decide (e = x.1) from exK_beq e x.1]
    by_cases h : x.1 = e
    · simp [h]
    · have h' : ¬ e = x.1 := fun q => h q.symm
      rw [decide_eq_false h', if_neg h]
      simp only [Bool.false_eq_true, if_false, mpIdx_succ]
      cases hq : mpIdx (l.map fun p => sumE p) (exK e) 0 with
      | none => rw [hq] at ih; simp only [Option.map_none, List.map_cons, List.cons_append]; rw [← ih]
      | some q => rw [hq] at ih; simp only [Option.map_some, List.map_cons, List.set_cons_succ]; rw [← ih]

end Go.Sm

namespace Go.Sm
open Go.RowKit

theorem Pr.pos {p : Int} (h : Pr p) : 2 ≤ p ∧ p ≤ 13 := by unfold Pr at h; omega

/-- A polynomial and a code, as results. -/
abbrev pres (p d : Int) (ts : List Tm) (c : Int) : RV := .tup [(true, [i64 p, i64 d, oTerms ts]), (false, [i64 c])]

def sumOf (es : List Ex) : List (Ex × Int) := es.foldl (fun l e => sput l e 1) []
def putAll (p : Int) (es : List Ex) : List Tm := es.foldl (fun ts e => putT p ts e 1) []
theorem sumOf_snoc (es : List Ex) (e : Ex) : sumOf (es ++ [e]) = sput (sumOf es) e 1 := by simp [sumOf]
theorem putAll_snoc (p : Int) (es : List Ex) (e : Ex) : putAll p (es ++ [e]) = putT p (putAll p es) e 1 := by simp [putAll]
theorem snoc_ind {P : List Ex → Prop} (h0 : P []) (h1 : ∀ es e, P es → P (es ++ [e])) : ∀ es, P es := by
  intro es
  have : ∀ (n : Nat) (es : List Ex), es.length = n → P es := by
    intro n
    induction n with
    | zero => intro es h; rw [List.length_eq_zero_iff.1 h]; exact h0
    | succ n ih =>
      intro es h
      have hne : es ≠ [] := fun e => by rw [e] at h; simp at h
      rw [← List.dropLast_concat_getLast hne]
      exact h1 _ _ (ih _ (by simp [h]))
  exact this _ es rfl
theorem sumOf_ok (es : List Ex) : ((sumOf es).map (·.1)).Nodup ∧ (sumOf es).length ≤ es.length ∧ ∀ e, sget (sumOf es) e = if e ∈ es then 1 else 0 := by
  refine snoc_ind (P := fun es => ((sumOf es).map (·.1)).Nodup ∧ (sumOf es).length ≤ es.length ∧ ∀ e, sget (sumOf es) e = if e ∈ es then 1 else 0) ?_ ?_ es
  · exact ⟨by simp [sumOf], by simp [sumOf], fun e => by simp [sumOf, sget]⟩
  · intro es e ⟨h1, h2, h3⟩
    rw [sumOf_snoc]
    have := sput_length (sumOf es) e 1
    refine ⟨sput_nodup h1 e 1, by rw [List.length_append]; simp; omega, fun e' => ?_⟩
    rw [sget_sput, h3]
    by_cases h : e' = e <;> simp [h]
theorem putAll_ok {p : Int} (hp : 2 ≤ p) (es : List Ex) (hn : es.Nodup) : Can p (putAll p es) ∧ (putAll p es).length ≤ es.length ∧ ∀ e, coef (putAll p es) e = if e ∈ es then 1 else 0 := by
  revert hn
  refine snoc_ind (P := fun es => es.Nodup → Can p (putAll p es) ∧ (putAll p es).length ≤ es.length ∧ ∀ e, coef (putAll p es) e = if e ∈ es then 1 else 0) ?_ ?_ es
  · intro _; exact ⟨can_nil p, by simp [putAll], fun e => by simp [putAll, coef]⟩
  · intro es e ih hn
    rw [List.nodup_append] at hn
    obtain ⟨h1, h2, h3⟩ := ih hn.1
    have he : e ∉ es := fun h => hn.2.2 e h e (by simp) rfl
    rw [putAll_snoc]
    obtain ⟨q1, q2⟩ := putT_can (show 0 < p by omega) h1 e 1
    have := putT_length p (putAll p es) e 1
    refine ⟨q1, by rw [List.length_append]; simp; omega, fun e' => ?_⟩
    rw [q2, h3 e, h3 e']
    by_cases h : e' = e
    · simp only [h, he, if_true, if_false, Int.add_zero, List.mem_append, List.mem_singleton, or_true]
      exact Int.emod_eq_of_lt (by omega) (by omega)
    · simp [h]
theorem putAll_eq {p : Int} (hp : 2 ≤ p) (es : List Ex) (hn : es.Nodup) : ofSum p (sumOf es) = putAll p es := by
  obtain ⟨h1, h2, h3⟩ := putAll_ok hp es hn
  obtain ⟨g1, g2, g3⟩ := sumOf_ok es
  obtain ⟨k1, k2⟩ := ofSum_can (p := p) (by omega) g1
  refine can_ext k1 h1 fun e => ?_
  rw [k2, h3, g3]
  split
  · exact Int.emod_eq_of_lt (by omega) (by omega)
  · simp

theorem downTo_mem {f : Nat → List Ex} {e : Ex} : ∀ {k : Nat}, e ∈ downTo f k → ∃ i < k, e ∈ f i
  | 0, h => by simp [downTo] at h
  | k + 1, h => by
    rw [downTo, List.mem_append] at h
    rcases h with h | h
    · exact ⟨k, by omega, h⟩
    · obtain ⟨i, hi, he⟩ := downTo_mem h
      exact ⟨i, by omega, he⟩
theorem downTo_nodup {f : Nat → List Ex} : ∀ {k : Nat}, (∀ i < k, (f i).Nodup) → (∀ i j, i < k → j < k → i ≠ j → ∀ e ∈ f i, e ∉ f j) → (downTo f k).Nodup
  | 0, _, _ => by simp [downTo]
  | k + 1, h1, h2 => by
    rw [downTo, List.nodup_append]
    refine ⟨h1 k (by omega), downTo_nodup (fun i hi => h1 i (by omega)) (fun i j hi hj => h2 i j (by omega) (by omega)), fun a ha b hb => ?_⟩
    rintro rfl
    obtain ⟨i, hi, hb⟩ := downTo_mem hb
    exact h2 k i (by omega) (by omega) (by omega) a ha hb
theorem monRow_mem {d : Int} {n a b : Nat} {e : Ex} (h : e ∈ monRow d n a b) : e = mkE a b (n - a - b) := by
  unfold monRow at h
  split at h
  · simpa using h
  · cases h
theorem mkE_inj {a b c a' b' c' : Nat} (ha : a < 256) (hb : b < 256) (ha' : a' < 256) (hb' : b' < 256) (h : mkE a b c = mkE a' b' c') : a = a' ∧ b = b' := by
  unfold mkE at h
  simp only [Ex.mk.injEq] at h
  refine ⟨?_, ?_⟩
  · rw [← by8_nat ha, ← by8_nat ha', h.1]
  · rw [← by8_nat hb, ← by8_nat hb', h.2.1]
theorem mons_nodup (d : Int) (n : Nat) (hn : n ≤ 12) : (mons d n).Nodup := by
  unfold mons
  refine downTo_nodup (fun a ha => downTo_nodup (fun b hb => ?_) fun b b' hb hb' hne e he he' => ?_) fun a a' ha ha' hne e he he' => ?_
  · unfold monRow; split <;> simp
  · have h1 := monRow_mem he
    have h2 := monRow_mem he'
    rw [h1] at h2
    exact hne (mkE_inj (by omega) (by omega) (by omega) (by omega) h2).2
  · obtain ⟨b, hb, he⟩ := downTo_mem he
    obtain ⟨b', hb', he'⟩ := downTo_mem he'
    have h1 := monRow_mem he
    have h2 := monRow_mem he'
    rw [h1] at h2
    exact hne (mkE_inj (by omega) (by omega) (by omega) (by omega) h2).1

theorem l08Shape_ok (p d : Int) : CallOK Go.Proofs.Try.prog 75 [.one (i64 p), .one (i64 d)] (.one (bo (decide (Pr p ∧ 1 ≤ d ∧ d ≤ 3)))) := by
  have hF := fnOk 11 [.tmp 4]
  refine callOK hF 60 Go.Proofs.Try.func75 rfl rfl rfl (by decide) (by simp) rfl ?_
  intro w0 hw
  have S := @vc_sound w0 _ hF ⟨(.one (bo (decide (Pr p ∧ 1 ≤ d ∧ d ≤ 3)))), []⟩ Go.Proofs.Try.f75 rfl (by simp)
  have c1 := l01Prime_ok p
  have c2 := l01In_ok d 1 3
  by_cases hp : Pr p
  · rw [decide_eq_true hp] at c1
    have e : decide (Pr p ∧ 1 ≤ d ∧ d ≤ 3) = decide (1 ≤ d ∧ d ≤ 3) := by simp [hp]
    rw [e] at S ⊢
    generalize decide (1 ≤ d ∧ d ≤ 3) = b at S c2 ⊢
    simp
    refine CallW.ok (by decide) (by simp) c1 (by simp) (S 60 _ _ ?_)
    simp
    refine CallW.ok (by decide) (by simp) c2 (by simp) (S 60 _ _ ?_)
    simp
  · rw [decide_eq_false hp] at c1
    have e : decide (Pr p ∧ 1 ≤ d ∧ d ≤ 3) = false := by simp [hp]
    rw [e] at S ⊢
    simp
    refine CallW.ok (by decide) (by simp) c1 (by simp) (S 60 _ _ ?_)
    simp

def completeR (p d k : Int) : RV := if Pr p ∧ (1 ≤ d ∧ d ≤ 3) ∧ 0 ≤ k ∧ k ≤ 12 then pres p d (ofSum p (sumOf (mons d k.toNat))) 0 else pres 0 0 [] 2

set_option maxRecDepth 4000 in
theorem CompletePoly_ok (p d k : Int) : CallOK Go.Proofs.Try.prog 28 [.one (i64 p), .one (i64 d), .one (i64 k)] (completeR p d k) := by
  have hF := fnOk 41 [.cell 6 39, .tmp 7]
  refine callOK hF 60 Go.Proofs.Try.func28 rfl rfl rfl (by decide) (by simp) rfl ?_
  intro w0 hw
  have S := @vc_sound w0 _ hF ⟨(completeR p d k), []⟩ Go.Proofs.Try.f28 rfl (by simp)
  have c1 := isPrime_ok p
  have c2 := isVars_ok d
  have c3 := isDegree_ok k
  by_cases hp : Pr p
  · by_cases hd : 1 ≤ d ∧ d ≤ 3
    · by_cases hk : 0 ≤ k ∧ k ≤ 12
      · have e : completeR p d k = pres p d (ofSum p (sumOf (mons d k.toNat))) 0 := by unfold completeR; rw [if_pos ⟨hp, hd, hk⟩]
        rw [e] at S ⊢
        rw [decide_eq_true hp] at c1
        rw [decide_eq_true hd] at c2
        rw [decide_eq_true hk] at c3
        obtain ⟨n, rfl⟩ : ∃ n : Nat, k = n := ⟨k.toNat, by omega⟩
        have hpp := hp.pos
        have c4 := monomials_ok d n hd (by omega)
        have hml := mons_len d n (by omega)
        simp only [Int.toNat_natCast] at S ⊢
        generalize hes : mons d n = es at *
        simp
        refine CallW.ok (by decide) (by simp) c1 (by simp) (S 60 _ _ ?_)
        simp
        refine CallW.ok (by decide) (by simp) c2 (by simp) (S 60 _ _ ?_)
        simp
        refine CallW.ok (by decide) (by simp) c3 (by simp) (S 60 _ _ ?_)
        simp
        refine CallW.ok (by decide) (by simp) c4 (by simp) (S 60 _ _ ?_)
        simp
        refine J.loop hw (fun i : Nat => ⟨[(0, .c (.d (i64 p))), (1, .c (.d (i64 d))), (6, .c (.ref 64006 0)), (8, .c (.ob 64008)), (28, .c (.ob 64028)), (29, .c (.d (i64 es.length))), (30, .c (.d (i64 i)))],
            [(64006, .var [.d (i64 0), .d (i64 0), .ob 64007]), (64007, .arr 108 4 []), (64008, .mp (sumM (sumOf (es.take i)))), (64028, .arr 88 3 (exs es))]⟩)
          (fun i => i ≤ es.length) (fun i => es.length - i) 0 (by simp) (by simp [sumOf]) ?_
        intro i hi
        refine S 60 _ _ ?_
        simp
        refine ⟨fun hlt => ?_, fun hge => ?_⟩
        · refine ⟨hlt, fun a ha => ?_⟩
          have htk : sumOf (es.take (i + 1)) = sput (sumOf (es.take i)) a 1 := by rw [List.take_add_one, ha]; exact sumOf_snoc _ _
          exact Nxt.mk (i + 1) (by omega) (by simp [wrapS (i := i) (n := es.length) hlt (by omega), mpPut_sum, htk]) (by omega)
        · have hi' : es.take i = es := List.take_of_length_le hge
          rw [hi']
          obtain ⟨g1, g2, _⟩ := sumOf_ok es
          refine CallW.ok (by decide) (by simp) (poly_ok p d (sumOf es) (by omega) g1 (by omega) (by omega)) (by simp) (S 60 _ _ ?_)
          simp
      · have e : completeR p d k = pres 0 0 [] 2 := by unfold completeR; rw [if_neg (fun h => hk h.2.2)]
        rw [e] at S ⊢
        rw [decide_eq_true hp] at c1
        rw [decide_eq_true hd] at c2
        rw [decide_eq_false hk] at c3
        simp
        refine CallW.ok (by decide) (by simp) c1 (by simp) (S 60 _ _ ?_)
        simp
        refine CallW.ok (by decide) (by simp) c2 (by simp) (S 60 _ _ ?_)
        simp
        refine CallW.ok (by decide) (by simp) c3 (by simp) (S 60 _ _ ?_)
        simp
    · have e : completeR p d k = pres 0 0 [] 2 := by unfold completeR; rw [if_neg (fun h => hd h.2.1)]
      rw [e] at S ⊢
      rw [decide_eq_true hp] at c1
      rw [decide_eq_false hd] at c2
      simp
      refine CallW.ok (by decide) (by simp) c1 (by simp) (S 60 _ _ ?_)
      simp
      refine CallW.ok (by decide) (by simp) c2 (by simp) (S 60 _ _ ?_)
      simp
  · have e : completeR p d k = pres 0 0 [] 2 := by unfold completeR; rw [if_neg (fun h => hp h.1)]
    rw [e] at S ⊢
    rw [decide_eq_false hp] at c1
    simp
    refine CallW.ok (by decide) (by simp) c1 (by simp) (S 60 _ _ ?_)
    simp

set_option maxRecDepth 4000 in
theorem specCompletePoly_ok (p d k : Int) : CallOK Go.Proofs.Try.prog 27 [.one (i64 p), .one (i64 d), .one (i64 k)] (completeR p d k) := by
  have hF := fnOk 40 [.cell 6 39, .tmp 7]
  refine callOK hF 60 Go.Proofs.Try.func27 rfl rfl rfl (by decide) (by simp) rfl ?_
  intro w0 hw
  have S := @vc_sound w0 _ hF ⟨(completeR p d k), []⟩ Go.Proofs.Try.f27 rfl (by simp)
  have c1 := l08Shape_ok p d
  have c2 := l01In_ok k 0 12
  by_cases hp : Pr p ∧ 1 ≤ d ∧ d ≤ 3
  · by_cases hk : 0 ≤ k ∧ k ≤ 12
    · obtain ⟨n, rfl⟩ : ∃ n : Nat, k = n := ⟨k.toNat, by omega⟩
      have hpp := hp.1.pos
      have hml := mons_len d n (by omega)
      have hnd := mons_nodup d n (by omega)
      have c4 := l01Monomials_ok d n hp.2 (by omega)
      have c5 := l01Empty_ok p d
      have e : completeR p d n = pres p d (putAll p (mons d n)) 0 := by
        unfold completeR; rw [if_pos ⟨hp.1, hp.2, hk⟩, Int.toNat_natCast, putAll_eq hpp.1 _ hnd]
      rw [e] at S ⊢
      rw [decide_eq_true hp] at c1
      rw [decide_eq_true hk] at c2
      generalize hes : mons d n = es at *
      simp
      refine CallW.ok (by decide) (by simp) c1 (by simp) (S 60 _ _ ?_)
      simp
      refine CallW.ok (by decide) (by simp) c2 (by simp) (S 60 _ _ ?_)
      simp
      refine CallW.ok (by decide) (by simp) c4 (by simp) (S 60 _ _ ?_)
      simp
      refine CallW.ok (by decide) (by simp) c5 (by simp) (S 60 _ _ ?_)
      simp
      refine J.loop hw (fun i : Nat => ⟨[(6, .c (.ref 64006 0)), (8, .c (.ob 64028)), (9, .c (.ref 64009 0)), (10, .c (.d (i64 i)))],
          [(64006, .var [.d (i64 0), .d (i64 0), .ob 64007]), (64007, .arr 108 4 []), (64009, .var [.d (i64 p), .d (i64 d), .ob 64010]), (64010, .arr 108 4 (terms (putAll p (es.take i)))), (64028, .arr 88 3 (exs es))]⟩)
        (fun i => i ≤ es.length) (fun i => es.length - i) 0 (by simp) (by simp [putAll]) ?_
      intro i hi
      have hndt : (es.take i).Nodup := hnd.sublist (List.take_sublist _ _)
      obtain ⟨q1, q2, q3⟩ := putAll_ok hpp.1 (es.take i) hndt
      have hlen : (putAll p (es.take i)).length ≤ 169 := by rw [List.length_take] at q2; omega
      refine S 60 _ _ ?_
      simp
      refine ⟨fun hlt => ?_, fun hge => ?_⟩
      · have hb := fun e => coef_bound (show 0 < p by omega) q1 e
        refine J.dr hF mixed 5 [[], [], [], [1, 2], [1, 2, 3], [0, 1, 2, 3, 4], [0, 1, 2, 3, 4, 5]] [[33, 34, 35, 36, 37], [33, 34, 35, 36, 37], [33, 34, 35, 36, 37], [33, 36, 37], [33, 37]] (by decide) ?_
        simp
        refine ⟨hlt, fun a ha => ?_⟩
        have htk : putAll p (es.take (i+1)) = putT p (putAll p (es.take i)) a 1 := by
          rw [List.take_add_one, ha]; exact putAll_snoc _ _ _
        have hb' := hb a
        have c6 := l01Put_ok p d (putAll p (es.take i)) a 1 (by omega) (by omega) (by omega) (by omega) (by omega)
        refine S 60 _ _ ?_
        simp
        refine CallW.ok (by decide) (by simp) c6 (by simp) (S 60 _ _ ?_)
        simp
        exact Nxt.mk (i+1) (by omega) (by simp [wrapS (i:=i) (n:=es.length) hlt (by omega), htk]) (by omega)
      · have hi' : es.take i = es := List.take_of_length_le hge
        rw [hi']
    · have e : completeR p d k = pres 0 0 [] 2 := by unfold completeR; rw [if_neg (fun h => hk h.2.2)]
      rw [e] at S ⊢
      rw [decide_eq_true hp] at c1
      rw [decide_eq_false hk] at c2
      simp
      refine CallW.ok (by decide) (by simp) c1 (by simp) (S 60 _ _ ?_)
      simp
      refine CallW.ok (by decide) (by simp) c2 (by simp) (S 60 _ _ ?_)
      simp
  · have e : completeR p d k = pres 0 0 [] 2 := by unfold completeR; rw [if_neg (fun h => hp ⟨h.1, h.2.1⟩)]
    rw [e] at S ⊢
    rw [decide_eq_false hp] at c1
    simp
    refine CallW.ok (by decide) (by simp) c1 (by simp) (S 60 _ _ ?_)
    simp

/-- (Poly, error) of bounded length. -/
def PresS (R : RV) : Prop := ∃ p d ts e, R = pres p d ts e ∧ ts.length ≤ 2000000

theorem completeR_small (p d k : Int) : PresS (completeR p d k) := by
  unfold completeR
  split
  · rename_i h
    refine ⟨_, _, _, _, rfl, ?_⟩
    have hk : k.toNat ≤ 12 := by omega
    have h1 := (putAll_ok h.1.pos.1 (mons d k.toNat) (mons_nodup d _ hk)).2.1
    rw [putAll_eq h.1.pos.1 _ (mons_nodup d _ hk)]
    have := mons_len d _ hk
    omega
  · exact ⟨_, _, _, _, rfl, by simp⟩

end Go.Sm

namespace Go.Sm
open Go.RowKit

@[simp] theorem argEs_take {α : Type} (f : α → List D) (xs : List α) (n : Nat) : argEs ((xs.map f).take n) = (xs.map fun x => argCs (f x)).take n := by rw [← List.map_take, argEs_map, List.map_take]
@[simp] theorem locEs_take {α : Type} (f : α → List D) (xs : List α) (n : Nat) : locEs ((xs.map f).take n) = (xs.map fun x => locCs (f x)).take n := by rw [← List.map_take, locEs_map, List.map_take]
@[simp] theorem freshEs_take {α : Type} (f : α → List D) (xs : List α) (n : Nat) : freshEs ((xs.map f).take n) = (xs.take n).all fun x => freshCs (f x) := by rw [← List.map_take, freshEs_map]
@[simp] theorem stOEs_take {α : Type} (f : α → List D) (xs : List α) (n : Nat) : stOEs ((xs.map f).take n) = (xs.take n).all fun x => stOCs (f x) := by rw [← List.map_take, stOEs_map]
@[simp] theorem okNo_take {α : Type} (f : α → List D) (xs : List α) (n : Nat) : okNo ((xs.map f).take n) = (xs.take n).all fun x => okNoC (f x) := by rw [← List.map_take, okNo_map]
@[simp] theorem argEs_drop {α : Type} (f : α → List D) (xs : List α) (n : Nat) : argEs ((xs.map f).drop n) = (xs.map fun x => argCs (f x)).drop n := by rw [← List.map_drop, argEs_map, List.map_drop]
@[simp] theorem locEs_drop {α : Type} (f : α → List D) (xs : List α) (n : Nat) : locEs ((xs.map f).drop n) = (xs.map fun x => locCs (f x)).drop n := by rw [← List.map_drop, locEs_map, List.map_drop]
@[simp] theorem freshEs_drop {α : Type} (f : α → List D) (xs : List α) (n : Nat) : freshEs ((xs.map f).drop n) = (xs.drop n).all fun x => freshCs (f x) := by rw [← List.map_drop, freshEs_map]
@[simp] theorem stOEs_drop {α : Type} (f : α → List D) (xs : List α) (n : Nat) : stOEs ((xs.map f).drop n) = (xs.drop n).all fun x => stOCs (f x) := by rw [← List.map_drop, stOEs_map]
@[simp] theorem okNo_drop {α : Type} (f : α → List D) (xs : List α) (n : Nat) : okNo ((xs.map f).drop n) = (xs.drop n).all fun x => okNoC (f x) := by rw [← List.map_drop, okNo_map]
@[simp] theorem drop_rest {α : Type} (f : α → List D) (xs : List α) (n : Nat) : ((xs.map f).drop n).take (xs.length - n) = (xs.map f).drop n := List.take_of_length_le (by simp)

/-- k put at place a. -/
def ins (k : Nat) (l : List Int) (a : Nat) : List Int := l.take a ++ (k : Int) :: l.drop a
def insD (k : Nat) (l : List Int) : Nat → List (List Int)
  | 0 => []
  | n + 1 => ins k l n :: insD k l n
def sgD (k : Nat) (s : Int) : Nat → List Int
  | 0 => []
  | n + 1 => s * (1 - 2 * ((k : Int) - n).tmod 2) :: sgD k s n
def ordS : Nat → List (List Int)
  | 0 => [[]]
  | k + 1 => (ordS k).flatMap fun l => insD k l (k + 1)
def sgS : Nat → List Int
  | 0 => [1]
  | k + 1 => (sgS k).flatMap fun s => sgD k s (k + 1)
theorem insD_len (k : Nat) (l : List Int) : ∀ n, (insD k l n).length = n
  | 0 => rfl
  | n + 1 => by simp [insD, insD_len k l n]
theorem sgD_len (k : Nat) (s : Int) : ∀ n, (sgD k s n).length = n
  | 0 => rfl
  | n + 1 => by simp [sgD, sgD_len k s n]
theorem flat_len {α β : Type} (f : α → List β) (m : Nat) (h : ∀ x, (f x).length = m) : ∀ xs : List α, (xs.flatMap f).length = xs.length * m
  | [] => by simp
  | x :: xs => by rw [List.flatMap_cons, List.length_append, h, flat_len f m h xs, List.length_cons, Nat.succ_mul, Nat.add_comm]
theorem flat_take {α β : Type} (f : α → List β) {xs : List α} {i : Nat} {a : α} (h : xs[i]? = some a) : (xs.take (i + 1)).flatMap f = (xs.take i).flatMap f ++ f a := by
  rw [List.take_add_one, h]; simp
theorem ord_facts {k : Nat} (hk : k ≤ 2) : (ordS k).length ≤ 2 ∧ (sgS k).length = (ordS k).length ∧ (∀ l ∈ ordS k, l.length = k) ∧ ∀ s ∈ sgS k, s = 1 ∨ s = -1 := by
  have : k = 0 ∨ k = 1 ∨ k = 2 := by omega
  rcases this with rfl | rfl | rfl <;> decide

theorem l01Own_ok (xs : List Int) (hl : xs.length ≤ 1048576) : CallOK Go.Proofs.Try.prog 152 [.one (vInts xs)] (.one (oInts xs)) := by
  have hF := fnOk 6 [.tmp 2]
  refine callOK hF 60 Go.Proofs.Try.func152 rfl rfl rfl (by decide) (by simp) rfl ?_
  intro w0 hw
  have S := @vc_sound w0 _ hF ⟨(.one (oInts xs)), []⟩ Go.Proofs.Try.f152 rfl (by simp)
  simp
  refine ⟨by omega, by omega⟩

set_option maxRecDepth 4000 in
theorem l08Orders_ok (d : Nat) (hd : d ≤ 3) : CallOK Go.Proofs.Try.prog 124 [.one (i64 d)] (.tup [(false, [oIntss (ordS d)]), (false, [oInts (sgS d)])]) := by
  have hF := fnOk 72 [.tmp 2, .tmp 3]
  refine callOK hF 60 Go.Proofs.Try.func124 rfl rfl rfl (by decide) (by simp) rfl ?_
  intro w0 hw
  have S := @vc_sound w0 _ hF ⟨(.tup [(false, [oIntss (ordS d)]), (false, [oInts (sgS d)])]), []⟩ Go.Proofs.Try.f124 rfl (by simp)
  simp
  refine BsW.move hF (e := 22) (es := [[oInts []]]) (ks := [12 * 64]) (by decide) rfl rfl rfl (by simp) (by simp) rfl (by decide) (by decide) (by simp) ?_
  refine S 60 _ _ ?_
  simp
  refine J.loop hw (fun k : Nat => ⟨[(0, .c (.d (i64 d))), (4, .c (.ob 64004)), (5, .c (.ob 64005)), (6, .c (.d (i64 k)))],
      [(64004, .arr 22 1 ((ordS k).map fun x => [oInts x])), (64005, .arr 2 1 (ints (sgS k)))]⟩)
    (fun k => k ≤ d) (fun k => d - k) 0 (by simp) (by simp [ordS, sgS]) ?_
  intro k hk
  refine S 60 _ _ ?_
  simp
  refine ⟨fun hlt => ?_, fun hge => ?_⟩
  · obtain ⟨f1, f2, f3, f4⟩ := ord_facts (k := k) (by omega)
    generalize hL : ordS k = L at *
    generalize hG : sgS k = G at *
    refine J.loop hw (fun i : Nat => ⟨[(0, .c (.d (i64 d))), (4, .c (.ob 64004)), (5, .c (.ob 64005)), (6, .c (.d (i64 k))), (7, .c (.ob 64007)), (8, .c (.ob 64008)), (9, .c (.d (i64 i)))],
        [(64004, .arr 22 1 (L.map fun x => [oInts x])), (64005, .arr 2 1 (ints G)), (64007, .arr 22 1 (((L.take i).flatMap fun l => insD k l (k + 1)).map fun x => [oInts x])), (64008, .arr 2 1 (ints ((G.take i).flatMap fun s => sgD k s (k + 1))))]⟩)
      (fun i => i ≤ L.length) (fun i => L.length - i) 0 (by simp) (by simp) ?_
    intro i hi
    refine S 60 _ _ ?_
    simp
    refine ⟨fun hlt2 => ?_, fun hge2 => ?_⟩
    · obtain ⟨l, hl⟩ : ∃ l, L[i]? = some l := ⟨L[i], List.getElem?_eq_getElem hlt2⟩
      obtain ⟨g, hg⟩ : ∃ g, G[i]? = some g := ⟨G[i]'(by omega), List.getElem?_eq_getElem (by omega)⟩
      have hll : l.length = k := f3 l (List.mem_of_getElem? hl)
      have hgg := f4 g (List.mem_of_getElem? hg)
      generalize hN : (L.take i).flatMap (fun l => insD k l (k + 1)) = Nx
      generalize hM : (G.take i).flatMap (fun s => sgD k s (k + 1)) = Mx
      have hNl : Nx.length ≤ 6 := by
        rw [← hN, flat_len _ (k + 1) (fun x => insD_len k x _), List.length_take]
        have : min i L.length * (k + 1) ≤ 2 * 3 := Nat.mul_le_mul (by omega) (by omega)
        omega
      have hMl : Mx.length ≤ 6 := by
        rw [← hM, flat_len _ (k + 1) (fun x => sgD_len k x _), List.length_take]
        have : min i G.length * (k + 1) ≤ 2 * 3 := Nat.mul_le_mul (by omega) (by omega)
        omega
      refine J.loop hw (fun q : Nat × List (List Int) × List Int => ⟨[(0, .c (.d (i64 d))), (4, .c (.ob 64004)), (5, .c (.ob 64005)), (6, .c (.d (i64 k))), (7, .c (.ob 64007)), (8, .c (.ob 64008)), (9, .c (.d (i64 i))), (10, .c (.d (i64 ((q.1 : Int) - 1))))],
          [(64004, .arr 22 1 (L.map fun x => [oInts x])), (64005, .arr 2 1 (ints G)), (64007, .arr 22 1 ((Nx ++ q.2.1).map fun x => [oInts x])), (64008, .arr 2 1 (ints (Mx ++ q.2.2)))]⟩)
        (fun q => q.1 ≤ k + 1 ∧ q.2.1 ++ insD k l q.1 = insD k l (k + 1) ∧ q.2.2 ++ sgD k g q.1 = sgD k g (k + 1)) (fun q => q.1) (k + 1, [], []) (by simp) (by simp) ?_
      rintro ⟨n, acc, sac⟩ ⟨hn, ha1, ha2⟩
      simp only at hn ha1 ha2
      have hal : acc.length ≤ 3 := by
        have := congrArg List.length ha1
        rw [List.length_append, insD_len, insD_len] at this; omega
      have hsl : sac.length ≤ 3 := by
        have := congrArg List.length ha2
        rw [List.length_append, sgD_len, sgD_len] at this; omega
      cases n with
      | zero =>
        have ha1 : acc = insD k l (k + 1) := (List.append_nil _).symm.trans ha1
        have ha2 : sac = sgD k g (k + 1) := (List.append_nil _).symm.trans ha2
        refine S 60 _ _ ?_
        simp
        refine Nxt.mk (i + 1) (by omega) (by simp [flat_take _ hl, flat_take _ hg, hN, hM, ha1, ha2, wrapS (i := i) (n := L.length) hlt2 (by omega)]) (by omega)
      | succ n =>
        refine S 60 _ _ ?_
        simp
        refine ⟨hlt2, fun a ha => ?_⟩
        obtain rfl : l = a := Option.some.inj (hl.symm.trans ha)
        refine ⟨by omega, ?_⟩
        refine CallW.ok (by decide) (by simp) (l01Own_ok (l.take n) (by rw [List.length_take]; omega)) (by simp) (S 5 _ _ ?_)
        simp
        have hkb : min n l.length + 1 ≤ 4 := by omega
        refine ⟨⟨by omega, by omega⟩, ?_⟩
        refine S 8 _ _ ?_
        simp
        refine ⟨hlt2, fun a ha => ?_⟩
        obtain rfl : l = a := Option.some.inj (hl.symm.trans ha)
        refine S 3 _ _ ?_
        simp
        -- the rest of l behind k
        refine ⟨by omega, ⟨by omega, by omega⟩, S 60 _ _ ?_⟩
        simp
        refine BsW.move hF (e := 22) (es := [[oInts (ins k l n)]]) (ks := [51 * 64]) (by decide) rfl rfl rfl (by simp [ins]) (by simp) rfl (by decide) (by decide) (by simp) ?_
        refine S 3 _ _ ?_
        simp
        refine ⟨⟨by omega, by omega⟩, ?_⟩
        have hr := tmod_range ((k : Int) - n) 2 (by omega)
        have w1 : IntKind.i64.wrap ((k : Int) - n) = k - n := wrap64 (by omega) (by omega)
        have w2 : IntKind.i64.wrap (2 * ((k : Int) - n).tmod 2) = 2 * ((k : Int) - n).tmod 2 := wrap64 (by omega) (by omega)
        have w3 : IntKind.i64.wrap (1 - 2 * ((k : Int) - n).tmod 2) = 1 - 2 * ((k : Int) - n).tmod 2 := wrap64 (by omega) (by omega)
        have w4 : IntKind.i64.wrap (g * (1 - 2 * ((k : Int) - n).tmod 2)) = g * (1 - 2 * ((k : Int) - n).tmod 2) := by
          rcases hgg with rfl | rfl <;> exact wrap64 (by omega) (by omega)
        refine S 60 _ _ ?_
        simp
        refine ⟨by omega, fun b hb => ?_⟩
        obtain rfl : g = b := Option.some.inj (hg.symm.trans hb)
        simp [w1, w2, w3, w4]
        refine ⟨⟨by omega, by omega⟩, ?_⟩
        have w5 : IntKind.i64.wrap ((n : Int) - 1) = n - 1 := wrap64 (by omega) (by omega)
        refine Nxt.mk (n, acc ++ [ins k l n], sac ++ [g * (1 - 2 * ((k : Int) - n).tmod 2)]) ⟨by omega, by rw [← ha1]; simp [insD], by rw [← ha2]; simp [sgD]⟩ (by simp [w5]) (by show n < n + 1; omega)
    · have e1 : L.take i = L := List.take_of_length_le hge2
      have e2 : G.take i = G := List.take_of_length_le (by omega)
      rw [e1, e2]
      exact Nxt.mk (k + 1) (by omega) (by simp [ordS, sgS, hL, hG, wrapS (i := k) (n := d) hlt (by omega)]) (by omega)
  · have : k = d := by omega
    rw [this]
    exact ⟨rfl, rfl⟩

/-! ### the program's -/
abbrev nats (xs : List Nat) : List (List D) := xs.map fun (i : Nat) => [i64 (i : Int)]
abbrev oNats (xs : List Nat) : D := .own 3 1 (nats xs)
abbrev vNats (xs : List Nat) : D := .vw false 1 (nats xs)
abbrev oNatss (xss : List (List Nat)) : D := .own 122 1 (xss.map fun xs => [oNats xs])
def ordI : Nat → List (List Nat)
  | 2 => [[0, 1], [1, 0]]
  | 3 => [[0, 1, 2], [0, 2, 1], [1, 0, 2], [1, 2, 0], [2, 0, 1], [2, 1, 0]]
  | _ => [[0]]
/-- The sign of an order: what comes of s by the pairs (i, k), k < m. -/
def sgK (o : List Nat) (i : Nat) : Nat → Int → Int
  | 0, s => s
  | m + 1, s => if o[i]?.getD 0 < (o[m]?.getD 0) then - sgK o i m s else sgK o i m s
def sgI (o : List Nat) : Nat → Int
  | 0 => 1
  | i + 1 => sgK o i i (sgI o i)
def sgnI (d : Nat) : List Int := (ordI d).map fun o => sgI o o.length
theorem sgK_one {o : List Nat} {i m : Nat} {s : Int} (h : s = 1 ∨ s = -1) : sgK o i m s = 1 ∨ sgK o i m s = -1 := by
  induction m with
  | zero => exact h
  | succ m ih => unfold sgK; split <;> omega
theorem sgI_one {o : List Nat} {i : Nat} : sgI o i = 1 ∨ sgI o i = -1 := by
  induction i with
  | zero => exact .inl rfl
  | succ i ih => exact sgK_one ih

theorem ordI_facts (d : Nat) : (ordI d).length ≤ 6 ∧ ∀ o ∈ ordI d, o.length ≤ 3 ∧ ∀ x ∈ o, x < 3 := by
  unfold ordI
  split <;> decide

set_option maxRecDepth 4000 in
theorem orders_ok (d : Nat) (hd : 1 ≤ d ∧ d ≤ 3) : CallOK Go.Proofs.Try.prog 125 [.one (i64 d)] (.tup [(false, [oNatss (ordI d)]), (false, [oInts (sgnI d)])]) := by
  have hF := fnOk 64 [.tmp 2, .tmp 3]
  refine callOK hF 60 Go.Proofs.Try.func125 rfl rfl rfl (by decide) (by simp) rfl ?_
  intro w0 hw
  have S := @vc_sound w0 _ hF ⟨(.tup [(false, [oNatss (ordI d)]), (false, [oInts (sgnI d)])]), []⟩ Go.Proofs.Try.f125 rfl (by simp)
  obtain ⟨f1, f2⟩ := ordI_facts d
  simp only [sgnI] at S ⊢
  simp
  refine BsW.move hF (e := 122) (es := [[oNats [0]]]) (ks := [11 * 64]) (by decide) rfl rfl rfl (by simp) (by simp) rfl (by decide) (by decide) (by simp) (S 60 _ _ ?_)
  have hd' : d = 1 ∨ d = 2 ∨ d = 3 := by omega
  rcases hd' with rfl | rfl | rfl
  simp
  rotate_left
  simp
  refine BsW.move hF (e := 122) (es := [[oNats [0, 1]], [oNats [1, 0]]]) (ks := [16 * 64, 17 * 64]) (by decide) rfl rfl rfl (by simp) (by simp) rfl (by decide) (by decide) (by simp) (S 60 _ _ ?_)
  simp
  rotate_left
  simp
  refine BsW.move hF (e := 122) (es := [[oNats [0, 1, 2]], [oNats [0, 2, 1]], [oNats [1, 0, 2]], [oNats [1, 2, 0]], [oNats [2, 0, 1]], [oNats [2, 1, 0]]]) (ks := [21 * 64, 22 * 64, 23 * 64, 24 * 64, 25 * 64, 26 * 64]) (by decide) rfl rfl rfl (by simp) (by simp) rfl (by decide) (by decide) (by simp) (S 60 _ _ ?_)
  simp
  rotate_left
  all_goals
    generalize hA : ordI _ = A at S f1 f2 ⊢
    refine J.loop hw (fun i : Nat => ⟨[(4, .c (.ob 64029)), (5, .c (.ob 64005)), (29, .c (.ob 64029)), (30, .c (.d (i64 A.length))), (31, .c (.d (i64 i)))],
        [(64029, .arr 122 1 (A.map fun x => [oNats x])), (64005, .arr 2 1 (ints ((A.take i).map fun o => sgI o o.length)))]⟩)
      (fun i => i ≤ A.length) (fun i => A.length - i) 0 (by simp) (by subst hA; simp [ordI]) ?_
    intro i hi
    refine S 60 _ _ ?_
    simp
    refine ⟨fun hlt => ⟨hlt, fun o ho => ?_⟩, fun hge => ?_⟩
    · have hol := (f2 o (List.mem_of_getElem? ho)).1
      refine J.loop hw (fun j : Nat => ⟨[(4, .c (.ob 64029)), (5, .c (.ob 64005)), (29, .c (.ob 64029)), (30, .c (.d (i64 A.length))), (31, .c (.d (i64 i))), (7, .c (.d (vNats o))), (8, .c (.d (i64 (sgI o j)))), (36, .c (.d (i64 o.length))), (37, .c (.d (i64 j)))],
          [(64029, .arr 122 1 (A.map fun x => [oNats x])), (64005, .arr 2 1 (ints ((A.take i).map fun o => sgI o o.length)))]⟩)
        (fun j => j ≤ o.length) (fun j => o.length - j) 0 (by simp) (by simp [sgI]) ?_
      intro j hj
      refine S 60 _ _ ?_
      simp
      refine ⟨fun hlt2 => ?_, fun hge2 => ?_⟩
      · refine J.loop hw (fun m : Nat => ⟨[(4, .c (.ob 64029)), (5, .c (.ob 64005)), (29, .c (.ob 64029)), (30, .c (.d (i64 A.length))), (31, .c (.d (i64 i))), (7, .c (.d (vNats o))), (8, .c (.d (i64 (sgK o j m (sgI o j))))), (36, .c (.d (i64 o.length))), (37, .c (.d (i64 j))), (9, .c (.d (i64 j))), (40, .c (.d (i64 j))), (41, .c (.d (i64 m)))],
            [(64029, .arr 122 1 (A.map fun x => [oNats x])), (64005, .arr 2 1 (ints ((A.take i).map fun o => sgI o o.length)))]⟩)
          (fun m => m ≤ j) (fun m => j - m) 0 (by simp) (by simp [sgK]) ?_
        intro m hm
        refine S 60 _ _ ?_
        simp
        refine ⟨fun hlt3 => ?_, fun hge3 => ?_⟩
        · refine J.dr hF mixed 8 [[], [], [0, 1], [0, 1, 2], [], [], [4, 5], [4, 5, 6], [0, 1, 2, 3, 4, 5, 6, 7]] [[44, 45, 46, 47, 48, 49, 50, 51], [44, 45, 46, 47, 48, 49, 50, 51], [46, 47, 48, 49, 50, 51], [47, 48, 49, 50, 51], [44, 45, 46, 47, 48, 49, 50, 51], [44, 45, 46, 47, 48, 49, 50, 51], [44, 45, 46, 47, 50, 51], [44, 45, 46, 47, 51]] (by decide) ?_
          simp
          refine ⟨by omega, fun a ha => ⟨hlt2, fun b hb => S 60 _ _ ?_⟩⟩
          have hs := @sgK_one o j m (sgI o j) sgI_one
          have hw1 : IntKind.i64.wrap (-(sgK o j m (sgI o j))) = -(sgK o j m (sgI o j)) := wrap64 (by omega) (by omega)
          have hst : sgK o j (m + 1) (sgI o j) = if b < a then -(sgK o j m (sgI o j)) else sgK o j m (sgI o j) := by simp [sgK, ha, hb]
          simp
          refine ⟨fun hba => ?_, fun hba => ?_⟩
          · exact Nxt.mk (m + 1) (by omega) (by simp [hst, hba, hw1, wrapS (i := m) (n := j) hlt3 (by omega)]) (by omega)
          · exact Nxt.mk (m + 1) (by omega) (by simp [hst, show ¬ b < a by omega, wrapS (i := m) (n := j) hlt3 (by omega)]) (by omega)
        · have : m = j := by omega
          subst this
          exact Nxt.mk (m + 1) (by omega) (by simp [sgI, wrapS (i := m) (n := o.length) hlt2 (by omega)]) (by omega)
      · have : j = o.length := by omega
        subst this
        have := @sgI_one o o.length
        refine ⟨by omega, ?_⟩
        exact Nxt.mk (i + 1) (by omega) (by simp [List.take_add_one, ho, wrapS (i := i) (n := A.length) hlt (by omega)]) (by omega)
    · exact List.take_of_length_le (by simpa using hge)

end Go.Sm

namespace Go.Sm
open Go.RowKit

theorem led_leadZ {r : List Int} (h : Led r) : leadZ r = leadN r := by exact if_pos h
theorem notLed_leadZ {r : List Int} (h : ¬ Led r) : leadZ r = -1 := by exact if_neg h
theorem led_of {r : List Int} (h : gt r (leadN r) = 1) : Led r := led_iff.2 ⟨_, by rw [h]; omega⟩
theorem gt_get {r : List Int} {i : Nat} (h : i < r.length) : r[i]? = some (gt r i) := by rw [gt_lt h, List.getElem?_eq_getElem h]
theorem subR_length {p : Int} {row r : List Int} {c : Int} (h : r.length = row.length) : (subR p row r c).length = row.length := by simp [subR, h]
theorem subR_take {p : Int} {row r : List Int} {c : Int} {i : Nat} (h1 : i < row.length) (h : r.length = row.length) : (subR p row r c).take (i + 1) = (subR p row r c).take i ++ [(gt row i - c * gt r i) % p] := by
  rw [List.take_add_one, List.getElem?_eq_getElem (by rw [subR_length h]; exact h1), gt_lt h1, gt_lt (by omega)]
  simp [subR]
theorem subR_zero {p : Int} {n : Nat} (hp : 0 < p) {row r : List Int} (h : RowOk p n row) (h2 : r.length = n) : subR p row r 0 = row := by
  obtain ⟨s1, s2⟩ := subR_ok hp h.1 h2 0
  refine gt_ext (s1.1.trans h.1.symm) fun i hi => ?_
  have := gt_range hp h i
  rw [s2 i (by rw [← s1.1]; exact hi), Int.zero_mul, Int.sub_zero, Int.emod_eq_of_lt this.1 this.2]
theorem less_row {p : Int} {n : Nat} (hp : 0 < p) : ∀ {L : List (List Int)} {row : List Int}, (∀ r ∈ L, RowOk p n r) → RowOk p n row → RowOk p n (lessL p L row)
  | [], _, _, h => h
  | r :: L, row, hL, h => by
    have e : lessL p (r :: L) row = lessL p L (subR p row r (gt row (leadN r))) := rfl
    rw [e]
    exact less_row hp (fun q hq => hL q (List.mem_cons_of_mem _ hq)) (subR_ok hp h.1 (hL r (List.mem_cons_self ..)).1 _).1
theorem less_take {p : Int} {L : List (List Int)} {row r : List Int} {i : Nat} (h : L[i]? = some r) : lessL p (L.take (i + 1)) row = subR p (lessL p (L.take i) row) r (gt (lessL p (L.take i) row) (leadN r)) := by
  rw [List.take_add_one, h]
  simp [lessL]
theorem sub_tmod {p a c x : Int} (ha : 0 ≤ a) (hc : c < p) (hx : 0 ≤ x) : (a + (p - c) * x).tmod p = (a - c * x) % p := by
  have h : 0 ≤ (p - c) * x := Int.mul_nonneg (by omega) hx
  rw [Int.tmod_eq_emod_of_nonneg (by omega), Int.sub_mul, show a + (p * x - c * x) = (a - c * x) + p * x by omega, Int.add_mul_emod_self_left]

theorem l01Inverse_ok (n p : Int) (hp : Pr p) (h1 : 0 ≤ n) (h2 : n < p) : CallOK Go.Proofs.Try.prog 160 [.one (i64 p), .one (i64 n)] (.one (i64 (invN n p))) := by
  have hF := fnOk 20 [.tmp 4]
  refine callOK hF 60 Go.Proofs.Try.func160 rfl rfl rfl (by decide) (by simp) rfl ?_
  intro w0 hw
  have S := @vc_sound w0 _ hF ⟨(.one (i64 (invN n p))), []⟩ Go.Proofs.Try.f160 rfl (by simp)
  have hpp := prPos hp
  have c1 := l01Mod_ok p n (by omega) (by omega)
  rw [Int.emod_eq_of_lt h1 h2] at c1
  simp
  refine J.loop hw (fun k : Nat => ⟨[(0, .c (.d (i64 p))), (1, .c (.d (i64 n))), (5, .c (.d (i64 k)))], []⟩)
    (fun k => 1 ≤ k ∧ (k : Int) ≤ p ∧ invN n p = invGo n p (14 - k) k) (fun k => p.toNat - k) 1 ⟨by omega, by omega, rfl⟩ (by simp) ?_
  rintro k ⟨hk1, hk2, hk⟩
  refine S 12 _ _ ?_
  simp
  refine ⟨fun hlt => ?_, fun hge => ?_⟩
  · have hm : 0 ≤ n * k := Int.mul_nonneg h1 (by omega)
    have hm2 : n * k ≤ 13 * 13 := Int.mul_le_mul (by omega) (by omega) (by omega) (by omega)
    have w1 : IntKind.i64.wrap (k * n) = n * k := by rw [Int.mul_comm]; exact wrap64 (by omega) (by omega)
    have hmod : (n * (k : Int)).tmod p = n * k % p := Int.tmod_eq_emod_of_nonneg hm
    have hp0 : p ≠ 0 := by omega
    obtain ⟨f, hf⟩ : ∃ f, 14 - k = f + 1 := ⟨13 - k, by omega⟩
    rw [hf, invGo_step hlt] at hk
    refine S 60 _ _ ?_
    simp
    refine CallW.ok (by decide) (by simp) c1 (by simp) (S 60 _ _ ?_)
    simp [w1, hmod, hp0]
    refine ⟨fun he => ?_, fun hne => ?_⟩
    · rw [if_pos he] at hk; exact hk.symm
    · rw [if_neg hne] at hk
      refine Nxt.mk (k + 1) ⟨by omega, by omega, by rw [hk, show 14 - (k + 1) = f by omega]; rfl⟩ (by simp; rw [wrap64] <;> omega) (by omega)
  · have e : invN n p = 0 := by rw [hk]; exact invGo_end (by omega)
    refine S 60 _ _ ?_
    simp [e]

set_option maxHeartbeats 1000000 in
theorem l01Less_ok (p : Int) (n : Nat) (row r : List Int) (c : Int) (hp : Pr p) (hn : n ≤ 1048576) (h1 : RowOk p n row) (h2 : RowOk p n r) (hc : 0 ≤ c ∧ c < p) : CallOK Go.Proofs.Try.prog 161 [.one (i64 p), .one (vInts row), .one (vInts r), .one (i64 c)] (.one (oInts (subR p row r c))) := by
  have hF := fnOk 35 [.tmp 8]
  refine callOK hF 60 Go.Proofs.Try.func161 rfl rfl rfl (by decide) (by simp) rfl ?_
  intro w0 hw
  have S := @vc_sound w0 _ hF ⟨(.one (oInts (subR p row r c))), []⟩ Go.Proofs.Try.f161 rfl (by simp)
  have hpp := prPos hp
  have e1 := h1.1
  have e2 := h2.1
  have hlen : r.length = row.length := by omega
  simp
  refine J.loop hw (fun i : Nat => ⟨[(0, .c (.d (i64 p))), (1, .c (.d (vInts row))), (2, .c (.d (vInts r))), (3, .c (.d (i64 c))), (9, .c (.ob 64009)), (10, .c (.d (i64 i)))], [(64009, .arr 2 1 (ints ((subR p row r c).take i)))]⟩)
    (fun i => i ≤ row.length) (fun i => row.length - i) 0 (by simp) (by simp) ?_
  intro i hi
  have hl := subR_length (p := p) (c := c) hlen
  generalize hac : (subR p row r c).take i = acc
  refine S 12 _ _ ?_
  simp
  refine ⟨fun hlt => ?_, fun hge => ?_⟩
  · have g1 := gt_get hlt
    have g2 := gt_get (r := r) (i := i) (by omega)
    have r1 := gt_range (by omega) h1 i
    have r2 := gt_range (by omega) h2 i
    have hst := subR_take (p := p) (c := c) hlt hlen
    have hal : acc.length = i := by rw [← hac, List.length_take, hl]; omega
    rw [hac] at hst
    have m1 : 0 ≤ c * gt r i := Int.mul_nonneg hc.1 r2.1
    have m2 : c * gt r i ≤ 13 * 13 := Int.mul_le_mul (by omega) (by omega) (by omega) (by omega)
    generalize gt row i = x at g1 r1 hst
    generalize gt r i = y at g2 r2 hst m1 m2
    have w1 : IntKind.i64.wrap (c * y) = c * y := wrap64 (by omega) (by omega)
    have w2 : IntKind.i64.wrap (x - c * y) = x - c * y := wrap64 (by omega) (by omega)
    have c1 := l01Mod_ok p (x - c * y) (by omega) (by omega)
    refine S 60 _ _ ?_
    simp
    refine J.dr hF mixed 15 [[], [], [], [], [2, 3], [2, 3, 4], [], [], [], [7, 8], [7, 8, 9], [6, 7, 8, 9, 10], [2, 3, 4, 5, 6, 7, 8, 9, 10, 11], [1, 2, 3, 4, 5, 6, 7, 8, 9, 10, 11, 12], [1, 2, 3, 4, 5, 6, 7, 8, 9, 10, 11, 12, 13], [0, 1, 2, 3, 4, 5, 6, 7, 8, 9, 10, 11, 12, 13, 14], [0, 1, 2, 3, 4, 5, 6, 7, 8, 9, 10, 11, 12, 13, 14, 15]] [[18, 19, 20, 21, 22, 23, 24, 25, 26, 27, 28, 29, 30, 31, 32], [18, 19, 20, 21, 22, 23, 24, 25, 26, 27, 28, 29, 30, 31, 32], [18, 19, 20, 21, 22, 23, 24, 25, 26, 27, 28, 29, 30, 31, 32], [18, 19, 20, 21, 22, 23, 24, 25, 26, 27, 28, 29, 30, 31, 32], [18, 19, 22, 23, 24, 25, 26, 27, 28, 29, 30, 31, 32], [18, 19, 23, 24, 25, 26, 27, 28, 29, 30, 31, 32], [18, 19, 20, 21, 22, 23, 24, 25, 26, 27, 28, 29, 30, 31, 32], [18, 19, 20, 21, 22, 23, 24, 25, 26, 27, 28, 29, 30, 31, 32], [18, 19, 20, 21, 22, 23, 24, 25, 26, 27, 28, 29, 30, 31, 32], [18, 19, 20, 21, 22, 23, 24, 27, 28, 29, 30, 31, 32], [18, 19, 20, 21, 22, 23, 24, 28, 29, 30, 31, 32], [18, 19, 20, 21, 22, 23, 29, 30, 31, 32], [18, 19, 30, 31, 32], [18, 31, 32], [18, 32]] (by decide) ?_
    rw [← List.take_append_drop 6 (List.take _ _)]
    generalize htl : List.drop 6 (List.take _ _) = tl
    simp
    refine ⟨hlt, fun x' hx => ?_⟩
    obtain rfl : x = x' := Option.some.inj (g1.symm.trans hx)
    subst htl
    rw [← List.take_append_drop 5 (List.drop 6 _)]
    generalize htl : List.drop 5 (List.drop 6 _) = tl
    simp
    refine ⟨by omega, fun y' hy => ?_⟩
    obtain rfl : y = y' := Option.some.inj (g2.symm.trans hy)
    subst htl
    simp [w1, w2]
    refine DrC.ok hF (by rfl) (by simp) c1 (by simp) (by simp) ?_
    simp [hal]
    refine S 60 _ _ ?_
    simp [hal]
    have hst2 : List.take (i + 1) (List.map (fun i => [D.v (Value.int IntKind.i64 i)]) (subR p row r c)) = ints acc ++ [[i64 ((x - c * y) % p)]] := by rw [← List.map_take, hst]; simp
    exact ⟨by omega, Nxt.mk (i + 1) hlt (by simp [wrapS (i := i) (n := row.length) hlt (by omega), hst2]) (by omega)⟩
  · have e : (subR p row r c).take i = subR p row r c := List.take_of_length_le (by omega)
    rw [hac] at e
    subst e
    refine S 60 _ _ ?_
    simp

theorem l01Rest_ok (p : Int) (n : Nat) (L : List (List Int)) (row : List Int) (hp : Pr p) (hn : n ≤ 1048576) (hl : L.length ≤ 1048576) (hL : ∀ r ∈ L, RowOk p n r ∧ Led r) (h1 : RowOk p n row) : CallOK Go.Proofs.Try.prog 158 [.one (i64 p), .one (vIntss L), .one (vInts row)] (.one (oInts (lessL p L row))) := by
  have hF := fnOk 37 [.tmp 6]
  refine callOK hF 60 Go.Proofs.Try.func158 rfl rfl rfl (by decide) (by simp) rfl ?_
  intro w0 hw
  have S := @vc_sound w0 _ hF ⟨(.one (oInts (lessL p L row))), []⟩ Go.Proofs.Try.f158 rfl (by simp)
  have hpp := prPos hp
  have c1 := l01Own_ok row (by rw [h1.1]; exact hn)
  simp
  refine CallW.ok (by decide) (by simp) c1 (by simp) (S 60 _ _ ?_)
  simp
  refine J.loop hw (fun i : Nat => ⟨[(0, .c (.d (i64 p))), (1, .c (.d (vIntss L))), (7, .c (.ob 64007)), (8, .c (.d (i64 i)))], [(64007, .arr 2 1 (ints (lessL p (L.take i) row)))]⟩)
    (fun i => i ≤ L.length) (fun i => L.length - i) 0 (by simp) (by simp [lessL]) ?_
  intro i hi
  refine S 12 _ _ ?_
  simp
  refine ⟨fun hlt => ?_, fun hge => ?_⟩
  · obtain ⟨r, hr⟩ : ∃ r, L[i]? = some r := ⟨L[i], List.getElem?_eq_getElem hlt⟩
    obtain ⟨r1, r2⟩ := hL r (List.mem_of_getElem? hr)
    have hst := less_take (p := p) (row := row) hr
    have ha := less_row (n := n) (p := p) (L := L.take i) (row := row) (by omega) (fun q hq => (hL q (List.take_subset _ _ hq)).1) h1
    generalize lessL p (L.take i) row = acc at hst ha ⊢
    have r2' : leadN r < r.length := r2
    have e1 := ha.1
    have e2 := r1.1
    have gl := gt_get (r := acc) (i := leadN r) (by omega)
    have gr := gt_range (by omega) ha (leadN r)
    have c2 := l01Lead_ok r (by omega)
    rw [led_leadZ r2] at c2
    have c3 := l01Less_ok p n acc r (gt acc (leadN r)) hp hn ha r1 gr
    have hz := subR_zero (p := p) (by omega) ha e2
    generalize gt acc (leadN r) = c at gl gr c3 hst
    refine S 60 _ _ ?_
    simp
    refine ⟨hlt, fun r' hr' => ?_⟩
    obtain rfl : r = r' := Option.some.inj (hr.symm.trans hr')
    refine CallW.ok (by decide) (by simp) c2 (by simp) (S 20 _ _ ?_)
    simp
    refine ⟨by omega, fun x hx => ?_⟩
    obtain rfl : c = x := Option.some.inj (gl.symm.trans hx)
    refine ⟨fun h0 => ⟨hlt, fun r'' hr'' => ?_⟩, fun h0 => ?_⟩
    · obtain rfl : r = r'' := Option.some.inj (hr.symm.trans hr'')
      refine CallW.ok (by decide) (by simp) c3 (by simp) (S 60 _ _ ?_)
      simp
      exact Nxt.mk (i + 1) hlt (by simp [wrapS (i := i) (n := L.length) hlt (by omega), hst]) (by omega)
    · subst h0
      rw [hz] at hst
      exact Nxt.mk (i + 1) hlt (by simp [wrapS (i := i) (n := L.length) hlt (by omega), hst]) (by omega)
  · have e : L.take i = L := List.take_of_length_le hge
    rw [e]
    refine S 60 _ _ ?_
    simp

set_option maxHeartbeats 1000000 in
theorem less_ok' (p : Int) (n : Nat) (L : List (List Int)) (row : List Int) (hp : Pr p) (hn : n ≤ 1048576) (hl : L.length ≤ 1048576) (hL : ∀ r ∈ L, RowOk p n r ∧ Led r) (h1 : RowOk p n row) : CallOK Go.Proofs.Try.prog 163 [.one (i64 p), .one (vIntss L), .one (vInts row)] (.one (oInts (lessL p L row))) := by
  have hF := fnOk 52 [.tmp 6]
  refine callOK hF 60 Go.Proofs.Try.func163 rfl rfl rfl (by decide) (by simp) rfl ?_
  intro w0 hw
  have S := @vc_sound w0 _ hF ⟨(.one (oInts (lessL p L row))), []⟩ Go.Proofs.Try.f163 rfl (by simp)
  have hpp := prPos hp
  have c1 := Clone_ok row (by rw [h1.1]; exact hn)
  simp
  refine CallW.ok (by decide) (by simp) c1 (by simp) (S 60 _ _ ?_)
  simp
  refine J.loop hw (fun i : Nat => ⟨[(0, .c (.d (i64 p))), (14, .c (.d (vIntss L))), (15, .c (.d (i64 L.length))), (2, .c (.ob 64002)), (16, .c (.d (i64 i)))], [(64002, .arr 2 1 (ints (lessL p (L.take i) row)))]⟩)
    (fun i => i ≤ L.length) (fun i => L.length - i) 0 (by simp) (by simp [lessL]) ?_
  intro i hi
  refine S 8 _ _ ?_
  simp
  refine ⟨fun hlt => ?_, fun hge => ?_⟩
  · obtain ⟨r, hr⟩ : ∃ r, L[i]? = some r := ⟨L[i], List.getElem?_eq_getElem hlt⟩
    obtain ⟨r1, r2⟩ := hL r (List.mem_of_getElem? hr)
    have hst := less_take (p := p) (row := row) hr
    have ha := less_row (n := n) (p := p) (L := L.take i) (row := row) (by omega) (fun q hq => (hL q (List.take_subset _ _ hq)).1) h1
    generalize lessL p (L.take i) row = acc at hst ha ⊢
    have r2' : leadN r < r.length := r2
    have e1 := ha.1
    have e2 := r1.1
    have gl := gt_get (r := acc) (i := leadN r) (by omega)
    have gr := gt_range (by omega) ha (leadN r)
    have c2 := lead_ok r (by omega)
    rw [led_leadZ r2] at c2
    have hz := subR_zero (p := p) (by omega) ha e2
    generalize gt acc (leadN r) = c at gl gr hst
    refine S 60 _ _ ?_
    simp
    refine ⟨hlt, fun r' hr' => ?_⟩
    obtain rfl : r = r' := Option.some.inj (hr.symm.trans hr')
    refine CallW.ok (by decide) (by simp) c2 (by simp) (S 20 _ _ ?_)
    simp
    refine ⟨by omega, fun x hx => ?_⟩
    obtain rfl : c = x := Option.some.inj (gl.symm.trans hx)
    refine ⟨fun h0 => ?_, fun h0 => ?_⟩
    · have hlen : r.length = acc.length := by omega
      have hsl := subR_length (p := p) (c := c) hlen
      refine J.loop hw (fun j : Nat => ⟨[(0, .c (.d (i64 p))), (14, .c (.d (vIntss L))), (15, .c (.d (i64 L.length))), (2, .c (.ob 64002)), (16, .c (.d (i64 i))), (9, .c (.d (i64 c))), (27, .c (.d (vInts r))), (28, .c (.d (i64 r.length))), (29, .c (.d (i64 j)))], [(64002, .arr 2 1 (ints ((subR p acc r c).take j ++ acc.drop j)))]⟩)
        (fun j => j ≤ r.length) (fun j => r.length - j) 0 (by simp) (by simp) ?_
      intro j hj
      have hdl : ((subR p acc r c).take j).length = j := by rw [List.length_take, hsl]; omega
      have hst2 : ∀ h : j < acc.length, (subR p acc r c).take (j + 1) = (subR p acc r c).take j ++ [(gt acc j - c * gt r j) % p] := fun h => subR_take (p := p) (c := c) h hlen
      have hend : j = r.length → (subR p acc r c).take j ++ acc.drop j = subR p acc r c := fun e => by rw [List.take_of_length_le (by omega), List.drop_of_length_le (by omega), List.append_nil]
      generalize hcr : (subR p acc r c).take j ++ acc.drop j = cur at hend ⊢
      have hcl : cur.length = acc.length := by rw [← hcr]; simp [hsl]; omega
      refine S 8 _ _ ?_
      simp
      refine ⟨fun hlt1 => ?_, fun hge1 => ?_⟩
      · have g1 := gt_get (r := acc) (i := j) (by omega)
        have g2 := gt_get (r := r) (i := j) (by omega)
        have q1 := gt_range (by omega) ha j
        have q2 := gt_range (by omega) r1 j
        have hst3 := hst2 (by omega)
        have hst4 := sub_tmod (p := p) (a := gt acc j) (c := c) (x := gt r j) q1.1 gr.2 q2.1
        generalize gt acc j = x at g1 q1 hst3 hst4
        generalize gt r j = y at g2 q2 hst3 hst4
        have m1 : 0 ≤ (p - c) * y := Int.mul_nonneg (by omega) q2.1
        have m2 : (p - c) * y ≤ 13 * 13 := Int.mul_le_mul (by omega) (by omega) (by omega) (by omega)
        have w0 : IntKind.i64.wrap (p - c) = p - c := wrap64 (by omega) (by omega)
        have w1 : IntKind.i64.wrap ((p - c) * y) = (p - c) * y := wrap64 (by omega) (by omega)
        have w2 : IntKind.i64.wrap (x + (p - c) * y) = x + (p - c) * y := wrap64 (by omega) (by omega)
        have hp0 : p ≠ 0 := by omega
        have gc : cur[j]? = some x := by
          rw [← hcr, List.getElem?_append_right (by omega), hdl, Nat.sub_self, List.getElem?_drop]; simpa using g1
        have hs : cur.set j ((x - c * y) % p) = (subR p acc r c).take (j + 1) ++ acc.drop (j + 1) := by
          rw [← hcr, List.set_append, if_neg (by omega), hdl, Nat.sub_self, hst3, drop_cons g1]
          simp
        refine S 9 _ _ ?_
        simp
        refine ⟨hlt1, fun y' hy => ?_⟩
        obtain rfl : y = y' := Option.some.inj (g2.symm.trans hy)
        refine S 60 _ _ ?_
        simp
        refine ⟨by omega, fun x' hx' => ?_⟩
        obtain rfl : x = x' := Option.some.inj (gc.symm.trans hx')
        simp [w0, w1, w2, hst4, hp0]
        have hs2 : List.take (j + 1) (List.map (fun i => [D.v (Value.int IntKind.i64 i)]) (subR p acc r c)) ++ List.drop (j + 1) (List.map (fun i => [D.v (Value.int IntKind.i64 i)]) acc) = (ints cur).set j [i64 ((x - c * y) % p)] := by
          rw [← List.map_take, ← List.map_drop, ← List.map_append, ← hs, List.map_set]
        exact ⟨by omega, Nxt.mk (j + 1) hlt1 (by simp [wrapS (i := j) (n := r.length) hlt1 (by omega), hs2]) (by omega)⟩
      · have e := hend (by omega)
        subst e
        refine S 60 _ _ ?_
        simp
        exact Nxt.mk (i + 1) hlt (by simp [wrapS (i := i) (n := L.length) hlt (by omega), hst]) (by omega)
    · subst h0
      rw [hz] at hst
      exact Nxt.mk (i + 1) hlt (by simp [wrapS (i := i) (n := L.length) hlt (by omega), hst]) (by omega)
  · have e : L.take i = L := List.take_of_length_le hge
    rw [e]
    refine S 60 _ _ ?_
    simp

end Go.Sm

namespace Go.Proofs
open Go.Shelf
def Try.sortR_ren : Go.Shelf.Ren := ⟨fun | 6 => 145 | 15 => 150 | 14 => 165 | 28 => 176 | 29 => 177 | 20 => 179 | 21 => 180 | 22 => 181 | 23 => 182 | 24 => 183 | 25 => 184 | 26 => 185 | 27 => 186 | 46 => 192 | 47 => 188 | 48 => 189 | 49 => 193 | 50 => 194 | 57 => 196 | n => n, fun | 22 => 56 | 24 => 22 | 25 => 138 | 3 => 3 | 39 => 105 | 0 => 0 | 53 => 158 | 55 => 160 | 4 => 4 | 46 => 151 | 45 => 150 | 50 => 155 | 5 => 5 | 9 => 9 | 66 => 166 | 70 => 170 | 76 => 174 | 77 => 175 | n => n, fun | n => n⟩
theorem Try.sortR : Go.Proofs.SlLaysF.n6 Try.prog Try.sortR_ren := {
  mixed := by kernel_rfl
  f6 := ⟨Try.f145.name, by decide, Try.func145.trans (congrArg some (by kernel_rfl))⟩
  f14 := ⟨Try.f165.name, by decide, Try.func165.trans (congrArg some (by kernel_rfl))⟩
  f15 := Try.func150.trans (congrArg some (by kernel_rfl))
  f20 := ⟨Try.f179.name, by decide, Try.func179.trans (congrArg some (by kernel_rfl))⟩
  f21 := ⟨Try.f180.name, by decide, Try.func180.trans (congrArg some (by kernel_rfl))⟩
  f22 := ⟨Try.f181.name, by decide, Try.func181.trans (congrArg some (by kernel_rfl))⟩
  f23 := ⟨Try.f182.name, by decide, Try.func182.trans (congrArg some (by kernel_rfl))⟩
  f24 := ⟨Try.f183.name, by decide, Try.func183.trans (congrArg some (by kernel_rfl))⟩
  f25 := ⟨Try.f184.name, by decide, Try.func184.trans (congrArg some (by kernel_rfl))⟩
  f26 := ⟨Try.f185.name, by decide, Try.func185.trans (congrArg some (by kernel_rfl))⟩
  f27 := ⟨Try.f186.name, by decide, Try.func186.trans (congrArg some (by kernel_rfl))⟩
  f28 := Try.func176.trans (congrArg some (by kernel_rfl))
  f29 := Try.func177.trans (congrArg some (by kernel_rfl))
  f46 := ⟨Try.f192.name, by decide, Try.func192.trans (congrArg some (by kernel_rfl))⟩
  f47 := Try.func188.trans (congrArg some (by kernel_rfl))
  f48 := Try.func189.trans (congrArg some (by kernel_rfl))
  f49 := ⟨Try.f193.name, by decide, Try.func193.trans (congrArg some (by kernel_rfl))⟩
  f50 := ⟨Try.f194.name, by decide, Try.func194.trans (congrArg some (by kernel_rfl))⟩
  f57 := ⟨Try.f196.name, by decide, Try.func196.trans (congrArg some (by kernel_rfl))⟩
  t0 := Try.underlying0
  a0 := Try.isAgg0
  z0 := Try.sizeOf0
  v0 := Try.zeroValue0
  t3 := Try.underlying3
  a3 := Try.isAgg3
  z3 := Try.sizeOf3
  v3 := Try.zeroValue3
  t4 := Try.underlying4
  a4 := Try.isAgg4
  z4 := Try.sizeOf4
  v4 := Try.zeroValue4
  t5 := Try.underlying5
  a5 := Try.isAgg5
  z5 := Try.sizeOf5
  v5 := Try.zeroValue5
  t9 := Try.underlying9
  a9 := Try.isAgg9
  z9 := Try.sizeOf9
  v9 := Try.zeroValue9
  t22 := Try.underlying56
  a22 := Try.isAgg56
  z22 := Try.sizeOf56
  v22 := Try.zeroValue56
  a24 := Try.isAgg22
  z24 := Try.sizeOf22
  t25 := Try.underlying138
  a25 := Try.isAgg138
  z25 := Try.sizeOf138
  v25 := Try.zeroValue138
  t39 := Try.underlying105
  a39 := Try.isAgg105
  z39 := Try.sizeOf105
  v39 := Try.zeroValue105
  t45 := Try.underlying150
  a45 := Try.isAgg150
  z45 := Try.sizeOf150
  v45 := Try.zeroValue150
  t46 := Try.underlying151
  a46 := Try.isAgg151
  z46 := Try.sizeOf151
  v46 := Try.zeroValue151
  t50 := Try.underlying155
  a50 := Try.isAgg155
  z50 := Try.sizeOf155
  v50 := Try.zeroValue155
  t53 := Try.underlying158
  a53 := Try.isAgg158
  z53 := Try.sizeOf158
  v53 := Try.zeroValue158
  t55 := Try.underlying160
  a55 := Try.isAgg160
  z55 := Try.sizeOf160
  v55 := Try.zeroValue160
  t66 := Try.underlying166
  a66 := Try.isAgg166
  z66 := Try.sizeOf166
  v66 := Try.zeroValue166
  t70 := Try.underlying170
  a70 := Try.isAgg170
  z70 := Try.sizeOf170
  v70 := Try.zeroValue170
  t76 := Try.underlying174
  a76 := Try.isAgg174
  z76 := Try.sizeOf174
  v76 := Try.zeroValue174
  t77 := Try.underlying175
  a77 := Try.isAgg175
  z77 := Try.sizeOf175
  v77 := Try.zeroValue175 }
end Go.Proofs

namespace Go.Sm
open Go.RowKit Go.Shelf Go.Sort

theorem leadZ_range {r : List Int} (hl : r.length ≤ 1048576) : -1 ≤ leadZ r ∧ leadZ r ≤ 1048576 := by
  have := leadN_le r
  unfold leadZ; split <;> omega

theorem reduce1_ok (x y : List Int) (hx : x.length ≤ 1048576) (hy : y.length ≤ 1048576) : CallOK Go.Proofs.Try.prog 146 [.one (vInts x), .one (vInts y)] (.one (i64 (leadZ x - leadZ y))) := by
  have hF := fnOk 10 [.tmp 4]
  refine callOK hF 60 Go.Proofs.Try.func146 rfl rfl rfl (by decide) (by simp) rfl ?_
  intro w0 hw
  have S := @vc_sound w0 _ hF ⟨(.one (i64 (leadZ x - leadZ y))), []⟩ Go.Proofs.Try.f146 rfl (by simp)
  have c1 := lead_ok x hx
  have c2 := lead_ok y hy
  have r1 := leadZ_range hx
  have r2 := leadZ_range hy
  have hwr : IntKind.i64.wrap (leadZ x - leadZ y) = leadZ x - leadZ y := wrap64 (by omega) (by omega)
  simp
  refine CallW.ok (by decide) (by simp) c1 (by simp) (S 60 _ _ ?_)
  simp
  refine CallW.ok (by decide) (by simp) c2 (by simp) (S 60 _ _ ?_)
  simp [hwr]

theorem bel_grown {w w' : World} (h : Bel w.heap.size w w') : ∃ q os, w' = grow (w.drewN q) os := by
  refine ⟨w'.drawn - w.drawn, w'.heap.extract w.heap.size w'.heap.size, ?_⟩
  have hh : w'.heap = w.heap ++ w'.heap.extract w.heap.size w'.heap.size := by
    apply Array.ext_getElem?
    intro i
    by_cases hi : i < w.heap.size
    · rw [Array.getElem?_append_left hi, h.block i hi]
    · rw [Array.getElem?_append_right (by omega), Array.getElem?_extract]
      split
      · congr 1; omega
      · rename_i h2
        exact Array.getElem?_eq_none (by omega)
  have hd : w'.drawn = w.drawn + (w'.drawn - w.drawn) := by have := h.drawn; omega
  have e1 := h.os; have e2 := h.tape; have e3 := h.output
  cases w' with
  | mk heap tape drawn os output =>
    simp only at hh hd e1 e2 e3
    subst e1; subst e2; subst e3
    unfold grow World.drewN
    simp only [World.mk.injEq, and_true, true_and]
    exact ⟨hh, hd⟩

/-! ### handles -/
/-- The block of a handle. -/
def hb : Value → List Nat
  | .slice (some a) _ _ => [a.block]
  | _ => []
theorem fpEs_ints (w : World) (b : Nat) : ∀ (r : List Int) (off : Nat), fpEs w 1 (ints r) b off = []
  | [], off => by simp [fpEs]
  | x :: r, off => by
    have := fpEs_ints w b r (off + 1)
    simp only [ints] at this
    simp [fpEs, fpCs, fp, this]
theorem fp_oInts (w : World) (r : List Int) (v : Value) : fp w (oInts r) v = hb v := by
  cases v with
  | slice ad n cap =>
    cases ad with
    | none => simp [fp, hb]
    | some a => rw [fp_own_some, fpEs_ints]; rfl
  | _ => simp [fp, hb]
theorem rows_EsV {Q : D → Value → Prop} : ∀ {L : List (List Int)} {vs : List Value}, EsV Q 1 (L.map fun r => [oInts r]) vs →
    vs.length = L.length ∧ ∀ (i : Nat) r v, L[i]? = some r → vs[i]? = some v → Q (oInts r) v
  | [], vs, h => by
    have h : vs = [] := h
    subst h; exact ⟨rfl, fun i r v hr => by simp at hr⟩
  | r :: L, vs, h => by
    obtain ⟨u, q, rfl, _, ⟨v, u', rfl, hv, hu⟩, h2⟩ := h
    have hu : u' = [] := hu
    subst hu
    obtain ⟨k1, k2⟩ := rows_EsV h2
    refine ⟨by simp [k1], fun i r' v' hr hv' => ?_⟩
    cases i with
    | zero => simp at hr hv'; subst hr; subst hv'; exact hv
    | succ i => exact k2 i r' v' (by simpa using hr) (by simpa using hv')
theorem rows_of {Q : D → Value → Prop} : ∀ {L : List (List Int)} {vs : List Value}, vs.length = L.length → (∀ (i : Nat) r v, L[i]? = some r → vs[i]? = some v → Q (oInts r) v) →
    EsV Q 1 (L.map fun r => [oInts r]) vs
  | [], vs, hl, _ => by cases vs with
    | nil => rfl
    | cons v vs => simp at hl
  | r :: L, vs, hl, h => by
    cases vs with
    | nil => simp at hl
    | cons v vs =>
      exact ⟨[v], vs, rfl, rfl, ⟨v, [], rfl, h 0 r v rfl rfl, rfl⟩, rows_of (by simpa using hl) fun i r' v' h1 h2 => h (i + 1) r' v' (by simpa using h1) (by simpa using h2)⟩
theorem rows_fp {w : World} : ∀ {L : List (List Int)} {vs : List Value}, vs.length = L.length → fpVs w 1 (L.map fun r => [oInts r]) vs = vs.flatMap hb
  | [], vs, hl => by cases vs with
    | nil => rfl
    | cons v vs => simp at hl
  | r :: L, vs, hl => by
    cases vs with
    | nil => simp at hl
    | cons v vs =>
      have := rows_fp (w := w) (L := L) (vs := vs) (by simpa using hl)
      simp only [List.map_cons, fpVs, fpDs, List.headD_cons, List.drop_succ_cons, List.drop_zero, List.append_nil, List.flatMap_cons, this, fp_oInts]
theorem ints_RdEs {w w' : World} {B M B' M' : Nat → Prop} {b : Nat} (hc : ∀ off, w'.cell? ⟨b, off, none⟩ = w.cell? ⟨b, off, none⟩) : ∀ {r : List Int} {off : Nat}, RdEs w B M 1 (ints r) b off → RdEs w' B' M' 1 (ints r) b off
  | [], off, _ => by simp only [ints, List.map_nil, RdEs]
  | x :: r, off, h => by
    simp only [ints, List.map_cons, RdEs, RdCs, Rd] at h ⊢
    obtain ⟨h1, ⟨⟨c, h2, h3⟩, _⟩, h4⟩ := h
    exact ⟨h1, ⟨⟨c, by rw [hc]; exact h2, h3⟩, trivial⟩, ints_RdEs hc h4⟩

theorem perm_of_permIn' {α : Type} [Inhabited α] {d d' : Array α} (h : PermIn 0 d.size d d') : d'.toList.Perm d.toList := by
  obtain ⟨h1, _, h3⟩ := h
  have e1 : d'.extract 0 d.size = d' := by rw [← h1]; simp
  have e2 : d.extract 0 d.size = d := by simp
  rwa [e1, e2] at h3

/-- One list in strict order among the orders of a list. -/
theorem sorted_rows {d ys : List (List Int)} (hL : ∀ r ∈ ys, Led r) (hp : ys.Perm d) (hs : Srt ys) (hd : d.Pairwise fun a b => ¬ leadZ b < leadZ a) : d = ys := by
  have hz : ∀ r ∈ ys, leadZ r = leadN r := fun r hr => if_pos (hL r hr)
  have h2 : ys.Pairwise fun a b => ¬ leadZ b < leadZ a := by
    refine hs.imp_of_mem fun {a b} ha hb h => ?_
    rw [hz a ha, hz b hb]; omega
  have h1 : ∀ a b, a ∈ d → b ∈ ys → ¬ leadZ b < leadZ a → ¬ leadZ a < leadZ b → a = b := by
    intro a b ha hb h1 h2
    have ha' : a ∈ ys := hp.symm.subset ha
    have hab : leadN a = leadN b := by have e1 := hz a ha'; have e2 := hz b hb; omega
    obtain ⟨i, hi, rfl⟩ := List.getElem_of_mem ha'
    obtain ⟨j, hj, rfl⟩ := List.getElem_of_mem hb
    rcases Nat.lt_trichotomy i j with h | h | h
    · have := List.pairwise_iff_getElem.1 hs i j hi hj h; omega
    · subst h; rfl
    · have := List.pairwise_iff_getElem.1 hs j i hj hi h; omega
  exact List.Perm.eq_of_pairwise h1 hd h2 hp.symm

def rowAt (L : List (List Int)) (i : Nat) : List Int := L.getD i []
def hdAt (vs : List Value) (i : Nat) : Value := vs.getD i nilV
def cmpR (L : List (List Int)) (i j : Nat) : Int := leadZ (rowAt L i) - leadZ (rowAt L j)

theorem swoR (L : List (List Int)) : SWO (Go.Proofs.ltOf (cmpR L)) where
  irrefl x := by unfold Go.Proofs.ltOf cmpR; simp
  trans x y z h1 h2 := by
    unfold Go.Proofs.ltOf cmpR at *
    rw [decide_eq_true_eq] at *; omega
  ntrans x y z h1 h2 := by
    unfold Go.Proofs.ltOf cmpR at *
    rw [decide_eq_false_iff_not] at *; omega

/-- What is known of the handles. -/
def Hds (w : World) (b : Nat) (L : List (List Int)) (vs : List Value) : Prop :=
  vs.length = L.length ∧ b < w.heap.size ∧ (∀ (i : Nat) r v, L[i]? = some r → vs[i]? = some v → Rd w (fun _ => False) (fun _ => False) (oInts r) v) ∧ b ∉ vs.flatMap hb

theorem sw_heap (enc : Nat → Value) (w : World) (b m : Nat) (d : Array Nat) (os : Array Obj) : (Go.Proofs.sortWorld enc w b 0 m d os).heap = (w.heap.modify b (onCells (putCells enc 0 d))) ++ os := rfl
theorem sw_other (enc : Nat → Value) (w : World) (b m : Nat) (d : Array Nat) (os : Array Obj) {y : Nat} (hy : y < w.heap.size) (hne : y ≠ b) : (Go.Proofs.sortWorld enc w b 0 m d os).heap[y]? = w.heap[y]? := by
  rw [sw_heap, Array.getElem?_append_left (by simpa using hy), Array.getElem?_modify, if_neg (fun e => hne e.symm)]

theorem Hds.at {w : World} {b : Nat} {L : List (List Int)} {vs : List Value} (h : Hds w b L vs) (i : Nat) :
    (rowAt L i = [] ∧ hdAt vs i = nilV) ∨ (Rd w (fun _ => False) (fun _ => False) (oInts (rowAt L i)) (hdAt vs i) ∧ b ∉ hb (hdAt vs i)) := by
  by_cases hi : i < L.length
  · have hi2 : i < vs.length := by rw [h.1]; exact hi
    refine .inr ⟨h.2.2.1 i _ _ (by unfold rowAt; simp [hi]) (by unfold hdAt; simp [hi2]), fun hm => h.2.2.2 (List.mem_flatMap.2 ⟨_, ?_, hm⟩)⟩
    unfold hdAt; simp [hi2]
  · exact .inl ⟨by unfold rowAt; simp [Nat.le_of_not_lt hi], by unfold hdAt; simp [show vs.length ≤ i by rw [h.1]; omega]⟩

/-- A handle in a world of the sort's. -/
theorem Hds.keep {w w' : World} {b : Nat} {L : List (List Int)} {vs : List Value} (h : Hds w b L vs) (hsz : w.heap.size ≤ w'.heap.size) (hk : ∀ y, y < w.heap.size → y ≠ b → w'.heap[y]? = w.heap[y]?) (i : Nat) :
    Rd w' (Old w') (fun _ => False) (vInts (rowAt L i)) (hdAt vs i) ∧ Rd w' (fun _ => False) (fun _ => False) (oInts (rowAt L i)) (hdAt vs i) := by
  rcases h.at i with ⟨h1, h2⟩ | ⟨h1, h2⟩
  · rw [h1, h2]
    simp only [Rd]
    exact ⟨.inl ⟨by simp, none, 0, rfl, fun _ => rfl⟩, .inl ⟨by simp, by trivial⟩⟩
  · simp only [Rd] at h1 ⊢
    rcases h1 with ⟨h1, h3⟩ | ⟨g, cap, cur, h1, h3, _, h4, h5, h6, h7⟩
    · exact ⟨.inl ⟨h1, none, 0, h3, fun _ => rfl⟩, .inl ⟨h1, h3⟩⟩
    · have hg : g < w.heap.size := lt_of_heap h4
      have hne : g ≠ b := fun e => h2 (by rw [h1, e]; exact List.mem_cons_self ..)
      have hcell : ∀ off, w'.cell? ⟨g, off, none⟩ = w.cell? ⟨g, off, none⟩ := fun off => by simp only [World.cell?, hk g hg hne]
      exact ⟨.inr ⟨g, 0, cap, h1, h3, not_false, by omega, fun _ => (by show g < _; omega), ints_RdEs hcell h7⟩,
        .inr ⟨g, cap, cur, h1, h3, not_false, by rw [hk g hg hne]; exact h4, h5, h6, ints_RdEs hcell h7⟩⟩

theorem cmp_rows {w : World} {b : Nat} {L : List (List Int)} {vs : List Value} (h : Hds w b L vs) (hl : ∀ r ∈ L, r.length ≤ 1048576) (size : Nat) :
    Go.Proofs.CmpLays1 Go.Proofs.Try.prog 146 #[] (hdAt vs) (cmpR L) b 0 size w := by
  intro m os dk hs x y
  have hlen : ∀ i, (rowAt L i).length ≤ 1048576 := fun i => by
    by_cases hi : i < L.length
    · have : rowAt L i = L[i] := by unfold rowAt; simp [hi]
      rw [this]; exact hl _ (List.getElem_mem hi)
    · have : rowAt L i = [] := by unfold rowAt; simp [Nat.le_of_not_lt hi]
      rw [this]; simp
  have hk := fun i => h.keep (w' := Go.Proofs.sortWorld (hdAt vs) w b 0 m dk os) (by rw [sw_heap]; simp) (fun y hy hne => sw_other _ _ _ _ _ _ hy hne) i
  have hc := (reduce1_ok (rowAt L x) (rowAt L y) (hlen x) (hlen y)).2 (Go.Proofs.sortWorld (hdAt vs) w b 0 m dk os) [hdAt vs x, hdAt vs y]
    ⟨_, _, rfl, ⟨_, rfl, rfl, _, [], rfl, (hk x).1, rfl⟩, _, _, rfl, ⟨_, rfl, rfl, _, [], rfl, (hk y).1, rfl⟩, rfl⟩
  refine Calls.mono hc fun e w' hq => ?_
  obtain ⟨v, rfl, ⟨us, h1, h2, h3, _⟩, hb⟩ := hq
  refine ⟨?_, bel_grown hb⟩
  simp only [RShape] at h1
  subst h1
  obtain ⟨u, r, he, hr, _⟩ := h3
  simp only [List.cons.injEq] at he
  rw [he.1]
  simp only [Rd] at hr
  rw [hr.1]
  rfl

theorem sortRows_ok (L E : List (List Int)) (hl : L.length < 4611686018427387904) (hlen : ∀ r ∈ L, r.length ≤ 1048576) (hL : ∀ r ∈ L, Led r) (hp : E.Perm L) (hs : Srt E) :
    CallX Go.Proofs.Try.prog 145 [.one (oIntss L), .one (fnD 146)] ⟨.tup [], [(0, oIntss E)]⟩ := by
  refine ⟨⟨Go.Proofs.Try.f145, Go.Proofs.Try.func145, rfl, rfl⟩, fun w X vs us hA hnd => ?_⟩
  obtain ⟨v1, q1, x1, c1, rfl, rfl, h1, h2, v2, q2, x2, c2, rfl, rfl, h3, h4, rfl, rfl⟩ := hA
  simp only [RShape] at h1 h3
  subst h1; subst h3
  obtain ⟨_, _, he, hr1, _⟩ := h2
  simp only [List.cons.injEq] at he
  obtain ⟨rfl, rfl⟩ := he
  obtain ⟨_, _, he, hr2, _⟩ := h4
  simp only [List.cons.injEq] at he
  obtain ⟨rfl, rfl⟩ := he
  simp only [ArgX, Rd] at hr2
  obtain ⟨rfl, _⟩ := hr2
  obtain ⟨hr, _, hX⟩ := hr1
  have hElen : E.length = L.length := hp.length_eq
  simp only [Rd] at hr
  rcases hr with ⟨hn, rfl⟩ | ⟨b, cap, cur, rfl, hcap, _, hh, hmax, hsz, hes⟩
  · have hx : L = [] := by simpa using hn
    subst hx
    have hy : E = [] := List.length_eq_zero_iff.1 hElen
    subst hy
    have hc := Go.Proofs.AnyF.slices_SortFunc_none (P := Go.Proofs.Try.prog) (ρ := Go.Proofs.Try.sortR_ren) { Go.Proofs.Try.sortR with } none 0 (.func (.func 146) #[] #[]) w
    refine Calls.mono hc fun e w' hq => ?_
    obtain ⟨rfl, rfl⟩ := hq
    refine ⟨_, rfl, ⟨[nilV], [], ⟨[], rfl, rfl, rfl⟩, ?_, rfl, ?_, ?_, ?_⟩, Low.refl _ _⟩
    · rfl
    · exact ⟨nilV, [], rfl, by simp [Rd], rfl⟩
    · simp [fpDs, fp, cellsR]
    · intro b hb; simp [fpDs, fp, cellsR] at hb
  · obtain ⟨vs, hv1, hv2⟩ := RdEs.vals hes
    obtain ⟨hvl, hvr⟩ := rows_EsV hv1
    have hlt := lt_of_heap hh
    simp only [List.length_map] at hcap
    have hfp0 : fp w (oIntss L) (.slice (some ⟨b, 0, none⟩) (L.map fun xs => [oInts xs]).length cap) = b :: vs.flatMap hb := by
      rw [fp_own_some, fpEs_vals _ _ 0 hv1 hv2, rows_fp hvl]
    rw [hfp0] at hX
    have hnd0 : (b :: vs.flatMap hb).Nodup := by
      have hnd' : (fp w (oIntss L) (.slice (some ⟨b, 0, none⟩) (L.map fun xs => [oInts xs]).length cap) ++ _).Nodup := hnd
      rw [hfp0] at hnd'
      exact (List.nodup_append.1 hnd').1
    have hH0 : Hds w b L vs := ⟨hvl, hlt, hvr, (List.nodup_cons.1 hnd0).1⟩
    have hH : Holds (hdAt vs) w b 0 (List.range L.length).toArray := by
      intro j hj
      have hj' : j < L.length := by simpa using hj
      have hjv : j < vs.length := by omega
      have e : (List.range L.length).toArray[j]! = j := by rw [getElem!_pos _ j hj]; simp
      refine ⟨?_, by simp [World.frozen?, hh]⟩
      rw [e, hv2 j _ (List.getElem?_eq_getElem hjv)]
      unfold hdAt; simp [hjv]
    have eg : ∀ args w, (callFunc 146 args).run Go.Proofs.Try.prog w = .ok (.enter 146 args) w := Go.Proofs.enters_of Go.Proofs.Try.func146 (by kernel_rfl) rfl
    have hone : Go.Proofs.OneCell (hdAt vs) := fun i => by
      rcases hH0.at i with ⟨_, h2⟩ | ⟨h1, _⟩
      · rw [h2]; rfl
      · simp only [Rd] at h1
        rcases h1 with ⟨_, h⟩ | ⟨g, cap, cur, h, _⟩ <;> rw [h] <;> rfl
    have hc := Go.Proofs.Any.slices_SortFunc Go.Proofs.Try.sortR (hdAt vs) hone (cmpR L) (swoR L) 146 #[] b 0 cap (List.range L.length).toArray w eg (cmp_rows hH0 hlen _) hH hlt (by simpa using hl)
    have hll : (L.map fun xs => [oInts xs]).length = (List.range L.length).toArray.size := by simp
    have hnd1 := hnd0
    rw [hll]
    refine Calls.mono hc fun e w' hq => ?_
    obtain ⟨rfl, d', n, os, hperm, hsort, rfl⟩ := hq
    have hpr : d'.toList.Perm (List.range L.length) := perm_of_permIn' hperm
    have hds : d'.size = L.length := by have := hpr.length_eq; simpa using this
    have eL : (List.range L.length).map (rowAt L) = L := by
      refine List.ext_getElem (by simp) fun i h1 h2 => ?_
      simp [rowAt, h2]
    have eV : (List.range L.length).map (hdAt vs) = vs := by
      refine List.ext_getElem (by simp [hvl]) fun i h1 h2 => ?_
      simp [hdAt, h2]
    have hrows : d'.toList.map (rowAt L) = E := by
      refine sorted_rows (fun r hr => hL r (hp.subset hr)) (hp.trans ?_) hs ?_
      · have := hpr.map (rowAt L)
        rw [eL] at this
        exact this.symm
      · rw [List.pairwise_map, List.pairwise_iff_getElem]
        intro i j hi hj hij
        have hn : d'.size = (List.range L.length).toArray.size := hperm.1
        have hi' : i < d'.size := by simpa using hi
        have hj' : j < d'.size := by simpa using hj
        have := hsort i j (Nat.zero_le _) hij (by omega)
        unfold Go.Proofs.ltOf cmpR at this
        rw [getElem!_pos d' i hi', getElem!_pos d' j hj'] at this
        simp only [decide_eq_false_iff_not] at this
        simp only [Array.getElem_toList]
        omega
    have hfpP : ((d'.toList.map (hdAt vs)).flatMap hb).Perm (vs.flatMap hb) := by
      have := (hpr.map (hdAt vs)).flatMap_right hb
      rw [eV] at this
      exact this
    have hnew : (Go.Proofs.sortWorld (hdAt vs) w b 0 n d' os).heap[b]? = some (.cells (putCells (hdAt vs) 0 d' cur) 22 (0, 0)) := by
      rw [sw_heap, Array.getElem?_append_left (by simpa using hlt), Array.getElem?_modify]
      simp [hh, onCells]
    have hcells : ∀ (j : Nat) (u : Value), (d'.toList.map (hdAt vs))[j]? = some u → (Go.Proofs.sortWorld (hdAt vs) w b 0 n d' os).cell? ⟨b, 0 + j, none⟩ = some u := by
      intro j u hj
      rw [List.getElem?_map] at hj
      have hjs : j < d'.size := by
        have : j < d'.toList.length := Decidable.byContradiction fun h => by
          rw [List.getElem?_eq_none (by omega)] at hj; simp at hj
        simpa using this
      have hcu : j < cur.size := by omega
      have hju : hdAt vs d'[j] = u := by simpa [hjs] using hj
      simp only [World.cell?, hnew, putCells]
      simp [hcu, hjs, hju]
    have hEs : EsV (Rd (Go.Proofs.sortWorld (hdAt vs) w b 0 n d' os) (fun _ => False) fun _ => False) 1 (E.map fun xs => [oInts xs]) (d'.toList.map (hdAt vs)) := by
      refine rows_of (by simp [hds, hElen]) fun i r v h1 h2 => ?_
      rw [← hrows, List.getElem?_map] at h1
      rw [List.getElem?_map] at h2
      cases hq : d'.toList[i]? with
      | none => rw [hq] at h1; simp at h1
      | some k =>
        rw [hq] at h1 h2
        simp only [Option.map_some, Option.some.injEq] at h1 h2
        rw [← h1, ← h2]
        exact (hH0.keep (by rw [sw_heap]; simp) (fun y hy hne => sw_other _ _ _ _ _ _ hy hne) k).2
    have hread : Rd (Go.Proofs.sortWorld (hdAt vs) w b 0 n d' os) (fun _ => False) (fun _ => False) (oIntss E) (.slice (some ⟨b, 0, none⟩) (List.range L.length).toArray.size cap) := by
      simp only [Rd]
      exact .inr ⟨b, cap, _, by simp [hElen], by simp [hElen]; exact hcap, not_false, hnew, hmax, by simp [putCells, hsz], RdEs.ofV hEs hcells⟩
    have hfp : fp (Go.Proofs.sortWorld (hdAt vs) w b 0 n d' os) (oIntss E) (.slice (some ⟨b, 0, none⟩) (List.range L.length).toArray.size cap) = b :: (d'.toList.map (hdAt vs)).flatMap hb := by
      rw [fp_own_some, fpEs_vals _ _ 0 hEs hcells, rows_fp (by simp [hds, hElen])]
    have hpm : (b :: (d'.toList.map (hdAt vs)).flatMap hb).Perm (b :: vs.flatMap hb) := hfpP.cons b
    have hXb : X b := hX b (List.mem_cons_self ..)
    refine ⟨_, rfl, ⟨[.slice (some ⟨b, 0, none⟩) (List.range L.length).toArray.size cap], [], ⟨[], rfl, rfl, rfl⟩, rfl, ?_, ⟨_, _, rfl, hread, rfl⟩, ?_, ?_⟩, ?_⟩
    · simp [freshCs, D.fresh, cellsR]
    · show (fpDs _ [oIntss E] [_]).Nodup
      simp only [fpDs, List.headD_cons, hfp, List.append_nil]
      exact hpm.symm.nodup hnd1
    · intro y hy
      have hy : y ∈ fpDs _ [oIntss E] [_] := hy
      simp only [fpDs, List.headD_cons, hfp, List.append_nil] at hy
      exact .inr (hX y (hpm.subset hy))
    · refine ⟨rfl, rfl, rfl, ?_, ?_, Nat.le_add_right _ _⟩
      · rw [sw_heap]; simp
      · intro y hy
        exact sw_other _ _ _ _ _ _ hy.1 fun e => hy.2 (by rw [e]; exact hXb)

end Go.Sm

namespace Go.Sm
open Go.RowKit

/-- What is asked of the rows of a list. -/
def Rws (p : Int) (n : Nat) (L : List (List Int)) : Prop := ∀ r ∈ L, RowOk p n r ∧ Led r
theorem Red.rws {p : Int} {n : Nat} {L : List (List Int)} (h : Red p n L) : Rws p n L := fun r hr => ⟨(h.1 r hr).1, led_of (h.1 r hr).2⟩
theorem nrm_take {p : Int} {row : List Int} {i : Nat} (h1 : i < row.length) : (nrm p row).take (i + 1) = (nrm p row).take i ++ [gt row i * invN (gt row (leadN row)) p % p] := by
  rw [List.take_add_one, List.getElem?_eq_getElem (by simpa [nrm] using h1), gt_lt h1]
  simp [nrm]

set_option maxHeartbeats 1000000 in
theorem take_ok (p : Int) (n : Nat) (L : List (List Int)) (row : List Int) (hp : Pr p) (hn : n ≤ 1048576) (hl : L.length ≤ 1000000) (hL : Rws p n L) (h1 : RowOk p n row) : CallX Go.Proofs.Try.prog 144 [.one (i64 p), .one (oIntss L), .one (vInts row)] ⟨(.one (oIntss (takeL p L row))), []⟩ := by
  have hF := fnOk 64 [.tmp 6]
  refine callX hF 60 Go.Proofs.Try.func144 rfl rfl rfl (by decide) (by simp) rfl (by simp) (by simp [ownAt]) ?_
  intro w0 hw hfix
  have S := @vc_sound w0 _ hF ⟨(.one (oIntss (takeL p L row))), []⟩ Go.Proofs.Try.f144 rfl hfix
  have hpp := prPos hp
  have c1 := less_ok' p n L row hp hn (by omega) hL h1
  have r1 := less_row (n := n) (p := p) (L := L) (row := row) (by omega) (fun q hq => (hL q hq).1) h1
  have c2 := lead_ok (lessL p L row) (by rw [r1.1]; exact hn)
  have ht : takeL p L row = if Led (lessL p L row) then L.map (fun r => subR p r (nrm p (lessL p L row)) (gt r (leadN (lessL p L row)))) ++ [nrm p (lessL p L row)] else L := rfl
  generalize lessL p L row = row1 at c1 c2 r1 ht
  by_cases hld : Led row1
  · rw [led_leadZ hld] at c2
    rw [if_pos hld] at ht
    have hld' : leadN row1 < row1.length := hld
    have e1 := r1.1
    have g1 := gt_get hld'
    have g2 := gt_range (by omega) r1 (leadN row1)
    have g3 := gt_lead hld
    have c3 := inverse_ok (gt row1 (leadN row1)) p hp g2.1 g2.2
    obtain ⟨_, v1, v2⟩ := inv_ok hp (n := gt row1 (leadN row1)) (by omega) g2.2
    obtain ⟨n1, n2, n3, _⟩ := nrm_ok hp r1 hld
    have hnt : ∀ i, i < row1.length → (nrm p row1).take (i + 1) = (nrm p row1).take i ++ [gt row1 i * invN (gt row1 (leadN row1)) p % p] := fun i hi => nrm_take hi
    generalize hwn : nrm p row1 = wn at ht n1 n2 n3 hnt
    generalize hvi : invN (gt row1 (leadN row1)) p = vi at c3 v1 v2 hnt
    have hp0 : p ≠ 0 := by omega
    rw [ht] at S ⊢
    simp
    refine CallW.ok (by decide) (by simp) c1 (by simp) (S 60 _ _ ?_)
    simp
    refine CallW.ok (by decide) (by simp) c2 (by simp) (S 60 _ _ ?_)
    simp
    refine ⟨fun h => absurd h (by omega), ⟨hld', fun a ha => ?_⟩⟩
    obtain rfl := Option.some.inj (g1.symm.trans ha)
    refine CallW.ok (by decide) (by simp) c3 (by simp) (S 60 _ _ ?_)
    simp
    refine J.loop hw (fun i : Nat => ⟨[(0, .c (.d (i64 p))), (1, .c (.ob 1)), (2, .c (.ob 64002)), (8, .c (.d (i64 vi))), (28, .c (.d (i64 row1.length))), (29, .c (.d (i64 i)))], [(1, .arr 22 1 (L.map fun xs => [oInts xs])), (64002, .arr 2 1 (ints (wn.take i ++ row1.drop i)))]⟩)
      (fun i => i ≤ row1.length) (fun i => row1.length - i) 0 (by simp) (by simp) ?_
    intro i hi
    have hwl : (wn.take i).length = i := by rw [List.length_take, n1.1]; omega
    have hnt2 := hnt i
    generalize hcr : wn.take i ++ row1.drop i = cur
    have hcl : cur.length = row1.length := by rw [← hcr]; simp [n1.1]; omega
    refine S 8 _ _ ?_
    simp
    refine ⟨fun hlt => ?_, fun hge => ?_⟩
    · have q1 := gt_get hlt
      have q2 := gt_range (by omega) r1 i
      have q3 := hnt2 hlt
      generalize gt row1 i = x at q1 q2 q3
      have m1 : 0 ≤ x * vi := Int.mul_nonneg q2.1 (by omega)
      have m2 : x * vi ≤ 13 * 13 := Int.mul_le_mul (by omega) (by omega) (by omega) (by omega)
      have w1 : IntKind.i64.wrap (x * vi) = x * vi := wrap64 (by omega) (by omega)
      have hmod : (x * vi).tmod p = x * vi % p := Int.tmod_eq_emod_of_nonneg m1
      have gc : cur[i]? = some x := by
        rw [← hcr, List.getElem?_append_right (by omega), hwl, Nat.sub_self, List.getElem?_drop]; simpa using q1
      have hs : cur.set i (x * vi % p) = wn.take (i + 1) ++ row1.drop (i + 1) := by
        rw [← hcr, List.set_append, if_neg (by omega), hwl, Nat.sub_self, q3, drop_cons q1]
        simp
      have hs2 : List.take (i + 1) (List.map (fun i => [D.v (Value.int IntKind.i64 i)]) wn) ++ List.drop (i + 1) (List.map (fun i => [D.v (Value.int IntKind.i64 i)]) row1) = (ints cur).set i [i64 (x * vi % p)] := by
        rw [← List.map_take, ← List.map_drop, ← List.map_append, ← hs, List.map_set]
      refine S 60 _ _ ?_
      simp
      refine ⟨by omega, fun x' hx' => ?_⟩
      obtain rfl : x = x' := Option.some.inj (gc.symm.trans hx')
      simp [w1, hmod, hp0]
      exact ⟨by omega, Nxt.mk (i + 1) hlt (by simp [wrapS (i := i) (n := row1.length) hlt (by omega), hs2]) (by omega)⟩
    · have e : cur = wn := by
        have hin : i = row1.length := by omega
        rw [← hcr, hin, List.drop_of_length_le (Nat.le_refl _), List.append_nil, List.take_of_length_le (by rw [n1.1]; omega)]
      subst e
      refine S 60 _ _ ?_
      simp
      clear hi hwl hnt2 hcr hcl hge
      have hlead : leadN cur < cur.length := by rw [n2, n1.1]; omega
      refine J.loop hw (fun j : Nat => ⟨[(0, .c (.d (i64 p))), (1, .c (.ob 1)), (2, .c (.ob 64002)), (44, .c (.ob 1)), (45, .c (.d (i64 L.length))), (46, .c (.d (i64 j)))],
          [(1, .arr 22 1 (((L.take j).map (fun r => subR p r cur (gt r (leadN row1))) ++ L.drop j).map fun xs => [oInts xs])), (64002, .arr 2 1 (ints cur))]⟩)
        (fun j => j ≤ L.length) (fun j => L.length - j) 0 (by simp) (by simp) ?_
      intro j hj
      have hml : ((L.take j).map (fun r => subR p r cur (gt r (leadN row1)))).length = j := by simp; omega
      generalize hmd : (L.take j).map (fun r => subR p r cur (gt r (leadN row1))) ++ L.drop j = mid
      have hmdl : mid.length = L.length := by rw [← hmd]; simp; omega
      refine S 8 _ _ ?_
      simp
      refine ⟨fun hlt => ?_, fun hge => ?_⟩
      · obtain ⟨r, hr⟩ : ∃ r, L[j]? = some r := ⟨L[j], List.getElem?_eq_getElem hlt⟩
        obtain ⟨b1, b2⟩ := hL r (List.mem_of_getElem? hr)
        have hmr : mid[j]? = some r := by
          rw [← hmd, List.getElem?_append_right (by omega), hml, Nat.sub_self, List.getElem?_drop]; simpa using hr
        have hms : mid.set j (subR p r cur (gt r (leadN row1))) = (L.take (j + 1)).map (fun r => subR p r cur (gt r (leadN row1))) ++ L.drop (j + 1) := by
          rw [← hmd, List.set_append, if_neg (by omega), hml, Nat.sub_self, List.take_add_one, hr, drop_cons hr]
          simp
        have c4 := less_ok' p n [cur] r hp hn (by simp) (by simpa using ⟨n1, hlead⟩) b1
        have e4 : lessL p [cur] r = subR p r cur (gt r (leadN row1)) := by simp [lessL, n2]
        rw [e4] at c4
        generalize subR p r cur (gt r (leadN row1)) = r' at c4 hms
        refine J.out (F := ⟨Go.Proofs.Try.prog, tab, [], 64, [.tmp 6]⟩) (r := ⟨.one (oIntss (L.map (fun r => subR p r cur (gt r (leadN row1))) ++ [cur])), []⟩) (fn := Go.Proofs.Try.f144) hw
          (ky := 1) (K := 64011) (i := j) (j := 0) (e := 22) (z := 1) (xs := mid.map fun xs => [oInts xs]) (E := [oInts r]) (e' := 2) (z' := 1) (ys := ints r)
          (by simp) (by simp [hmr]) (by simp) (by simp) (by simp) (by omega) (by simp) (by simp) (by simp) ?_
        intro c
        have S1 := @vc_sound (w0.named 64011 c) _ hF ⟨.one (oIntss (L.map (fun r => subR p r cur (gt r (leadN row1))) ++ [cur])), []⟩ Go.Proofs.Try.f144 rfl (by simp)
        have hjm : j < mid.length := by omega
        refine S1 8 _ _ ?_
        simp [hjm]
        refine J.name (F := ⟨Go.Proofs.Try.prog, tab, [], 64, [.tmp 6]⟩) (r := ⟨.one (oIntss (L.map (fun r => subR p r cur (gt r (leadN row1))) ++ [cur])), []⟩) (fn := Go.Proofs.Try.f144)
          (K := 64002) (by rw [named_ne _ _ (by decide)]; exact fix_none hw (by decide)) (by simp) (by simp) ?_
        intro c2
        refine J.reV (d := 2) (K := 64002) (c := c2) (by simp) (by simp) ?_
        refine J.reOb (d := 11) (K := 64011) (c := c) (by rw [named_ne _ _ (by decide)]; simp) (by simp) ?_
        have S2 := @vc_sound ((w0.named 64011 c).named 64002 c2) _ hF ⟨.one (oIntss (L.map (fun r => subR p r cur (gt r (leadN row1))) ++ [cur])), []⟩ Go.Proofs.Try.f144 rfl (by simp)
        refine S2 60 _ _ ?_
        simp
        refine CallW.okA (by decide) (ArgsOK.cons (ArgOK.of (r := .one (i64 p)) (by simp)) (ArgsOK.cons (ArgOK.lend (K := 64002) (e := 22) (e' := 2) (z' := 1) (c := c2) (xs := ints cur) (by simp) (by simp) (by simp)) (ArgsOK.cons (ArgOK.of (r := .one (vInts r)) (by simp)) ArgsOK.nil))) (by simp; exact c4) (by simp) ?_
        simp
        refine J.name (F := ⟨Go.Proofs.Try.prog, tab, [], 64, [.tmp 6]⟩) (r := ⟨.one (oIntss (L.map (fun r => subR p r cur (gt r (leadN row1))) ++ [cur])), []⟩) (fn := Go.Proofs.Try.f144)
          (K := 3648) (by rw [named_ne _ _ (by decide), named_ne _ _ (by decide)]; exact fix_none hw (by decide)) (by simp) (by simp) ?_
        intro c3
        refine J.reV (d := 57) (K := 3648) (c := c3) (by simp) (by simp) ?_
        have S3 := @vc_sound (((w0.named 64011 c).named 64002 c2).named 3648 c3) _ hF ⟨.one (oIntss (L.map (fun r => subR p r cur (gt r (leadN row1))) ++ [cur])), []⟩ Go.Proofs.Try.f144 rfl (by simp)
        refine S3 3 _ _ ?_
        simp [hjm]
        refine J.in' (ky := 1) (K := 3648) (i := j) (j := 0) (e := 22) (z := 1) (xs := (mid.map fun xs => [oInts xs]).set j [.v c3]) (E := [.v c3]) (e' := 2) (z' := 1) (ys := ints r') (c := c3)
          (by simp) (by simp) (by simp) (by simp [hjm]) (by simp) (by decide) (by simp) ?_
        refine J.reOb (d := 2) (K := 64002) (c := c2) (by rw [named_ne _ _ (by decide)]; simp) (by simp) ?_
        have hms2 : List.take (j + 1) (List.map ((fun xs => [oInts xs]) ∘ fun r => subR p r cur (gt r (leadN row1))) L) ++ List.drop (j + 1) (List.map (fun xs => [oInts xs]) L) = (mid.map fun xs => [oInts xs]).set j [oInts r'] := by
          rw [show [oInts r'] = (fun xs => [oInts xs]) r' from rfl, ← List.map_set, hms]; simp
        refine S3 60 _ _ ?_
        simp
        exact Nxt.mk (j + 1) hlt (by simp [wrapS (i := j) (n := L.length) hlt (by omega), hms2]) (by omega)
      · have e : mid = L.map (fun r => subR p r cur (gt r (leadN row1))) := by
          have hin : j = L.length := by omega
          rw [← hmd, hin, List.drop_of_length_le (Nat.le_refl _), List.append_nil, List.take_of_length_le (Nat.le_refl _)]
        rw [← e] at S ⊢
        refine S 60 _ _ ?_
        simp
        refine BsW.move hF (e := 22) (es := [[oInts cur]]) (ks := [64002]) (by decide) rfl rfl rfl (by simp) (by simp) rfl (by decide) (by decide) (by simp) ?_
        refine S 60 _ _ ?_
        simp
        omega
  · have h0 : leadZ row1 = -1 := if_neg hld
    rw [h0] at c2
    rw [if_neg hld] at ht
    rw [ht] at S ⊢
    simp
    refine CallW.ok (by decide) (by simp) c1 (by simp) (S 60 _ _ ?_)
    simp
    refine CallW.ok (by decide) (by simp) c2 (by simp) (S 60 _ _ ?_)
    simp

theorem redL_take {p : Int} {rows : List (List Int)} {i : Nat} {r : List Int} (h : rows[i]? = some r) : redL p (rows.take (i + 1)) = takeL p (redL p (rows.take i)) r := by
  unfold redL; rw [List.take_add_one, h]; simp
theorem both_all {p : Int} {n : Nat} (hp : Pr p) {rows : List (List Int)} (h : ∀ r ∈ rows, RowOk p n r) : Both p n (redL p rows) (echL p rows) := both_ok hp rows (both_nil p n) h
theorem redL_len {p : Int} {rows : List (List Int)} : (redL p rows).length ≤ rows.length := by have := red_len (p := p) (rows := rows) (L := []); simpa [redL] using this

theorem reduce_ok (p : Int) (n : Nat) (rows : List (List Int)) (hp : Pr p) (hn : n ≤ 1048576) (hl : rows.length ≤ 1000000) (hL : ∀ r ∈ rows, RowOk p n r) : CallOK Go.Proofs.Try.prog 108 [.one (i64 p), .one (vIntss rows)] (.one (oIntss (echL p rows))) := by
  have hF := fnOk 23 [.tmp 4]
  refine callOK hF 60 Go.Proofs.Try.func108 rfl rfl rfl (by decide) (by simp) rfl ?_
  intro w0 hw
  have S := @vc_sound w0 _ hF ⟨(.one (oIntss (echL p rows))), []⟩ Go.Proofs.Try.f108 rfl (by simp)
  simp
  refine J.loop hw (fun i : Nat => ⟨[(0, .c (.d (i64 p))), (9, .c (.d (vIntss rows))), (10, .c (.d (i64 rows.length))), (11, .c (.d (i64 i))), (5, .c (.ob 64005))], [(64005, .arr 22 1 ((redL p (rows.take i)).map fun xs => [oInts xs]))]⟩)
    (fun i => i ≤ rows.length) (fun i => rows.length - i) 0 (by simp) (by simp [redL]) ?_
  intro i hi
  refine S 8 _ _ ?_
  simp
  refine ⟨fun hlt => ?_, fun hge => ?_⟩
  · obtain ⟨r, hr⟩ : ∃ r, rows[i]? = some r := ⟨rows[i], List.getElem?_eq_getElem hlt⟩
    have hb := both_all (n := n) hp (rows := rows.take i) fun q hq => hL q (List.take_subset _ _ hq)
    have hln := redL_len (p := p) (rows := rows.take i)
    have hst := redL_take (p := p) hr
    have c1 := take_ok p n (redL p (rows.take i)) r hp hn (by simp at hln; omega) hb.1.rws (hL r (List.mem_of_getElem? hr))
    generalize redL p (rows.take i) = L at c1 hst ⊢
    refine S 8 _ _ ?_
    simp
    refine ⟨hlt, fun r' hr' => ?_⟩
    obtain rfl : r = r' := Option.some.inj (hr.symm.trans hr')
    refine J.keep [0, 5, 7, 9, 10, 11] ?_
    simp
    refine S 60 _ _ ?_
    simp
    refine CallW.mut c1 (by decide) (by simp) (by simp) (by simp) (by simp) (by simp) (by simp) (S 60 _ _ ?_)
    simp
    exact Nxt.mk (i + 1) hlt (by simp [wrapS (i := i) (n := rows.length) hlt (by omega), hst]) (by omega)
  · have e : rows.take i = rows := List.take_of_length_le hge
    rw [e]
    have hb := both_all (n := n) hp hL
    have hln := redL_len (p := p) (rows := rows)
    have c2 := sortRows_ok (redL p rows) (echL p rows) (by omega) (fun r hr => by rw [(hb.1.rws r hr).1.1]; exact hn) (fun r hr => (hb.1.rws r hr).2) hb.2.1 hb.2.2
    generalize redL p rows = L at c2 ⊢
    refine S 60 _ _ ?_
    simp
    refine CallW.mut c2 (by decide) (by simp) (by simp) (by simp) (by simp) (by simp) (by simp) (S 60 _ _ ?_)
    simp

end Go.Sm

namespace Go.Sm
open Go.RowKit

theorem echL_take {p : Int} {rows : List (List Int)} {i : Nat} {r : List Int} (h : rows[i]? = some r) : echL p (rows.take (i + 1)) = echS p (echL p (rows.take i)) r := by
  unfold echL; rw [List.take_add_one, h]; simp
theorem insL_cons (f : List Int → List Int) (w : List Int) (k : Nat) (r : List Int) (rs : List (List Int)) : insL f w k (r :: rs) = if k < leadN r then w :: f r :: rs.map f else f r :: insL f w k rs := rfl

/-- The place of a row that may have been given away. -/
def echSt (p : Int) (rows : List (List Int)) (i : Nat) (E : List (List Int)) (w : List Int) (k : Nat) (j : Nat) (next : List (List Int)) : Bool → St
  | false => ⟨[(0, .c (.d (i64 p))), (1, .c (.d (vIntss rows))), (5, .c (.ob 64005)), (6, .c (.d (i64 i))), (7, .c (.ob 64007)), (8, .c (.d (i64 k))), (11, .c (.ob 64011)), (12, .c (.d (bo false))), (13, .c (.d (i64 j)))],
      [(64005, .arr 22 1 (E.map fun xs => [oInts xs])), (64011, .arr 22 1 (next.map fun xs => [oInts xs])), (64007, .arr 2 1 (ints w))]⟩
  | true => ⟨[(0, .c (.d (i64 p))), (1, .c (.d (vIntss rows))), (5, .c (.ob 64005)), (6, .c (.d (i64 i))), (7, .c (.d (.vw false 1 (ints w)))), (8, .c (.d (i64 k))), (11, .c (.ob 64011)), (12, .c (.d (bo true))), (13, .c (.d (i64 j)))],
      [(64005, .arr 22 1 (E.map fun xs => [oInts xs])), (64011, .arr 22 1 (next.map fun xs => [oInts xs]))]⟩

set_option maxHeartbeats 1000000 in
theorem l01Echelon_ok (p : Int) (n : Nat) (rows : List (List Int)) (hp : Pr p) (hn : n ≤ 1048576) (hl : rows.length ≤ 1000000) (hL : ∀ r ∈ rows, RowOk p n r) : CallOK Go.Proofs.Try.prog 142 [.one (i64 p), .one (vIntss rows)] (.one (oIntss (echL p rows))) := by
  have hF := fnOk 102 [.tmp 4]
  refine callOK hF 60 Go.Proofs.Try.func142 rfl rfl rfl (by decide) (by simp) rfl ?_
  intro w0 hw
  have S := @vc_sound w0 _ hF ⟨(.one (oIntss (echL p rows))), []⟩ Go.Proofs.Try.f142 rfl (by simp)
  have hpp := prPos hp
  simp
  refine J.loop hw (fun i : Nat => ⟨[(0, .c (.d (i64 p))), (1, .c (.d (vIntss rows))), (5, .c (.ob 64005)), (6, .c (.d (i64 i)))], [(64005, .arr 22 1 ((echL p (rows.take i)).map fun xs => [oInts xs]))]⟩)
    (fun i => i ≤ rows.length) (fun i => rows.length - i) 0 (by simp) (by simp [echL]) ?_
  intro i hi
  refine S 12 _ _ ?_
  simp
  refine ⟨fun hlt => ?_, fun hge => ?_⟩
  · obtain ⟨r, hr⟩ : ∃ r, rows[i]? = some r := ⟨rows[i], List.getElem?_eq_getElem hlt⟩
    have hrow := hL r (List.mem_of_getElem? hr)
    have hb := both_all (n := n) hp (rows := rows.take i) fun q hq => hL q (List.take_subset _ _ hq)
    have hln := redL_len (p := p) (rows := rows.take i)
    have hst := echL_take (p := p) hr
    generalize echL p (rows.take i) = E at hb hst ⊢
    have hEl : E.length ≤ 1000000 := by rw [hb.2.1.length_eq]; simp at hln; omega
    have hE : Rws p n E := fun q hq => hb.1.rws q (hb.2.1.subset hq)
    have c1 := l01Rest_ok p n E r hp hn (by omega) hE hrow
    have r1 := less_row (n := n) (p := p) (L := E) (row := r) (by omega) (fun q hq => (hE q hq).1) hrow
    have c2 := l01Lead_ok (lessL p E r) (by rw [r1.1]; exact hn)
    have ht : echS p E r = if Led (lessL p E r) then insL (fun q => subR p q (nrm p (lessL p E r)) (gt q (leadN (lessL p E r)))) (nrm p (lessL p E r)) (leadN (lessL p E r)) E else E := rfl
    generalize lessL p E r = row1 at c1 c2 r1 ht
    refine S 60 _ _ ?_
    simp
    refine ⟨hlt, fun r' hr' => ?_⟩
    obtain rfl : r = r' := Option.some.inj (hr.symm.trans hr')
    refine CallW.ok (by decide) (by simp) c1 (by simp) (S 60 _ _ ?_)
    simp
    by_cases hld : Led row1
    · rw [led_leadZ hld] at c2
      rw [if_pos hld] at ht
      have hld' : leadN row1 < row1.length := hld
      have e1 := r1.1
      have g1 := gt_get hld'
      have g2 := gt_range (by omega) r1 (leadN row1)
      have g3 := gt_lead hld
      have c3 := l01Inverse_ok (gt row1 (leadN row1)) p hp g2.1 g2.2
      obtain ⟨_, v1, v2⟩ := inv_ok hp (n := gt row1 (leadN row1)) (by omega) g2.2
      obtain ⟨n1, n2, n3, _⟩ := nrm_ok hp r1 hld
      have hnt : ∀ i, i < row1.length → (nrm p row1).take (i + 1) = (nrm p row1).take i ++ [gt row1 i * invN (gt row1 (leadN row1)) p % p] := fun i hi => nrm_take hi
      generalize hwn : nrm p row1 = wn at ht n1 n2 n3 hnt
      generalize hvi : invN (gt row1 (leadN row1)) p = vi at c3 v1 v2 hnt
      have hp0 : p ≠ 0 := by omega
      rw [ht] at hst
      refine CallW.ok (by decide) (by simp) c2 (by simp) (S 60 _ _ ?_)
      simp
      refine ⟨fun h => absurd h (by omega), ⟨hld', fun a ha => ?_⟩⟩
      obtain rfl := Option.some.inj (g1.symm.trans ha)
      refine CallW.ok (by decide) (by simp) c3 (by simp) (S 60 _ _ ?_)
      simp
      refine J.loop hw (fun j : Nat => ⟨[(0, .c (.d (i64 p))), (1, .c (.d (vIntss rows))), (5, .c (.ob 64005)), (6, .c (.d (i64 i))), (7, .c (.ob 64007)), (8, .c (.d (i64 (leadN row1)))), (9, .c (.d (i64 vi))), (10, .c (.d (i64 j)))],
          [(64005, .arr 22 1 (E.map fun xs => [oInts xs])), (64007, .arr 2 1 (ints (wn.take j ++ row1.drop j)))]⟩)
        (fun j => j ≤ row1.length) (fun j => row1.length - j) 0 (by simp) (by simp) ?_
      intro j hj
      have hwl : (wn.take j).length = j := by rw [List.length_take, n1.1]; omega
      have hnt2 := hnt j
      generalize hcr : wn.take j ++ row1.drop j = cur
      have hcl : cur.length = row1.length := by rw [← hcr]; simp [n1.1]; omega
      refine S 12 _ _ ?_
      simp
      refine ⟨fun hlt2 => ?_, fun hge2 => ?_⟩
      · have q1 := gt_get (r := row1) (i := j) (by omega)
        have q2 := gt_range (by omega) r1 j
        have q3 := hnt2 (by omega)
        generalize gt row1 j = x at q1 q2 q3
        have m1 : 0 ≤ x * vi := Int.mul_nonneg q2.1 (by omega)
        have m2 : x * vi ≤ 13 * 13 := Int.mul_le_mul (by omega) (by omega) (by omega) (by omega)
        have w1 : IntKind.i64.wrap (x * vi) = x * vi := wrap64 (by omega) (by omega)
        have hmod : (x * vi).tmod p = x * vi % p := Int.tmod_eq_emod_of_nonneg m1
        have gc : cur[j]? = some x := by
          rw [← hcr, List.getElem?_append_right (by omega), hwl, Nat.sub_self, List.getElem?_drop]; simpa using q1
        have hs : cur.set j (x * vi % p) = wn.take (j + 1) ++ row1.drop (j + 1) := by
          rw [← hcr, List.set_append, if_neg (by omega), hwl, Nat.sub_self, q3, drop_cons q1]
          simp
        have hs2 : List.take (j + 1) (List.map (fun i => [D.v (Value.int IntKind.i64 i)]) wn) ++ List.drop (j + 1) (List.map (fun i => [D.v (Value.int IntKind.i64 i)]) row1) = (ints cur).set j [i64 (x * vi % p)] := by
          rw [← List.map_take, ← List.map_drop, ← List.map_append, ← hs, List.map_set]
        refine S 60 _ _ ?_
        simp
        refine ⟨by omega, fun x' hx' => ?_⟩
        obtain rfl : x = x' := Option.some.inj (gc.symm.trans hx')
        simp [w1, hmod, hp0]
        exact ⟨by omega, Nxt.mk (j + 1) (by omega) (by simp [wrapS (i := j) (n := row1.length) (by omega) (by omega), hs2]) (by omega)⟩
      · have e : cur = wn := by
          have hin : j = row1.length := by omega
          rw [← hcr, hin, List.drop_of_length_le (Nat.le_refl _), List.append_nil, List.take_of_length_le (by rw [n1.1]; omega)]
        subst e
        refine S 60 _ _ ?_
        simp
        clear hj hwl hnt2 hcr hcl hge2
        generalize hk : leadN row1 = k at hst n2 n3 S ⊢
        refine J.loop hw (fun q : Nat × List (List Int) × Bool => echSt p rows i E cur k q.1 q.2.1 q.2.2)
          (fun q => q.1 ≤ E.length ∧ q.2.1.length ≤ q.1 + (if q.2.2 then 1 else 0) ∧ q.2.1 ++ (if q.2.2 then (E.drop q.1).map (fun r => subR p r cur (gt r k)) else insL (fun r => subR p r cur (gt r k)) cur k (E.drop q.1)) = insL (fun r => subR p r cur (gt r k)) cur k E) (fun q => E.length - q.1) (0, [], false) (by simp) (by simp [echSt]) ?_
        rintro ⟨j, next, placed⟩ ⟨hj, hnl, hnx⟩
        simp only at hj hnl hnx
        simp only [echSt]
        cases placed with
        | false =>
          have hnl : next.length ≤ j := by simpa using hnl
          refine S 12 _ _ ?_
          simp
          refine ⟨fun hlt3 => ?_, fun hge3 => ?_⟩
          · obtain ⟨q, hq⟩ : ∃ q, E[j]? = some q := ⟨E[j], List.getElem?_eq_getElem hlt3⟩
            obtain ⟨b1, b2⟩ := hE q (List.mem_of_getElem? hq)
            have hql := b1.1
            have d1 := l01Lead_ok q (by rw [b1.1]; exact hn)
            rw [led_leadZ b2] at d1
            have hkq := gt_get (r := q) (i := k) (by rw [b1.1, ← e1]; omega)
            have hkr := gt_range (by omega) b1 k
            have d2 := l01Less_ok p n q cur (gt q k) hp hn b1 n1 hkr
            have hdr := drop_cons hq
            rw [hdr, if_neg (by simp), insL_cons] at hnx
            generalize hqs : subR p q cur (gt q k) = q' at d2 hnx
            generalize gt q k = c at hkq hkr d2
            refine S 60 _ _ ?_
            simp
            refine ⟨hlt3, fun q'' hq'' => ?_⟩
            obtain rfl : q = q'' := Option.some.inj (hq.symm.trans hq'')
            refine CallW.ok (by decide) (by simp) d1 (by simp) (S 5 _ _ ?_)
            simp
            refine ⟨fun hkl => ?_, fun hkl => ?_⟩
            · rw [if_pos hkl] at hnx
              refine S 60 _ _ ?_
              simp
              refine BsW.moveV hF (e := 22) (es := [[oInts cur]]) (ks := [64007]) (rt := 7) (K := 64007) (e1 := 2) (z1 := 1) (ys := ints cur) (by decide) rfl rfl rfl (by simp) (by simp) rfl (by decide) (by decide) (by simp) (by simp) (by simp) (by simp) (by decide) ?_
              refine S 4 _ _ ?_
              simp
              refine ⟨⟨by omega, by omega⟩, S 60 _ _ ?_⟩
              simp
              refine J.dr3 hF mixed 16 [[], [], [], [], [2, 3], [2, 3, 4], [], [], [], [7, 8], [7, 8, 9], [], [7, 8, 9, 10, 11], [7, 8, 9, 10, 11, 12], [1, 2, 3, 4, 5, 6, 7, 8, 9, 10, 11, 12, 13], [1, 2, 3, 4, 5, 6, 7, 8, 9, 10, 11, 12, 13, 14], [0, 1, 2, 3, 4, 5, 6, 7, 8, 9, 10, 11, 12, 13, 14, 15], [0, 1, 2, 3, 4, 5, 6, 7, 8, 9, 10, 11, 12, 13, 14, 15, 16]] [[77, 78, 79, 80, 81, 82, 83, 84, 85, 86, 87, 88, 89, 90, 91, 92], [77, 78, 79, 80, 81, 82, 83, 84, 85, 86, 87, 88, 89, 90, 91, 92], [77, 78, 79, 80, 81, 82, 83, 84, 85, 86, 87, 88, 89, 90, 91, 92], [77, 78, 79, 80, 81, 82, 83, 84, 85, 86, 87, 88, 89, 90, 91, 92], [77, 78, 81, 82, 83, 84, 85, 86, 87, 88, 89, 90, 91, 92], [77, 78, 82, 83, 84, 85, 86, 87, 88, 89, 90, 91, 92], [77, 78, 79, 80, 81, 82, 83, 84, 85, 86, 87, 88, 89, 90, 91, 92], [77, 78, 79, 80, 81, 82, 83, 84, 85, 86, 87, 88, 89, 90, 91, 92], [77, 78, 79, 80, 81, 82, 83, 84, 85, 86, 87, 88, 89, 90, 91, 92], [77, 78, 79, 80, 81, 82, 83, 86, 87, 88, 89, 90, 91, 92], [77, 78, 79, 80, 81, 82, 83, 87, 88, 89, 90, 91, 92], [77, 78, 79, 80, 81, 82, 83, 84, 85, 86, 87, 88, 89, 90, 91, 92], [77, 78, 79, 80, 81, 82, 83, 89, 90, 91, 92], [77, 78, 79, 80, 81, 82, 83, 90, 91, 92], [77, 91, 92], [77, 92]] [[], [], [], [], [], [], [], [], [], [], [], [], [], [], [], [5824]] [[5824], [], [], [], [], [], [], [], [], [], [], [], [], [], [], []] [] [] (by decide) ?_
              rw [← List.take_append_drop 6 (List.take _ _)]
              generalize htl : List.drop 6 (List.take _ _) = tl
              simp
              refine ⟨hlt3, fun q'' hq'' => ?_⟩
              obtain rfl : q = q'' := Option.some.inj (hq.symm.trans hq'')
              subst htl
              rw [← List.take_append_drop 5 (List.drop 6 _)]
              generalize htl : List.drop 5 (List.drop 6 _) = tl
              simp
              refine ⟨hlt3, fun q'' hq'' => ?_⟩
              obtain rfl : q = q'' := Option.some.inj (hq.symm.trans hq'')
              subst htl
              rw [← List.take_append_drop 3 (List.drop 5 (List.drop 6 _))]
              generalize htl : List.drop 3 (List.drop 5 (List.drop 6 _)) = tl
              simp
              refine ⟨by omega, fun c' hc' => ?_⟩
              obtain rfl : c = c' := Option.some.inj (hkq.symm.trans hc')
              subst htl
              simp
              refine DrC3.ok hF (by rfl) (by simp) d2 (by simp) (by simp) ?_
              simp
              refine DrB3.move hF (by rfl) (e := 22) (es := [[oInts q']]) (ks := [5824]) (by decide) rfl rfl rfl (by simp) (by simp) rfl (by decide) (by decide) (by simp) (by simp) ?_
              simp
              refine S 60 _ _ ?_
              simp
              refine ⟨⟨by omega, by omega⟩, ?_⟩
              exact Nxt.mk (j + 1, (next ++ [cur]) ++ [q'], true) (⟨hlt3, by simp; omega, by rw [← hnx]; simp⟩) (by simp [wrapS (i := j) (n := E.length) hlt3 (by omega)]) (by show E.length - (j + 1) < E.length - j; omega)
            · rw [if_neg (by omega)] at hnx
              refine S 4 _ _ ?_
              simp
              refine J.dr3 hF mixed 16 [[], [], [], [], [2, 3], [2, 3, 4], [], [], [], [7, 8], [7, 8, 9], [], [7, 8, 9, 10, 11], [7, 8, 9, 10, 11, 12], [1, 2, 3, 4, 5, 6, 7, 8, 9, 10, 11, 12, 13], [1, 2, 3, 4, 5, 6, 7, 8, 9, 10, 11, 12, 13, 14], [0, 1, 2, 3, 4, 5, 6, 7, 8, 9, 10, 11, 12, 13, 14, 15], [0, 1, 2, 3, 4, 5, 6, 7, 8, 9, 10, 11, 12, 13, 14, 15, 16]] [[77, 78, 79, 80, 81, 82, 83, 84, 85, 86, 87, 88, 89, 90, 91, 92], [77, 78, 79, 80, 81, 82, 83, 84, 85, 86, 87, 88, 89, 90, 91, 92], [77, 78, 79, 80, 81, 82, 83, 84, 85, 86, 87, 88, 89, 90, 91, 92], [77, 78, 79, 80, 81, 82, 83, 84, 85, 86, 87, 88, 89, 90, 91, 92], [77, 78, 81, 82, 83, 84, 85, 86, 87, 88, 89, 90, 91, 92], [77, 78, 82, 83, 84, 85, 86, 87, 88, 89, 90, 91, 92], [77, 78, 79, 80, 81, 82, 83, 84, 85, 86, 87, 88, 89, 90, 91, 92], [77, 78, 79, 80, 81, 82, 83, 84, 85, 86, 87, 88, 89, 90, 91, 92], [77, 78, 79, 80, 81, 82, 83, 84, 85, 86, 87, 88, 89, 90, 91, 92], [77, 78, 79, 80, 81, 82, 83, 86, 87, 88, 89, 90, 91, 92], [77, 78, 79, 80, 81, 82, 83, 87, 88, 89, 90, 91, 92], [77, 78, 79, 80, 81, 82, 83, 84, 85, 86, 87, 88, 89, 90, 91, 92], [77, 78, 79, 80, 81, 82, 83, 89, 90, 91, 92], [77, 78, 79, 80, 81, 82, 83, 90, 91, 92], [77, 91, 92], [77, 92]] [[], [], [], [], [], [], [], [], [], [], [], [], [], [], [], [5824]] [[5824], [], [], [], [], [], [], [], [], [], [], [], [], [], [], []] [] [] (by decide) ?_
              rw [← List.take_append_drop 6 (List.take _ _)]
              generalize htl : List.drop 6 (List.take _ _) = tl
              simp
              refine ⟨hlt3, fun q'' hq'' => ?_⟩
              obtain rfl : q = q'' := Option.some.inj (hq.symm.trans hq'')
              subst htl
              rw [← List.take_append_drop 5 (List.drop 6 _)]
              generalize htl : List.drop 5 (List.drop 6 _) = tl
              simp
              refine ⟨hlt3, fun q'' hq'' => ?_⟩
              obtain rfl : q = q'' := Option.some.inj (hq.symm.trans hq'')
              subst htl
              rw [← List.take_append_drop 3 (List.drop 5 (List.drop 6 _))]
              generalize htl : List.drop 3 (List.drop 5 (List.drop 6 _)) = tl
              simp
              refine ⟨by omega, fun c' hc' => ?_⟩
              obtain rfl : c = c' := Option.some.inj (hkq.symm.trans hc')
              subst htl
              simp
              refine DrC3.ok hF (by rfl) (by simp) d2 (by simp) (by simp) ?_
              simp
              refine DrB3.move hF (by rfl) (e := 22) (es := [[oInts q']]) (ks := [5824]) (by decide) rfl rfl rfl (by simp) (by simp) rfl (by decide) (by decide) (by simp) (by simp) ?_
              simp
              refine S 60 _ _ ?_
              simp
              refine ⟨⟨by omega, by omega⟩, ?_⟩
              exact Nxt.mk (j + 1, next ++ [q'], false) (⟨hlt3, by simp; omega, by rw [← hnx]; simp⟩) (by simp [wrapS (i := j) (n := E.length) hlt3 (by omega)]) (by show E.length - (j + 1) < E.length - j; omega)
          · have hnil : E.drop j = [] := List.drop_eq_nil_of_le hge3
            rw [hnil, if_neg (by simp)] at hnx
            have hnx : next ++ [cur] = _ := hnx
            rw [← hnx] at hst
            refine S 60 _ _ ?_
            simp
            refine BsW.move hF (e := 22) (es := [[oInts cur]]) (ks := [64007]) (by decide) rfl rfl rfl (by simp) (by simp) rfl (by decide) (by decide) (by simp) ?_
            refine S 60 _ _ ?_
            simp
            refine ⟨⟨by omega, by omega⟩, ?_⟩
            exact Nxt.mk (i + 1) hlt (by simp [wrapS (i := i) (n := rows.length) hlt (by omega), hst]) (by omega)
        | true =>
          have hnl : next.length ≤ j + 1 := by simpa using hnl
          refine S 12 _ _ ?_
          simp
          refine ⟨fun hlt3 => ?_, fun hge3 => ?_⟩
          · obtain ⟨q, hq⟩ : ∃ q, E[j]? = some q := ⟨E[j], List.getElem?_eq_getElem hlt3⟩
            obtain ⟨b1, b2⟩ := hE q (List.mem_of_getElem? hq)
            have hql := b1.1
            have hkq := gt_get (r := q) (i := k) (by rw [b1.1, ← e1]; omega)
            have hkr := gt_range (by omega) b1 k
            have d2 := l01Less_ok p n q cur (gt q k) hp hn b1 n1 hkr
            have hdr := drop_cons hq
            rw [hdr, if_pos rfl, List.map_cons] at hnx
            generalize hqs : subR p q cur (gt q k) = q' at d2 hnx
            generalize gt q k = c at hkq hkr d2
            refine S 60 _ _ ?_
            simp
            refine J.dr3 hF mixed 16 [[], [], [], [], [2, 3], [2, 3, 4], [], [], [], [7, 8], [7, 8, 9], [], [7, 8, 9, 10, 11], [7, 8, 9, 10, 11, 12], [1, 2, 3, 4, 5, 6, 7, 8, 9, 10, 11, 12, 13], [1, 2, 3, 4, 5, 6, 7, 8, 9, 10, 11, 12, 13, 14], [0, 1, 2, 3, 4, 5, 6, 7, 8, 9, 10, 11, 12, 13, 14, 15], [0, 1, 2, 3, 4, 5, 6, 7, 8, 9, 10, 11, 12, 13, 14, 15, 16]] [[77, 78, 79, 80, 81, 82, 83, 84, 85, 86, 87, 88, 89, 90, 91, 92], [77, 78, 79, 80, 81, 82, 83, 84, 85, 86, 87, 88, 89, 90, 91, 92], [77, 78, 79, 80, 81, 82, 83, 84, 85, 86, 87, 88, 89, 90, 91, 92], [77, 78, 79, 80, 81, 82, 83, 84, 85, 86, 87, 88, 89, 90, 91, 92], [77, 78, 81, 82, 83, 84, 85, 86, 87, 88, 89, 90, 91, 92], [77, 78, 82, 83, 84, 85, 86, 87, 88, 89, 90, 91, 92], [77, 78, 79, 80, 81, 82, 83, 84, 85, 86, 87, 88, 89, 90, 91, 92], [77, 78, 79, 80, 81, 82, 83, 84, 85, 86, 87, 88, 89, 90, 91, 92], [77, 78, 79, 80, 81, 82, 83, 84, 85, 86, 87, 88, 89, 90, 91, 92], [77, 78, 79, 80, 81, 82, 83, 86, 87, 88, 89, 90, 91, 92], [77, 78, 79, 80, 81, 82, 83, 87, 88, 89, 90, 91, 92], [77, 78, 79, 80, 81, 82, 83, 84, 85, 86, 87, 88, 89, 90, 91, 92], [77, 78, 79, 80, 81, 82, 83, 89, 90, 91, 92], [77, 78, 79, 80, 81, 82, 83, 90, 91, 92], [77, 91, 92], [77, 92]] [[], [], [], [], [], [], [], [], [], [], [], [], [], [], [], [5824]] [[5824], [], [], [], [], [], [], [], [], [], [], [], [], [], [], []] [] [] (by decide) ?_
            rw [← List.take_append_drop 6 (List.take _ _)]
            generalize htl : List.drop 6 (List.take _ _) = tl
            simp
            refine ⟨hlt3, fun q'' hq'' => ?_⟩
            obtain rfl : q = q'' := Option.some.inj (hq.symm.trans hq'')
            subst htl
            rw [← List.take_append_drop 5 (List.drop 6 _)]
            generalize htl : List.drop 5 (List.drop 6 _) = tl
            simp
            refine ⟨hlt3, fun q'' hq'' => ?_⟩
            obtain rfl : q = q'' := Option.some.inj (hq.symm.trans hq'')
            subst htl
            rw [← List.take_append_drop 3 (List.drop 5 (List.drop 6 _))]
            generalize htl : List.drop 3 (List.drop 5 (List.drop 6 _)) = tl
            simp
            refine ⟨by omega, fun c' hc' => ?_⟩
            obtain rfl : c = c' := Option.some.inj (hkq.symm.trans hc')
            subst htl
            simp
            refine DrC3.ok hF (by rfl) (by simp) d2 (by simp) (by simp) ?_
            simp
            refine DrB3.move hF (by rfl) (e := 22) (es := [[oInts q']]) (ks := [5824]) (by decide) rfl rfl rfl (by simp) (by simp) rfl (by decide) (by decide) (by simp) (by simp) ?_
            simp
            refine S 60 _ _ ?_
            simp
            refine ⟨⟨by omega, by omega⟩, ?_⟩
            exact Nxt.mk (j + 1, next ++ [q'], true) (⟨hlt3, by simp; omega, by rw [← hnx]; simp⟩) (by simp [wrapS (i := j) (n := E.length) hlt3 (by omega)]) (by show E.length - (j + 1) < E.length - j; omega)
          · have hnil : E.drop j = [] := List.drop_eq_nil_of_le hge3
            rw [hnil, if_pos rfl, List.map_nil, List.append_nil] at hnx
            subst hnx
            refine S 60 _ _ ?_
            simp
            exact Nxt.mk (i + 1) hlt (by simp [wrapS (i := i) (n := rows.length) hlt (by omega), hst]) (by omega)
    · have h0 : leadZ row1 = -1 := if_neg hld
      rw [h0] at c2
      rw [if_neg hld] at ht
      rw [ht] at hst
      refine CallW.ok (by decide) (by simp) c2 (by simp) (S 60 _ _ ?_)
      simp
      exact Nxt.mk (i + 1) hlt (by simp [wrapS (i := i) (n := rows.length) hlt (by omega), hst]) (by omega)
  · have e : rows.take i = rows := List.take_of_length_le hge
    rw [e]
    refine S 60 _ _ ?_
    simp

end Go.Sm

namespace Go.Sm
open Go.RowKit

theorem isLength_ok (n : Int) : CallOK Go.Proofs.Try.prog 102 [.one (i64 n)] (.one (bo (decide (1 ≤ n ∧ n ≤ 10)))) := by
  have hF := fnOk 9 [.tmp 2]
  refine callOK hF 60 Go.Proofs.Try.func102 rfl rfl rfl (by decide) (by simp) rfl ?_
  intro w0 hw
  have S := @vc_sound w0 _ hF ⟨(.one (bo (decide (1 ≤ n ∧ n ≤ 10)))), []⟩ Go.Proofs.Try.f102 rfl (by simp)
  simp
  refine ⟨fun h => ?_, fun h => ?_⟩
  · simp [h]
  · have : ¬ 1 ≤ n := by omega
    simp [this]

theorem sameInts_ok (xs ys : List Int) (hl : xs.length ≤ 2000000) : CallOK Go.Proofs.Try.prog 109 [.one (vInts xs), .one (vInts ys)] (.one (bo (decide (xs = ys)))) := by
  have hF := fnOk 26 [.tmp 4]
  refine callOK hF 60 Go.Proofs.Try.func109 rfl rfl rfl (by decide) (by simp) rfl ?_
  intro w0 hw
  have S := @vc_sound w0 _ hF ⟨(.one (bo (decide (xs = ys)))), []⟩ Go.Proofs.Try.f109 rfl (by simp)
  simp
  refine ⟨fun hne e => hne (by rw [e]), fun he => ?_⟩
  refine J.loop hw (fun i : Nat => ⟨[(0, .c (.d (vInts xs))), (1, .c (.d (vInts ys))), (12, .c (.d (i64 xs.length))), (13, .c (.d (i64 i)))], []⟩)
    (fun i => i ≤ xs.length ∧ xs.take i = ys.take i) (fun i => xs.length - i) 0 (by simp) (by simp) ?_
  rintro i ⟨hi, ht⟩
  refine S 8 _ _ ?_
  simp
  refine ⟨fun hlt => ?_, fun hge => ?_⟩
  · refine S 60 _ _ ?_
    simp
    obtain ⟨a, ha⟩ : ∃ a, xs[i]? = some a := ⟨xs[i], List.getElem?_eq_getElem hlt⟩
    obtain ⟨b, hb⟩ : ∃ b, ys[i]? = some b := ⟨ys[i]'(by omega), List.getElem?_eq_getElem (by omega)⟩
    refine J.dr hF mixed 8 [[], [], [0, 1], [0, 1, 2], [], [], [4, 5], [4, 5, 6], [0, 1, 2, 3, 4, 5, 6, 7]] [[16, 17, 18, 19, 20, 21, 22, 23], [16, 17, 18, 19, 20, 21, 22, 23], [18, 19, 20, 21, 22, 23], [19, 20, 21, 22, 23], [16, 17, 18, 19, 20, 21, 22, 23], [16, 17, 18, 19, 20, 21, 22, 23], [16, 17, 18, 19, 22, 23], [16, 17, 18, 19, 23]] (by decide) ?_
    rw [← List.take_append_drop 4 (List.take _ _)]
    generalize htl : List.drop 4 (List.take _ _) = tl
    simp
    refine ⟨hlt, fun a' ha' => ?_⟩
    obtain rfl : a = a' := Option.some.inj (ha.symm.trans ha')
    subst htl
    simp
    refine ⟨by omega, fun b' hb' => ?_⟩
    obtain rfl : b = b' := Option.some.inj (hb.symm.trans hb')
    refine S 60 _ _ ?_
    simp
    refine ⟨fun hne e => ?_, fun h1 => ?_⟩
    · subst e
      rw [ha] at hb
      exact hne (Option.some.inj hb)
    · subst h1
      refine Nxt.mk (i + 1) ⟨hlt, ?_⟩ (by simp [wrapS (i := i) (n := xs.length) hlt (by omega)]) (by omega)
      rw [List.take_add_one, List.take_add_one, ht, ha, hb]
  · refine S 60 _ _ ?_
    simp
    have h1 : xs = xs.take i := by rw [List.take_of_length_le (by omega)]
    have h2 : ys = ys.take i := by rw [List.take_of_length_le (by omega)]
    rw [h1, h2, ht]

theorem sameRows_ok (L M : List (List Int)) (hl : L.length ≤ 2000000) (hr : ∀ r ∈ L, r.length ≤ 2000000) : CallOK Go.Proofs.Try.prog 107 [.one (vIntss L), .one (vIntss M), .one (fnD 109)] (.one (bo (decide (L = M)))) := by
  have hF := fnOk 32 [.tmp 6]
  refine callOK hF 60 Go.Proofs.Try.func107 rfl rfl rfl (by decide) (by simp) rfl ?_
  intro w0 hw
  have S := @vc_sound w0 _ hF ⟨(.one (bo (decide (L = M)))), []⟩ Go.Proofs.Try.f107 rfl (by simp)
  simp
  refine ⟨fun hne e => hne (by rw [e]), fun he => ?_⟩
  refine J.loop hw (fun i : Nat => ⟨[(1, .c (.d (vIntss M))), (2, .c (.d (fnD 109))), (15, .c (.d (vIntss L))), (16, .c (.d (i64 L.length))), (17, .c (.d (i64 i)))], []⟩)
    (fun i => i ≤ L.length ∧ L.take i = M.take i) (fun i => L.length - i) 0 (by simp) (by simp) ?_
  rintro i ⟨hi, ht⟩
  refine S 8 _ _ ?_
  simp
  refine ⟨fun hlt => ?_, fun hge => ?_⟩
  · obtain ⟨a, ha⟩ : ∃ a, L[i]? = some a := ⟨L[i], List.getElem?_eq_getElem hlt⟩
    obtain ⟨b, hb⟩ : ∃ b, M[i]? = some b := ⟨M[i]'(by omega), List.getElem?_eq_getElem (by omega)⟩
    have c1 := sameInts_ok a b (hr a (List.mem_of_getElem? ha))
    refine S 7 _ _ ?_
    simp
    refine ⟨hlt, fun a' ha' => ?_⟩
    obtain rfl : a = a' := Option.some.inj (ha.symm.trans ha')
    refine S 60 _ _ ?_
    simp
    refine ⟨by omega, fun b' hb' => ?_⟩
    obtain rfl : b = b' := Option.some.inj (hb.symm.trans hb')
    by_cases hab : a = b
    · rw [decide_eq_true hab] at c1
      refine CallW.ok (by decide) (by simp) c1 (by simp) (S 60 _ _ ?_)
      simp
      refine Nxt.mk (i + 1) ⟨hlt, ?_⟩ (by simp [wrapS (i := i) (n := L.length) hlt (by omega)]) (by omega)
      rw [List.take_add_one, List.take_add_one, ht, ha, hb, hab]
    · rw [decide_eq_false hab] at c1
      refine CallW.ok (by decide) (by simp) c1 (by simp) (S 60 _ _ ?_)
      simp
      intro e
      rw [e, hb] at ha
      exact hab (Option.some.inj ha.symm)
  · refine S 60 _ _ ?_
    simp
    have h1 : L = L.take i := by rw [List.take_of_length_le (by omega)]
    have h2 : M = M.take i := by rw [List.take_of_length_le (by omega)]
    rw [h1, h2, ht]

/-- What is asked of one row. -/
def RowP (p l : Int) (r : List Int) : Prop := (r.length : Int) = l ∧ ∀ x ∈ r, 0 ≤ x ∧ x < p
instance (p l : Int) (r : List Int) : Decidable (RowP p l r) := by unfold RowP; infer_instance
def GoodRows (p l : Int) (rows : List (List Int)) : Prop := (Pr p ∧ 1 ≤ l ∧ l ≤ 10) ∧ ∀ r ∈ rows, RowP p l r
instance (p l : Int) (rows : List (List Int)) : Decidable (GoodRows p l rows) := by unfold GoodRows; infer_instance

theorem areRows_ok (p l : Int) (rows : List (List Int)) (hl : rows.length ≤ 1048576) (hr : ∀ r ∈ rows, r.length ≤ 1048576) : CallOK Go.Proofs.Try.prog 103 [.one (i64 p), .one (i64 l), .one (vIntss rows)] (.one (bo (decide (rows.length ≤ 100 ∧ ∀ r ∈ rows, RowP p l r)))) := by
  have hF := fnOk 29 [.tmp 6]
  refine callOK hF 60 Go.Proofs.Try.func103 rfl rfl rfl (by decide) (by simp) rfl ?_
  intro w0 hw
  have S := @vc_sound w0 _ hF ⟨(.one (bo (decide (rows.length ≤ 100 ∧ ∀ r ∈ rows, RowP p l r)))), []⟩ Go.Proofs.Try.f103 rfl (by simp)
  generalize hb : decide (rows.length ≤ 100 ∧ ∀ r ∈ rows, RowP p l r) = b at S ⊢
  simp
  refine ⟨fun h => ?_, fun h => ?_⟩
  · rw [← hb]; simp; omega
  · have hbad : ∀ r ∈ rows, ¬ RowP p l r → b = false := fun r hr' hn => by
      rw [← hb]; simp; intro _; exact ⟨r, hr', hn⟩
    refine J.loop hw (fun i : Nat => ⟨[(0, .c (.d (i64 p))), (1, .c (.d (i64 l))), (12, .c (.d (vIntss rows))), (13, .c (.d (i64 rows.length))), (14, .c (.d (i64 i)))], []⟩)
      (fun i => i ≤ rows.length ∧ ∀ r ∈ rows.take i, RowP p l r) (fun i => rows.length - i) 0 (by simp) (by simp) ?_
    rintro i ⟨hi, hall⟩
    refine S 8 _ _ ?_
    simp
    refine ⟨fun hlt => ?_, fun hge => ?_⟩
    · obtain ⟨r, hr'⟩ : ∃ r, rows[i]? = some r := ⟨rows[i], List.getElem?_eq_getElem hlt⟩
      have hm := List.mem_of_getElem? hr'
      have c1 := field_ok p r (hr r hm)
      have hbr := hbad r hm
      refine S 7 _ _ ?_
      simp
      refine ⟨hlt, fun r'' hr'' => ?_⟩
      obtain rfl : r = r'' := Option.some.inj (hr'.symm.trans hr'')
      refine S 60 _ _ ?_
      simp
      refine ⟨fun hle => ?_, fun hne => hbr fun hq => hne hq.1⟩
      by_cases hf : ∀ x ∈ r, 0 ≤ x ∧ x < p
      · rw [decide_eq_true hf] at c1
        refine CallW.ok (by decide) (by simp) c1 (by simp) (S 60 _ _ ?_)
        simp
        refine Nxt.mk (i + 1) ⟨hlt, fun q hq => ?_⟩ (by simp [wrapS (i := i) (n := rows.length) hlt (by omega)]) (by omega)
        rw [List.take_add_one, hr'] at hq
        simp only [Option.toList, List.mem_append, List.mem_singleton] at hq
        rcases hq with h | rfl
        · exact hall q h
        · exact ⟨hle, hf⟩
      · rw [decide_eq_false hf] at c1
        refine CallW.ok (by decide) (by simp) c1 (by simp) (S 60 _ _ ?_)
        simp
        exact hbr fun hq => hf hq.2
    · refine S 60 _ _ ?_
      simp
      rw [← hb]
      simp
      rw [List.take_of_length_le (by omega)] at hall
      exact ⟨by omega, hall⟩

theorem l10Numbers_ok (p l : Int) (r : List Int) (hr : r.length ≤ 1048576) : CallOK Go.Proofs.Try.prog 141 [.one (i64 p), .one (i64 l), .one (vInts r)] (.one (bo (decide ((r.length : Int) = l ∧ ∀ x ∈ r, 0 ≤ x ∧ x ≤ IntKind.i64.wrap (p - 1))))) := by
  have hF := fnOk 26 [.tmp 6]
  refine callOK hF 60 Go.Proofs.Try.func141 rfl rfl rfl (by decide) (by simp) rfl ?_
  intro w0 hw
  have S := @vc_sound w0 _ hF ⟨(.one (bo (decide ((r.length : Int) = l ∧ ∀ x ∈ r, 0 ≤ x ∧ x ≤ IntKind.i64.wrap (p - 1))))), []⟩ Go.Proofs.Try.f141 rfl (by simp)
  generalize hb : decide ((r.length : Int) = l ∧ ∀ x ∈ r, 0 ≤ x ∧ x ≤ IntKind.i64.wrap (p - 1)) = b at S ⊢
  simp
  have hbad : ∀ x ∈ r, ¬ (0 ≤ x ∧ x ≤ IntKind.i64.wrap (p - 1)) → b = false := fun x hx hn => by
    rw [← hb]; simp only [decide_eq_false_iff_not]; intro h; exact hn (h.2 x hx)
  refine J.loop hw (fun i : Nat => ⟨[(0, .c (.d (i64 p))), (1, .c (.d (i64 l))), (2, .c (.d (vInts r))), (7, .c (.d (i64 i)))], []⟩)
    (fun i => i ≤ r.length ∧ ∀ x ∈ r.take i, 0 ≤ x ∧ x ≤ IntKind.i64.wrap (p - 1)) (fun i => r.length - i) 0 (by simp) (by simp) ?_
  rintro i ⟨hi, hall⟩
  refine S 12 _ _ ?_
  simp
  refine ⟨fun hlt => ?_, fun hge => ?_⟩
  · obtain ⟨x, hx⟩ : ∃ x, r[i]? = some x := ⟨r[i], List.getElem?_eq_getElem hlt⟩
    have hbx := hbad x (List.mem_of_getElem? hx)
    have c1 := l01In_ok x 0 (IntKind.i64.wrap (p - 1))
    refine S 60 _ _ ?_
    simp
    refine ⟨hlt, fun x' hx' => ?_⟩
    obtain rfl : x = x' := Option.some.inj (hx.symm.trans hx')
    by_cases hf : 0 ≤ x ∧ x ≤ IntKind.i64.wrap (p - 1)
    · rw [decide_eq_true hf] at c1
      refine CallW.ok (by decide) (by simp) c1 (by simp) (S 60 _ _ ?_)
      simp
      refine Nxt.mk (i + 1) ⟨hlt, fun q hq => ?_⟩ (by simp [wrapS (i := i) (n := r.length) hlt (by omega)]) (by omega)
      rw [List.take_add_one, hx] at hq
      simp only [Option.toList, List.mem_append, List.mem_singleton] at hq
      rcases hq with h | rfl
      · exact hall q h
      · exact hf
    · rw [decide_eq_false hf] at c1
      refine CallW.ok (by decide) (by simp) c1 (by simp) (S 60 _ _ ?_)
      simp
      exact hbx hf
  · rw [List.take_of_length_le (by omega)] at hall
    refine S 60 _ _ ?_
    simp
    rw [← hb]
    by_cases h : (r.length : Int) = l
    · have e : ((r.length : Int) == l) = true := by simpa using h
      rw [e]
      exact (decide_eq_true ⟨h, hall⟩).symm
    · have e : ((r.length : Int) == l) = false := by simpa using h
      rw [e]
      exact (decide_eq_false fun hq => h hq.1).symm

theorem l10Rows_ok (p l : Int) (rows : List (List Int)) (hl : rows.length ≤ 4611686018427387900) (hr : ∀ r ∈ rows, r.length ≤ 1048576) : CallOK Go.Proofs.Try.prog 100 [.one (i64 p), .one (i64 l), .one (vIntss rows)] (.one (bo (decide (GoodRows p l rows)))) := by
  have hF := fnOk 28 [.tmp 6]
  refine callOK hF 60 Go.Proofs.Try.func100 rfl rfl rfl (by decide) (by simp) rfl ?_
  intro w0 hw
  have S := @vc_sound w0 _ hF ⟨(.one (bo (decide (GoodRows p l rows)))), []⟩ Go.Proofs.Try.f100 rfl (by simp)
  generalize hb : decide (GoodRows p l rows) = b at S ⊢
  have hbad : ∀ r ∈ rows, ¬ ((r.length : Int) = l ∧ ∀ x ∈ r, 0 ≤ x ∧ x ≤ IntKind.i64.wrap (p - 1)) → b = false := fun r hm hn => by
    rw [← hb]; simp only [decide_eq_false_iff_not]
    rintro ⟨⟨hp, h1, h2⟩, hall⟩
    have hpp := prPos hp
    have hw1 : IntKind.i64.wrap (p - 1) = p - 1 := wrap64 (by omega) (by omega)
    rw [hw1] at hn
    obtain ⟨h3, h4⟩ := hall r hm
    exact hn ⟨h3, fun x hx => by have := h4 x hx; omega⟩
  have c2 := l01Prime_ok p
  have c3 := l01In_ok l 1 10
  simp
  refine J.loop hw (fun i : Nat => ⟨[(0, .c (.d (i64 p))), (1, .c (.d (i64 l))), (2, .c (.d (vIntss rows))), (7, .c (.d (i64 i)))], []⟩)
    (fun i => i ≤ rows.length ∧ ∀ r ∈ rows.take i, ((r.length : Int) = l ∧ ∀ x ∈ r, 0 ≤ x ∧ x ≤ IntKind.i64.wrap (p - 1))) (fun i => rows.length - i) 0 (by simp) (by simp) ?_
  rintro i ⟨hi, hall⟩
  refine S 12 _ _ ?_
  simp
  refine ⟨fun hlt => ?_, fun hge => ?_⟩
  · obtain ⟨r, hr'⟩ : ∃ r, rows[i]? = some r := ⟨rows[i], List.getElem?_eq_getElem hlt⟩
    have hm := List.mem_of_getElem? hr'
    have c1 := l10Numbers_ok p l r (hr r hm)
    have hbr := hbad r hm
    generalize hP : ((r.length : Int) = l ∧ ∀ x ∈ r, 0 ≤ x ∧ x ≤ IntKind.i64.wrap (p - 1)) = P at hbr
    refine S 60 _ _ ?_
    simp
    refine ⟨hlt, fun r'' hr'' => ?_⟩
    obtain rfl : r = r'' := Option.some.inj (hr'.symm.trans hr'')
    by_cases hf : ((r.length : Int) = l ∧ ∀ x ∈ r, 0 ≤ x ∧ x ≤ IntKind.i64.wrap (p - 1))
    · rw [decide_eq_true hf] at c1
      refine CallW.ok (by decide) (by simp) c1 (by simp) (S 60 _ _ ?_)
      simp
      refine Nxt.mk (i + 1) ⟨hlt, fun q hq => ?_⟩ (by simp [wrapS (i := i) (n := rows.length) hlt (by omega)]) (by omega)
      rw [List.take_add_one, hr'] at hq
      simp only [Option.toList, List.mem_append, List.mem_singleton] at hq
      rcases hq with h | rfl
      · exact hall q h
      · exact hf
    · rw [decide_eq_false hf] at c1
      have := hbr (by rw [← hP]; exact hf)
      refine CallW.ok (by decide) (by simp) c1 (by simp) (S 60 _ _ ?_)
      simp [this]
  · rw [List.take_of_length_le (by omega)] at hall
    refine S 60 _ _ ?_
    simp
    by_cases hp : Pr p
    · rw [decide_eq_true hp] at c2
      have hpp := prPos hp
      have hw1 : IntKind.i64.wrap (p - 1) = p - 1 := wrap64 (by omega) (by omega)
      rw [hw1] at hall
      refine CallW.ok (by decide) (by simp) c2 (by simp) (S 60 _ _ ?_)
      simp
      have e : decide (1 ≤ l ∧ l ≤ 10) = b := by
        rw [← hb]
        exact decide_eq_decide.2 ⟨fun h => ⟨⟨hp, h⟩, fun r hm => ⟨(hall r hm).1, fun x hx => by have := (hall r hm).2 x hx; omega⟩⟩, fun h => h.1.2⟩
      rw [e] at c3
      refine CallW.ok (by decide) (by simp) c3 (by simp) (S 60 _ _ ?_)
      simp
    · rw [decide_eq_false hp] at c2
      have e : b = false := by rw [← hb]; exact decide_eq_false fun h => hp h.1.1
      refine CallW.ok (by decide) (by simp) c2 (by simp) (S 60 _ _ ?_)
      simp [e]

/-- A code, as a result and as an argument. -/
theorem GoodRows.rows {p l : Int} {rows : List (List Int)} (h : GoodRows p l rows) : ∀ r ∈ rows, RowOk p l.toNat r := fun r hr => ⟨by have := (h.2 r hr).1; omega, (h.2 r hr).2⟩

theorem code_ok (p l : Int) (rows : List (List Int)) (hg : GoodRows p l rows) (hl : rows.length ≤ 1000000) : CallOK Go.Proofs.Try.prog 104 [.one (i64 p), .one (i64 l), .one (vIntss rows)] (oCode p l (echL p rows)) := by
  have hF := fnOk 13 [.cell 6 59]
  refine callOK hF 60 Go.Proofs.Try.func104 rfl rfl rfl (by decide) (by simp) rfl ?_
  intro w0 hw
  have S := @vc_sound w0 _ hF ⟨(oCode p l (echL p rows)), []⟩ Go.Proofs.Try.f104 rfl (by simp)
  have c1 := reduce_ok p l.toNat rows hg.1.1 (by have := hg.1.2; omega) hl hg.rows
  simp
  refine CallW.ok (by decide) (by simp) c1 (by simp) (S 60 _ _ ?_)
  simp

theorem l10Of_ok (p l : Int) (rows : List (List Int)) (hg : GoodRows p l rows) (hl : rows.length ≤ 1000000) : CallOK Go.Proofs.Try.prog 101 [.one (i64 p), .one (i64 l), .one (vIntss rows)] (oCode p l (echL p rows)) := by
  have hF := fnOk 13 [.cell 6 59]
  refine callOK hF 60 Go.Proofs.Try.func101 rfl rfl rfl (by decide) (by simp) rfl ?_
  intro w0 hw
  have S := @vc_sound w0 _ hF ⟨(oCode p l (echL p rows)), []⟩ Go.Proofs.Try.f101 rfl (by simp)
  have c1 := l01Echelon_ok p l.toNat rows hg.1.1 (by have := hg.1.2; omega) hl hg.rows
  simp
  refine CallW.ok (by decide) (by simp) c1 (by simp) (S 60 _ _ ?_)
  simp

/-- The code that rows span. -/
def codeR (p l : Int) (rows : List (List Int)) : (Int × Int × List (List Int)) × Int := if GoodRows p l rows ∧ rows.length ≤ 100 then ((p, l, echL p rows), 0) else ((0, 0, []), 2)
abbrev cres (c : (Int × Int × List (List Int)) × Int) : RV := .tup [(true, [i64 c.1.1, i64 c.1.2.1, oIntss c.1.2.2]), (false, [i64 c.2])]

theorem CodeOf_ok (p l : Int) (rows : List (List Int)) (hl : rows.length ≤ 1048576) (hr : ∀ r ∈ rows, r.length ≤ 1048576) : CallOK Go.Proofs.Try.prog 49 [.one (i64 p), .one (i64 l), .one (vIntss rows)] (cres (codeR p l rows)) := by
  have hF := fnOk 28 [.cell 6 59, .tmp 7]
  refine callOK hF 60 Go.Proofs.Try.func49 rfl rfl rfl (by decide) (by simp) rfl ?_
  intro w0 hw
  have S := @vc_sound w0 _ hF ⟨(cres (codeR p l rows)), []⟩ Go.Proofs.Try.f49 rfl (by simp)
  have c1 := isPrime_ok p
  have c2 := isLength_ok l
  have c3 := areRows_ok p l rows hl hr
  by_cases hp : Pr p
  · rw [decide_eq_true hp] at c1
    by_cases hl1 : 1 ≤ l ∧ l ≤ 10
    · rw [decide_eq_true hl1] at c2
      by_cases ha : rows.length ≤ 100 ∧ ∀ r ∈ rows, RowP p l r
      · rw [decide_eq_true ha] at c3
        have hg : GoodRows p l rows := ⟨⟨hp, hl1⟩, ha.2⟩
        have c4 := code_ok p l rows hg (by omega)
        have e : codeR p l rows = ((p, l, echL p rows), 0) := if_pos ⟨hg, ha.1⟩
        rw [e] at S ⊢
        simp
        refine CallW.ok (by decide) (by simp) c1 (by simp) (S 60 _ _ ?_)
        simp
        refine CallW.ok (by decide) (by simp) c2 (by simp) (S 60 _ _ ?_)
        simp
        refine CallW.ok (by decide) (by simp) c3 (by simp) (S 60 _ _ ?_)
        simp
        refine CallW.ok (by decide) (by simp) c4 (by simp) (S 60 _ _ ?_)
        simp
      · rw [decide_eq_false ha] at c3
        have e : codeR p l rows = ((0, 0, []), 2) := if_neg fun h => ha ⟨h.2, h.1.2⟩
        rw [e] at S ⊢
        simp
        refine CallW.ok (by decide) (by simp) c1 (by simp) (S 60 _ _ ?_)
        simp
        refine CallW.ok (by decide) (by simp) c2 (by simp) (S 60 _ _ ?_)
        simp
        refine CallW.ok (by decide) (by simp) c3 (by simp) (S 60 _ _ ?_)
        simp
    · rw [decide_eq_false hl1] at c2
      have e : codeR p l rows = ((0, 0, []), 2) := if_neg fun h => hl1 h.1.1.2
      rw [e] at S ⊢
      simp
      refine CallW.ok (by decide) (by simp) c1 (by simp) (S 60 _ _ ?_)
      simp
      refine CallW.ok (by decide) (by simp) c2 (by simp) (S 60 _ _ ?_)
      simp
  · rw [decide_eq_false hp] at c1
    have e : codeR p l rows = ((0, 0, []), 2) := if_neg fun h => hp h.1.1.1
    rw [e] at S ⊢
    simp
    refine CallW.ok (by decide) (by simp) c1 (by simp) (S 60 _ _ ?_)
    simp

theorem specCodeOf_ok (p l : Int) (rows : List (List Int)) (hl : rows.length ≤ 1048576) (hr : ∀ r ∈ rows, r.length ≤ 1048576) : CallOK Go.Proofs.Try.prog 47 [.one (i64 p), .one (i64 l), .one (vIntss rows)] (cres (codeR p l rows)) := by
  have hF := fnOk 23 [.cell 6 59, .tmp 7]
  refine callOK hF 60 Go.Proofs.Try.func47 rfl rfl rfl (by decide) (by simp) rfl ?_
  intro w0 hw
  have S := @vc_sound w0 _ hF ⟨(cres (codeR p l rows)), []⟩ Go.Proofs.Try.f47 rfl (by simp)
  have c1 := l10Rows_ok p l rows (by omega) hr
  by_cases hg : GoodRows p l rows
  · rw [decide_eq_true hg] at c1
    by_cases ha : rows.length ≤ 100
    · have c4 := l10Of_ok p l rows hg (by omega)
      have e : codeR p l rows = ((p, l, echL p rows), 0) := if_pos ⟨hg, ha⟩
      have hn : ¬ (100 : Int) < rows.length := by omega
      rw [e] at S ⊢
      simp
      refine CallW.ok (by decide) (by simp) c1 (by simp) (S 60 _ _ ?_)
      simp
      refine ⟨(by omega : (rows.length : Int) ≤ 100), fun _ => ?_⟩
      refine CallW.ok (by decide) (by simp) c4 (by simp) (S 60 _ _ ?_)
      simp
    · have e : codeR p l rows = ((0, 0, []), 2) := if_neg fun h => ha h.2
      rw [e] at S ⊢
      simp
      refine CallW.ok (by decide) (by simp) c1 (by simp) (S 60 _ _ ?_)
      simp
      exact fun h => absurd h (by omega)
  · rw [decide_eq_false hg] at c1
    have e : codeR p l rows = ((0, 0, []), 2) := if_neg fun h => hg h.1
    rw [e] at S ⊢
    simp
    refine CallW.ok (by decide) (by simp) c1 (by simp) (S 60 _ _ ?_)
    simp

theorem ech_facts {p : Int} {n : Nat} (hp : Pr p) {rows : List (List Int)} (h : ∀ r ∈ rows, RowOk p n r) : (echL p rows).length ≤ rows.length ∧ ∀ r ∈ echL p rows, RowOk p n r := by
  have hb := both_all hp h
  exact ⟨by rw [hb.2.1.length_eq]; exact redL_len, fun r hr => (hb.1.rws r (hb.2.1.subset hr)).1⟩

end Go.Sm

namespace Go.Sm
open Go.RowKit

/-- The order of lists of one length. -/
def cmpI : List Int → List Int → Int
  | x :: xs, y :: ys => if x < y then -1 else if y < x then 1 else cmpI xs ys
  | _, _ => 0
theorem cmpI_zero : ∀ {xs ys : List Int}, xs.length = ys.length → (cmpI xs ys = 0 ↔ xs = ys)
  | [], [], _ => by simp [cmpI]
  | [], _ :: _, h => by simp at h
  | _ :: _, [], h => by simp at h
  | x :: xs, y :: ys, h => by
    have ih := cmpI_zero (xs := xs) (ys := ys) (by simpa using h)
    unfold cmpI
    by_cases h1 : x < y
    · simp [h1]; omega
    · by_cases h2 : y < x
      · simp [h1, h2]; omega
      · have : x = y := by omega
        subst this
        simp [ih]
theorem cmpI_drop {xs ys : List Int} {i : Nat} {x y : Int} (hx : xs[i]? = some x) (hy : ys[i]? = some y) : cmpI (xs.drop i) (ys.drop i) = if x < y then -1 else if y < x then 1 else cmpI (xs.drop (i + 1)) (ys.drop (i + 1)) := by
  rw [drop_cons hx, drop_cons hy]; rfl

theorem l02Compare_ok (xs ys : List Int) (hl : xs.length ≤ 1048576) (hle : xs.length ≤ ys.length) : CallOK Go.Proofs.Try.prog 162 [.one (vInts xs), .one (vInts ys)] (.one (i64 (cmpI xs ys))) := by
  have hF := fnOk 32 [.tmp 4]
  refine callOK hF 60 Go.Proofs.Try.func162 rfl rfl rfl (by decide) (by simp) rfl ?_
  intro w0 hw
  have S := @vc_sound w0 _ hF ⟨(.one (i64 (cmpI xs ys))), []⟩ Go.Proofs.Try.f162 rfl (by simp)
  generalize hc : cmpI xs ys = c at S ⊢
  simp
  refine J.loop hw (fun i : Nat => ⟨[(0, .c (.d (vInts xs))), (1, .c (.d (vInts ys))), (5, .c (.d (i64 i)))], []⟩)
    (fun i => i ≤ xs.length ∧ cmpI (xs.drop i) (ys.drop i) = c) (fun i => xs.length - i) 0 ⟨by omega, by simpa using hc⟩ (by simp) ?_
  rintro i ⟨hi, hd⟩
  refine S 12 _ _ ?_
  simp
  refine ⟨fun hlt => ?_, fun hge => ?_⟩
  · obtain ⟨x, hx⟩ : ∃ x, xs[i]? = some x := ⟨xs[i], List.getElem?_eq_getElem hlt⟩
    obtain ⟨y, hy⟩ : ∃ y, ys[i]? = some y := ⟨ys[i]'(by omega), List.getElem?_eq_getElem (by omega)⟩
    rw [cmpI_drop hx hy] at hd
    refine S 60 _ _ ?_
    simp
    refine J.dr hF mixed 8 [[], [], [0, 1], [0, 1, 2], [], [], [4, 5], [4, 5, 6], [0, 1, 2, 3, 4, 5, 6, 7], [0, 1, 2, 3, 4, 5, 6, 7, 8]] [[13, 14, 15, 16, 17, 18, 19, 20], [13, 14, 15, 16, 17, 18, 19, 20], [15, 16, 17, 18, 19, 20], [16, 17, 18, 19, 20], [13, 14, 15, 16, 17, 18, 19, 20], [13, 14, 15, 16, 17, 18, 19, 20], [13, 14, 15, 16, 19, 20], [13, 14, 15, 16, 20]] (by decide) ?_
    rw [← List.take_append_drop 4 (List.take _ _)]
    generalize htl : List.drop 4 (List.take _ _) = tl
    simp
    refine ⟨hlt, fun x' hx' => ?_⟩
    obtain rfl : x = x' := Option.some.inj (hx.symm.trans hx')
    subst htl
    simp
    refine ⟨by omega, fun y' hy' => ?_⟩
    obtain rfl : y = y' := Option.some.inj (hy.symm.trans hy')
    refine S 60 _ _ ?_
    simp
    refine ⟨fun h1 => ?_, fun h1 => ?_⟩
    · rw [if_pos h1] at hd; exact hd
    · rw [if_neg (by omega)] at hd
      refine J.dr hF mixed 8 [[], [], [0, 1], [0, 1, 2], [], [], [4, 5], [4, 5, 6], [0, 1, 2, 3, 4, 5, 6, 7], [0, 1, 2, 3, 4, 5, 6, 7, 8]] [[23, 24, 25, 26, 27, 28, 29, 30], [23, 24, 25, 26, 27, 28, 29, 30], [25, 26, 27, 28, 29, 30], [26, 27, 28, 29, 30], [23, 24, 25, 26, 27, 28, 29, 30], [23, 24, 25, 26, 27, 28, 29, 30], [23, 24, 25, 26, 29, 30], [23, 24, 25, 26, 30]] (by decide) ?_
      rw [← List.take_append_drop 4 (List.take _ _)]
      generalize htl : List.drop 4 (List.take _ _) = tl
      simp
      refine ⟨hlt, fun x' hx' => ?_⟩
      obtain rfl : x = x' := Option.some.inj (hx.symm.trans hx')
      subst htl
      simp
      refine ⟨by omega, fun y' hy' => ?_⟩
      obtain rfl : y = y' := Option.some.inj (hy.symm.trans hy')
      refine S 60 _ _ ?_
      simp
      refine ⟨fun h2 => ?_, fun h2 => ?_⟩
      · rw [if_pos h2] at hd; exact hd
      · rw [if_neg (by omega)] at hd
        exact Nxt.mk (i + 1) ⟨hlt, hd⟩ (by simp [wrapS (i := i) (n := xs.length) hlt (by omega)]) (by omega)
  · refine S 60 _ _ ?_
    simp
    rw [← hd, List.drop_of_length_le (by omega)]
    simp [cmpI]

theorem l10Same_ok (n : Nat) (L M : List (List Int)) (hn : n ≤ 1048576) (hl : L.length ≤ 2000000) (h1 : ∀ r ∈ L, r.length = n) (h2 : ∀ r ∈ M, r.length = n) : CallOK Go.Proofs.Try.prog 143 [.one (vIntss L), .one (vIntss M)] (.one (bo (decide (L = M)))) := by
  have hF := fnOk 27 [.tmp 4]
  refine callOK hF 60 Go.Proofs.Try.func143 rfl rfl rfl (by decide) (by simp) rfl ?_
  intro w0 hw
  have S := @vc_sound w0 _ hF ⟨(.one (bo (decide (L = M)))), []⟩ Go.Proofs.Try.f143 rfl (by simp)
  simp
  refine ⟨fun hne e => hne (by rw [e]), fun he => ?_⟩
  refine J.loop hw (fun i : Nat => ⟨[(0, .c (.d (vIntss L))), (1, .c (.d (vIntss M))), (5, .c (.d (i64 i)))], []⟩)
    (fun i => i ≤ L.length ∧ L.take i = M.take i) (fun i => L.length - i) 0 (by simp) (by simp) ?_
  rintro i ⟨hi, ht⟩
  refine S 12 _ _ ?_
  simp
  refine ⟨fun hlt => ?_, fun hge => ?_⟩
  · obtain ⟨a, ha⟩ : ∃ a, L[i]? = some a := ⟨L[i], List.getElem?_eq_getElem hlt⟩
    obtain ⟨b, hb⟩ : ∃ b, M[i]? = some b := ⟨M[i]'(by omega), List.getElem?_eq_getElem (by omega)⟩
    have la := h1 a (List.mem_of_getElem? ha)
    have lb := h2 b (List.mem_of_getElem? hb)
    have c1 := l02Compare_ok a b (by omega) (by omega)
    have hz := cmpI_zero (xs := a) (ys := b) (by omega)
    generalize cmpI a b = c at c1 hz
    refine S 60 _ _ ?_
    simp
    refine J.dr hF mixed 8 [[], [], [0, 1], [0, 1, 2], [], [], [4, 5], [4, 5, 6], [0, 1, 2, 3, 4, 5, 6, 7], [0, 1, 2, 3, 4, 5, 6, 7, 8]] [[17, 18, 19, 20, 21, 22, 23, 24], [17, 18, 19, 20, 21, 22, 23, 24], [19, 20, 21, 22, 23, 24], [20, 21, 22, 23, 24], [17, 18, 19, 20, 21, 22, 23, 24], [17, 18, 19, 20, 21, 22, 23, 24], [17, 18, 19, 20, 23, 24], [17, 18, 19, 20, 24]] (by decide) ?_
    rw [← List.take_append_drop 4 (List.take _ _)]
    generalize htl : List.drop 4 (List.take _ _) = tl
    simp
    refine ⟨hlt, fun a' ha' => ?_⟩
    obtain rfl : a = a' := Option.some.inj (ha.symm.trans ha')
    subst htl
    simp
    refine ⟨by omega, fun b' hb' => ?_⟩
    obtain rfl : b = b' := Option.some.inj (hb.symm.trans hb')
    refine S 60 _ _ ?_
    simp
    refine CallW.ok (by decide) (by simp) c1 (by simp) (S 60 _ _ ?_)
    simp
    refine ⟨fun hne e => ?_, fun h0 => ?_⟩
    · rw [e, hb] at ha
      exact hne (hz.2 (Option.some.inj ha.symm))
    · have hab := hz.1 h0
      refine Nxt.mk (i + 1) ⟨hlt, ?_⟩ (by simp [wrapS (i := i) (n := L.length) hlt (by omega)]) (by omega)
      rw [List.take_add_one, List.take_add_one, ht, ha, hb, hab]
  · refine S 60 _ _ ?_
    simp
    have h1 : L = L.take i := by rw [List.take_of_length_le (by omega)]
    have h2 : M = M.take i := by rw [List.take_of_length_le (by omega)]
    rw [h1, h2, ht]

/-- Is it a canonical code. -/
def GoodC (p l : Int) (rows : List (List Int)) : Prop := GoodRows p l rows ∧ (rows.length : Int) ≤ l ∧ echL p rows = rows
instance (p l : Int) (rows : List (List Int)) : Decidable (GoodC p l rows) := by unfold GoodC; infer_instance

set_option maxHeartbeats 1000000 in
theorem l10Is_ok (p l : Int) (rows : List (List Int)) (hl : rows.length ≤ 1048576) (hr : ∀ r ∈ rows, r.length ≤ 1048576) : CallOK Go.Proofs.Try.prog 106 [vCode p l rows] (.one (bo (decide (GoodC p l rows)))) := by
  have hF := fnOk 28 [.tmp 2]
  refine callOK hF 60 Go.Proofs.Try.func106 rfl rfl rfl (by decide) (by simp) rfl ?_
  intro w0 hw
  have S := @vc_sound w0 _ hF ⟨(.one (bo (decide (GoodC p l rows)))), []⟩ Go.Proofs.Try.f106 rfl (by simp)
  have c1 := l10Rows_ok p l rows (by omega) hr
  by_cases hg : GoodRows p l rows
  · rw [decide_eq_true hg] at c1
    have h10 := hg.1.2
    by_cases hle : (rows.length : Int) ≤ l
    · have c2 := l01Echelon_ok p l.toNat rows hg.1.1 (by omega) (by omega) hg.rows
      obtain ⟨f1, f2⟩ := ech_facts hg.1.1 hg.rows
      have c3 := l10Same_ok l.toNat (echL p rows) rows (by omega) (by omega) (fun r hr => (f2 r hr).1) (fun r hr => (hg.rows r hr).1)
      have e : decide (GoodC p l rows) = decide (echL p rows = rows) := decide_eq_decide.2 ⟨fun h => h.2.2, fun h => ⟨hg, hle, h⟩⟩
      rw [e] at S ⊢
      generalize decide (echL p rows = rows) = b at c3 S ⊢
      simp
      refine J.dr hF mixed 23 [[], [0], [], [2], [], [4], [0, 1, 2, 3, 4, 5], [0, 1, 2, 3, 4, 5, 6], [0, 1, 2, 3, 4, 5, 6, 7], [0, 1, 2, 3, 4, 5, 6, 7, 8], [0, 1, 2, 3, 4, 5, 6, 7, 8, 9], [0, 1, 2, 3, 4, 5, 6, 7], [0, 1, 2, 3, 4, 5, 6, 7, 11], [0, 1, 2, 3, 4, 5, 6, 7, 8, 9, 10, 11, 12], [0, 1, 2, 3, 4, 5, 6, 7, 8, 9, 10, 11, 12, 13], [0, 1, 2, 3, 4, 5, 6, 7, 8, 9, 10, 11, 12, 13, 14], [0, 1, 2, 3, 4, 5, 6, 7, 8, 9, 10, 11, 12, 13, 14, 15], [0, 1, 2, 3, 4, 5, 6, 7, 8, 9, 10, 11, 12, 13, 14, 15, 16], [0, 1, 2, 3, 4, 5, 6, 7, 8, 9, 10, 11, 12, 13, 14, 15], [0, 1, 2, 3, 4, 5, 6, 7, 8, 9, 10, 11, 12, 13, 14, 15, 18], [0, 1, 2, 3, 4, 5, 6, 7, 8, 9, 10, 11, 12, 13, 14, 15, 16, 17, 18, 19], [0, 1, 2, 3, 4, 5, 6, 7, 8, 9, 10, 11, 12, 13, 14, 15], [0, 1, 2, 3, 4, 5, 6, 7, 8, 9, 10, 11, 12, 13, 14, 15, 21], [0, 1, 2, 3, 4, 5, 6, 7, 8, 9, 10, 11, 12, 13, 14, 15, 16, 17, 18, 19, 20, 21, 22], [0, 1, 2, 3, 4, 5, 6, 7, 8, 9, 10, 11, 12, 13, 14, 15, 16, 17, 18, 19, 20, 21, 22, 23], [0, 1, 2, 3, 4, 5, 6, 7, 8, 9, 10, 11, 12, 13, 14, 15, 16, 17, 18, 19, 20, 21, 22, 23, 24]] [[3, 4, 5, 6, 7, 8, 9, 10, 11, 12, 13, 14, 15, 16, 17, 18, 19, 20, 21, 22, 23, 24, 25], [4, 5, 6, 7, 8, 9, 10, 11, 12, 13, 14, 15, 16, 17, 18, 19, 20, 21, 22, 23, 24, 25], [3, 4, 5, 6, 7, 8, 9, 10, 11, 12, 13, 14, 15, 16, 17, 18, 19, 20, 21, 22, 23, 24, 25], [3, 4, 6, 7, 8, 9, 10, 11, 12, 13, 14, 15, 16, 17, 18, 19, 20, 21, 22, 23, 24, 25], [3, 4, 5, 6, 7, 8, 9, 10, 11, 12, 13, 14, 15, 16, 17, 18, 19, 20, 21, 22, 23, 24, 25], [3, 4, 5, 6, 8, 9, 10, 11, 12, 13, 14, 15, 16, 17, 18, 19, 20, 21, 22, 23, 24, 25], [9, 10, 11, 12, 13, 14, 15, 16, 17, 18, 19, 20, 21, 22, 23, 24, 25], [10, 11, 12, 13, 14, 15, 16, 17, 18, 19, 20, 21, 22, 23, 24, 25], [11, 12, 13, 14, 15, 16, 17, 18, 19, 20, 21, 22, 23, 24, 25], [12, 13, 14, 15, 16, 17, 18, 19, 20, 21, 22, 23, 24, 25], [13, 14, 15, 16, 17, 18, 19, 20, 21, 22, 23, 24, 25], [11, 12, 13, 14, 15, 16, 17, 18, 19, 20, 21, 22, 23, 24, 25], [11, 12, 13, 15, 16, 17, 18, 19, 20, 21, 22, 23, 24, 25], [16, 17, 18, 19, 20, 21, 22, 23, 24, 25], [17, 18, 19, 20, 21, 22, 23, 24, 25], [18, 19, 20, 21, 22, 23, 24, 25], [19, 20, 21, 22, 23, 24, 25], [20, 21, 22, 23, 24, 25], [19, 20, 21, 22, 23, 24, 25], [19, 20, 22, 23, 24, 25], [23, 24, 25], [19, 20, 21, 22, 23, 24, 25], [19, 20, 21, 22, 23, 25]] (by decide) ?_
      simp
      refine DrC.ok hF (by rfl) (by simp) c1 (by simp) (by simp) ?_
      simp [hle]
      refine DrC.ok hF (by rfl) (by simp) c2 (by simp) (by simp) ?_
      simp
      refine S 60 _ _ ?_
      simp
      refine CallW.ok (by decide) (by simp) c3 (by simp) (S 60 _ _ ?_)
      simp
    · have e : decide (GoodC p l rows) = false := decide_eq_false fun h => hle h.2.1
      rw [e] at S ⊢
      simp
      refine J.dr hF mixed 23 [[], [0], [], [2], [], [4], [0, 1, 2, 3, 4, 5], [0, 1, 2, 3, 4, 5, 6], [0, 1, 2, 3, 4, 5, 6, 7], [0, 1, 2, 3, 4, 5, 6, 7, 8], [0, 1, 2, 3, 4, 5, 6, 7, 8, 9], [0, 1, 2, 3, 4, 5, 6, 7], [0, 1, 2, 3, 4, 5, 6, 7, 11], [0, 1, 2, 3, 4, 5, 6, 7, 8, 9, 10, 11, 12], [0, 1, 2, 3, 4, 5, 6, 7, 8, 9, 10, 11, 12, 13], [0, 1, 2, 3, 4, 5, 6, 7, 8, 9, 10, 11, 12, 13, 14], [0, 1, 2, 3, 4, 5, 6, 7, 8, 9, 10, 11, 12, 13, 14, 15], [0, 1, 2, 3, 4, 5, 6, 7, 8, 9, 10, 11, 12, 13, 14, 15, 16], [0, 1, 2, 3, 4, 5, 6, 7, 8, 9, 10, 11, 12, 13, 14, 15], [0, 1, 2, 3, 4, 5, 6, 7, 8, 9, 10, 11, 12, 13, 14, 15, 18], [0, 1, 2, 3, 4, 5, 6, 7, 8, 9, 10, 11, 12, 13, 14, 15, 16, 17, 18, 19], [0, 1, 2, 3, 4, 5, 6, 7, 8, 9, 10, 11, 12, 13, 14, 15], [0, 1, 2, 3, 4, 5, 6, 7, 8, 9, 10, 11, 12, 13, 14, 15, 21], [0, 1, 2, 3, 4, 5, 6, 7, 8, 9, 10, 11, 12, 13, 14, 15, 16, 17, 18, 19, 20, 21, 22], [0, 1, 2, 3, 4, 5, 6, 7, 8, 9, 10, 11, 12, 13, 14, 15, 16, 17, 18, 19, 20, 21, 22, 23], [0, 1, 2, 3, 4, 5, 6, 7, 8, 9, 10, 11, 12, 13, 14, 15, 16, 17, 18, 19, 20, 21, 22, 23, 24]] [[3, 4, 5, 6, 7, 8, 9, 10, 11, 12, 13, 14, 15, 16, 17, 18, 19, 20, 21, 22, 23, 24, 25], [4, 5, 6, 7, 8, 9, 10, 11, 12, 13, 14, 15, 16, 17, 18, 19, 20, 21, 22, 23, 24, 25], [3, 4, 5, 6, 7, 8, 9, 10, 11, 12, 13, 14, 15, 16, 17, 18, 19, 20, 21, 22, 23, 24, 25], [3, 4, 6, 7, 8, 9, 10, 11, 12, 13, 14, 15, 16, 17, 18, 19, 20, 21, 22, 23, 24, 25], [3, 4, 5, 6, 7, 8, 9, 10, 11, 12, 13, 14, 15, 16, 17, 18, 19, 20, 21, 22, 23, 24, 25], [3, 4, 5, 6, 8, 9, 10, 11, 12, 13, 14, 15, 16, 17, 18, 19, 20, 21, 22, 23, 24, 25], [9, 10, 11, 12, 13, 14, 15, 16, 17, 18, 19, 20, 21, 22, 23, 24, 25], [10, 11, 12, 13, 14, 15, 16, 17, 18, 19, 20, 21, 22, 23, 24, 25], [11, 12, 13, 14, 15, 16, 17, 18, 19, 20, 21, 22, 23, 24, 25], [12, 13, 14, 15, 16, 17, 18, 19, 20, 21, 22, 23, 24, 25], [13, 14, 15, 16, 17, 18, 19, 20, 21, 22, 23, 24, 25], [11, 12, 13, 14, 15, 16, 17, 18, 19, 20, 21, 22, 23, 24, 25], [11, 12, 13, 15, 16, 17, 18, 19, 20, 21, 22, 23, 24, 25], [16, 17, 18, 19, 20, 21, 22, 23, 24, 25], [17, 18, 19, 20, 21, 22, 23, 24, 25], [18, 19, 20, 21, 22, 23, 24, 25], [19, 20, 21, 22, 23, 24, 25], [20, 21, 22, 23, 24, 25], [19, 20, 21, 22, 23, 24, 25], [19, 20, 22, 23, 24, 25], [23, 24, 25], [19, 20, 21, 22, 23, 24, 25], [19, 20, 21, 22, 23, 25]] (by decide) ?_
      simp
      refine DrC.ok hF (by rfl) (by simp) c1 (by simp) (by simp) ?_
      simp [hle]
      refine S 60 _ _ ?_
      simp
  · rw [decide_eq_false hg] at c1
    have e : decide (GoodC p l rows) = false := decide_eq_false fun h => hg h.1
    rw [e] at S ⊢
    simp
    refine J.dr hF mixed 23 [[], [0], [], [2], [], [4], [0, 1, 2, 3, 4, 5], [0, 1, 2, 3, 4, 5, 6], [0, 1, 2, 3, 4, 5, 6, 7], [0, 1, 2, 3, 4, 5, 6, 7, 8], [0, 1, 2, 3, 4, 5, 6, 7, 8, 9], [0, 1, 2, 3, 4, 5, 6, 7], [0, 1, 2, 3, 4, 5, 6, 7, 11], [0, 1, 2, 3, 4, 5, 6, 7, 8, 9, 10, 11, 12], [0, 1, 2, 3, 4, 5, 6, 7, 8, 9, 10, 11, 12, 13], [0, 1, 2, 3, 4, 5, 6, 7, 8, 9, 10, 11, 12, 13, 14], [0, 1, 2, 3, 4, 5, 6, 7, 8, 9, 10, 11, 12, 13, 14, 15], [0, 1, 2, 3, 4, 5, 6, 7, 8, 9, 10, 11, 12, 13, 14, 15, 16], [0, 1, 2, 3, 4, 5, 6, 7, 8, 9, 10, 11, 12, 13, 14, 15], [0, 1, 2, 3, 4, 5, 6, 7, 8, 9, 10, 11, 12, 13, 14, 15, 18], [0, 1, 2, 3, 4, 5, 6, 7, 8, 9, 10, 11, 12, 13, 14, 15, 16, 17, 18, 19], [0, 1, 2, 3, 4, 5, 6, 7, 8, 9, 10, 11, 12, 13, 14, 15], [0, 1, 2, 3, 4, 5, 6, 7, 8, 9, 10, 11, 12, 13, 14, 15, 21], [0, 1, 2, 3, 4, 5, 6, 7, 8, 9, 10, 11, 12, 13, 14, 15, 16, 17, 18, 19, 20, 21, 22], [0, 1, 2, 3, 4, 5, 6, 7, 8, 9, 10, 11, 12, 13, 14, 15, 16, 17, 18, 19, 20, 21, 22, 23], [0, 1, 2, 3, 4, 5, 6, 7, 8, 9, 10, 11, 12, 13, 14, 15, 16, 17, 18, 19, 20, 21, 22, 23, 24]] [[3, 4, 5, 6, 7, 8, 9, 10, 11, 12, 13, 14, 15, 16, 17, 18, 19, 20, 21, 22, 23, 24, 25], [4, 5, 6, 7, 8, 9, 10, 11, 12, 13, 14, 15, 16, 17, 18, 19, 20, 21, 22, 23, 24, 25], [3, 4, 5, 6, 7, 8, 9, 10, 11, 12, 13, 14, 15, 16, 17, 18, 19, 20, 21, 22, 23, 24, 25], [3, 4, 6, 7, 8, 9, 10, 11, 12, 13, 14, 15, 16, 17, 18, 19, 20, 21, 22, 23, 24, 25], [3, 4, 5, 6, 7, 8, 9, 10, 11, 12, 13, 14, 15, 16, 17, 18, 19, 20, 21, 22, 23, 24, 25], [3, 4, 5, 6, 8, 9, 10, 11, 12, 13, 14, 15, 16, 17, 18, 19, 20, 21, 22, 23, 24, 25], [9, 10, 11, 12, 13, 14, 15, 16, 17, 18, 19, 20, 21, 22, 23, 24, 25], [10, 11, 12, 13, 14, 15, 16, 17, 18, 19, 20, 21, 22, 23, 24, 25], [11, 12, 13, 14, 15, 16, 17, 18, 19, 20, 21, 22, 23, 24, 25], [12, 13, 14, 15, 16, 17, 18, 19, 20, 21, 22, 23, 24, 25], [13, 14, 15, 16, 17, 18, 19, 20, 21, 22, 23, 24, 25], [11, 12, 13, 14, 15, 16, 17, 18, 19, 20, 21, 22, 23, 24, 25], [11, 12, 13, 15, 16, 17, 18, 19, 20, 21, 22, 23, 24, 25], [16, 17, 18, 19, 20, 21, 22, 23, 24, 25], [17, 18, 19, 20, 21, 22, 23, 24, 25], [18, 19, 20, 21, 22, 23, 24, 25], [19, 20, 21, 22, 23, 24, 25], [20, 21, 22, 23, 24, 25], [19, 20, 21, 22, 23, 24, 25], [19, 20, 22, 23, 24, 25], [23, 24, 25], [19, 20, 21, 22, 23, 24, 25], [19, 20, 21, 22, 23, 25]] (by decide) ?_
    simp
    refine DrC.ok hF (by rfl) (by simp) c1 (by simp) (by simp) ?_
    simp
    refine S 60 _ _ ?_
    simp

theorem IsCode_ok (p l : Int) (rows : List (List Int)) (hl : rows.length ≤ 1048576) (hr : ∀ r ∈ rows, r.length ≤ 1048576) : CallOK Go.Proofs.Try.prog 58 [vCode p l rows] (.one (bo (decide (GoodC p l rows)))) := by
  have hF := fnOk 39 [.tmp 2]
  refine callOK hF 60 Go.Proofs.Try.func58 rfl rfl rfl (by decide) (by simp) rfl ?_
  intro w0 hw
  have S := @vc_sound w0 _ hF ⟨(.one (bo (decide (GoodC p l rows)))), []⟩ Go.Proofs.Try.f58 rfl (by simp)
  have c1 := isPrime_ok p
  have c2 := isLength_ok l
  have c3 := areRows_ok p l rows hl hr
  by_cases hp : Pr p
  · rw [decide_eq_true hp] at c1
    by_cases hl1 : 1 ≤ l ∧ l ≤ 10
    · rw [decide_eq_true hl1] at c2
      by_cases hle : (rows.length : Int) ≤ l
      · have hle' : ¬ l < (rows.length : Int) := by omega
        by_cases ha : rows.length ≤ 100 ∧ ∀ r ∈ rows, RowP p l r
        · rw [decide_eq_true ha] at c3
          have hg : GoodRows p l rows := ⟨⟨hp, hl1⟩, ha.2⟩
          have c4 := reduce_ok p l.toNat rows hp (by omega) (by omega) hg.rows
          obtain ⟨f1, f2⟩ := ech_facts hp hg.rows
          have c5 := sameRows_ok (echL p rows) rows (by omega) (fun r hr => by rw [(f2 r hr).1]; omega)
          have e : decide (GoodC p l rows) = decide (echL p rows = rows) := decide_eq_decide.2 ⟨fun h => h.2.2, fun h => ⟨hg, hle, h⟩⟩
          rw [e] at S ⊢
          generalize decide (echL p rows = rows) = b at c5 S ⊢
          simp
          refine CallW.ok (by decide) (by simp) c1 (by simp) (S 60 _ _ ?_)
          simp
          refine CallW.ok (by decide) (by simp) c2 (by simp) (S 60 _ _ ?_)
          simp [hle']
          refine CallW.ok (by decide) (by simp) c3 (by simp) (S 60 _ _ ?_)
          simp
          refine J.dr hF mixed 7 [[], [0], [], [2], [0, 1, 2, 3], [], [5], [0, 1, 2, 3, 4, 5, 6], [0, 1, 2, 3, 4, 5, 6, 7]] [[31, 32, 33, 34, 35, 36, 37], [32, 33, 34, 35, 36, 37], [31, 32, 33, 34, 35, 36, 37], [31, 32, 34, 35, 36, 37], [35, 36, 37], [31, 32, 33, 34, 35, 36, 37], [31, 32, 33, 34, 35, 37]] (by decide) ?_
          simp
          refine DrC.ok hF (by rfl) (by simp) c4 (by simp) (by simp) ?_
          simp
          refine S 60 _ _ ?_
          simp
          refine CallW.ok (by decide) (by simp) c5 (by simp) (S 60 _ _ ?_)
          simp
        · rw [decide_eq_false ha] at c3
          have e : decide (GoodC p l rows) = false := decide_eq_false fun h => ha ⟨by omega, h.1.2⟩
          rw [e] at S ⊢
          simp
          refine CallW.ok (by decide) (by simp) c1 (by simp) (S 60 _ _ ?_)
          simp
          refine CallW.ok (by decide) (by simp) c2 (by simp) (S 60 _ _ ?_)
          simp [hle']
          refine CallW.ok (by decide) (by simp) c3 (by simp) (S 60 _ _ ?_)
          simp
      · have hle' : l < (rows.length : Int) := by omega
        have e : decide (GoodC p l rows) = false := decide_eq_false fun h => hle h.2.1
        rw [e] at S ⊢
        simp
        refine CallW.ok (by decide) (by simp) c1 (by simp) (S 60 _ _ ?_)
        simp
        refine CallW.ok (by decide) (by simp) c2 (by simp) (S 60 _ _ ?_)
        simp [hle']
    · rw [decide_eq_false hl1] at c2
      have e : decide (GoodC p l rows) = false := decide_eq_false fun h => hl1 h.1.1.2
      rw [e] at S ⊢
      simp
      refine CallW.ok (by decide) (by simp) c1 (by simp) (S 60 _ _ ?_)
      simp
      refine CallW.ok (by decide) (by simp) c2 (by simp) (S 60 _ _ ?_)
      simp
  · rw [decide_eq_false hp] at c1
    have e : decide (GoodC p l rows) = false := decide_eq_false fun h => hp h.1.1.1
    rw [e] at S ⊢
    simp
    refine CallW.ok (by decide) (by simp) c1 (by simp) (S 60 _ _ ?_)
    simp

theorem specIsCode_ok (p l : Int) (rows : List (List Int)) (hl : rows.length ≤ 1048576) (hr : ∀ r ∈ rows, r.length ≤ 1048576) : CallOK Go.Proofs.Try.prog 56 [vCode p l rows] (.one (bo (decide (GoodC p l rows)))) := by
  have hF := fnOk 5 [.tmp 2]
  refine callOK hF 60 Go.Proofs.Try.func56 rfl rfl rfl (by decide) (by simp) rfl ?_
  intro w0 hw
  have S := @vc_sound w0 _ hF ⟨(.one (bo (decide (GoodC p l rows)))), []⟩ Go.Proofs.Try.f56 rfl (by simp)
  have c1 := l10Is_ok p l rows hl hr
  simp
  refine CallW.ok (by decide) (by simp) c1 (by simp) (S 60 _ _ ?_)
  simp

end Go.Sm

namespace Go.Sm
open Go.RowKit

set_option maxHeartbeats 1000000 in
set_option maxRecDepth 4000 in
theorem FnExactIsCode_ok (p l : Int) (rows : List (List Int)) (hb : rows.length ≤ maxLen ∧ ∀ r ∈ rows, r.length ≤ maxLen) : CallOK Go.Proofs.Try.prog 13 [vCode p l rows] (.one (bo true)) := by
  have hF := fnOk 27 [.tmp 2]
  refine callOK hF 60 Go.Proofs.Try.func13 rfl rfl rfl (by decide) (by simp) rfl ?_
  intro w0 hw
  have S := @vc_sound w0 _ hF ⟨(.one (bo true)), []⟩ Go.Proofs.Try.f13 rfl (by simp)
  have c0 := szCode_ok p l rows 1048576 (by omega) (by omega) hb.1 hb.2
  by_cases hs : (1048576 : Int) - rows.length - total rows < 0
  · have e : szL 1048576 rows = -1 := if_pos hs
    rw [e] at c0
    simp
    refine CallW.ok (by decide) (by simp) c0 (by simp) (S 60 _ _ ?_)
    simp
  · have e : szL 1048576 rows = 1048576 - rows.length - total rows := if_neg hs
    rw [e] at c0
    have hl : rows.length ≤ 1048576 := by omega
    have hr : ∀ r ∈ rows, r.length ≤ 1048576 := fun r hr => by have := len_total hr; omega
    have c1 := toCode_ok p l rows hl hr
    have c2 := specIsCode_ok p l rows hl hr
    have c3 := IsCode_ok p l rows hl hr
    have c4 := eqCode_ok p l p l rows rows (by omega) (fun x hx => by have := hr x hx; omega)
    rw [decide_eq_true ⟨rfl, rfl, rfl⟩] at c4
    generalize decide (GoodC p l rows) = b at c2 c3
    simp
    refine CallW.ok (by decide) (by simp) c0 (by simp) (S 60 _ _ ?_)
    simp
    refine fun _ => ?_
    refine CallW.ok (by decide) (by simp) c1 (by simp) (S 60 _ _ ?_)
    simp
    refine CallW.ok (by decide) (by simp) c2 (by simp) (S 60 _ _ ?_)
    simp
    refine CallW.ok (by decide) (by simp) c1 (by simp) (S 60 _ _ ?_)
    simp
    refine CallW.ok (by decide) (by simp) c3 (by simp) (S 60 _ _ ?_)
    simp
    refine J.dr hF mixed 3 [[], [], [1], [0, 1, 2], [0, 1, 2, 3]] [[22, 23, 24], [22, 23, 24], [22, 24]] (by decide) ?_
    simp
    refine DrC.ok hF (by rfl) (by simp) c1 (by simp) (by simp) ?_
    simp
    refine S 60 _ _ ?_
    simp
    refine CallW.ok (by decide) (by simp) c4 (by simp) (S 60 _ _ ?_)
    simp

end Go.Sm

namespace Go.Sm
open Go.RowKit

/-- A polynomial as a triple. -/
structure Pl where
  p : Int
  d : Int
  ts : List Tm
abbrev vPolys (xs : List Pl) : D := .vw true 3 (xs.map fun x => [i64 x.p, i64 x.d, vTerms x.ts])
abbrev oPolys (xs : List Pl) : D := .own 39 3 (xs.map fun x => [i64 x.p, i64 x.d, oTerms x.ts])

end Go.Sm
