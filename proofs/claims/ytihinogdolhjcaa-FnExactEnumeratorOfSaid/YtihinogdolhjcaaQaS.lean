/- The library's sort of terms, as a contract over pure data. -/
import Derived.Test.YtihinogdolhjcaaQaA
import Derived.Shelf.SlSortCmp.NoneTotal
import Derived.Test.YtihinogdolhjcaaSh
import Derived.Ground.SlsfProg

namespace Go.Sm
open Go.RowKit Go.Shelf Go.Sort

/-! ### the order of monomials -/
theorem u8_toNat_inj {x y : UInt8} (h : (x.toNat : Int) = y.toNat) : x = y := UInt8.toNat_inj.1 (by omega)
/-- A monomial's place among all. -/
def Ex.key (e : Ex) : Int := e.deg * 65536 + (255 - (e.a.toNat : Int)) * 256 + (255 - (e.b.toNat : Int))
theorem cmpE_key (x y : Ex) : cmpE x y < 0 ↔ x.key < y.key := by
  have := u8_lt x.a; have := u8_lt x.b; have := u8_lt y.a; have := u8_lt y.b
  unfold cmpE Ex.key
  split
  · omega
  · rename_i h
    split
    · rename_i ha
      have hna : (x.a.toNat : Int) ≠ y.a.toNat := fun e => ha (u8_toNat_inj e)
      omega
    · rename_i ha
      have : x.a = y.a := Decidable.not_not.1 ha
      rw [this]; omega
theorem cmpE_zero (x y : Ex) : cmpE x y = 0 ↔ x = y := by
  refine ⟨fun h => ?_, fun h => by rw [h]; exact cmpE_self y⟩
  unfold cmpE at h
  split at h
  · omega
  · rename_i h0
    split at h
    · rename_i ha; exact absurd (u8_toNat_inj (by omega)) ha
    · rename_i ha
      have ha : x.a = y.a := Decidable.not_not.1 ha
      have hb : x.b = y.b := u8_toNat_inj (by omega)
      have hc : x.c = y.c := by
        unfold Ex.deg at h0
        rw [ha, hb] at h0
        exact u8_toNat_inj (by omega)
      cases x; cases y; simp_all
theorem key_inj {x y : Ex} (h : x.key = y.key) : x = y := by
  have h1 : ¬ cmpE x y < 0 := by rw [cmpE_key]; omega
  have h2 : ¬ cmpE y x < 0 := by rw [cmpE_key]; omega
  refine (cmpE_zero x y).1 ?_
  unfold cmpE at h1 h2 ⊢
  have e1 : y.deg - x.deg = -(x.deg - y.deg) := by omega
  by_cases hd : x.deg - y.deg = 0
  · have hd' : y.deg - x.deg = 0 := by omega
    simp only [hd, hd', ne_eq, not_true_eq_false, if_false] at h1 h2 ⊢
    by_cases ha : x.a = y.a
    · simp only [ha, not_true_eq_false, if_false] at h1 h2 ⊢; omega
    · have ha' : ¬ y.a = x.a := fun e => ha e.symm
      simp only [ha, ha', not_false_eq_true, if_true] at h1 h2 ⊢; omega
  · have hd' : ¬ y.deg - x.deg = 0 := by omega
    simp only [hd, hd', ne_eq, not_false_eq_true, if_true] at h1 h2 ⊢; omega

theorem poly1_ok (x y : Tm) : CallOK Go.Proofs.Try.prog 121 [.agg [u8 x.e.a, u8 x.e.b, u8 x.e.c, i64 x.v], .agg [u8 y.e.a, u8 y.e.b, u8 y.e.c, i64 y.v]] (.one (i64 (cmpE x.e y.e))) := by
  have hF := fnOk 10 [.tmp 4]
  refine callOK hF 60 Go.Proofs.Try.func121 rfl rfl rfl (by decide) (by simp) rfl ?_
  intro w0 hw
  have S := @vc_sound w0 _ hF ⟨(.one (i64 (cmpE x.e y.e))), []⟩ Go.Proofs.Try.f121 rfl (by simp)
  have c1 := compareExps_ok x.e y.e
  simp
  refine CallW.ok (by decide) (by simp) c1 (by simp) (S 60 _ _ ?_)
  simp

def Tm.vs (t : Tm) : List Value := [.int .u8 t.e.a.toNat, .int .u8 t.e.b.toNat, .int .u8 t.e.c.toNat, .int .i64 t.v]

theorem bel_grow {w w' : World} (h : Bel w.heap.size w w') : ∃ q os, w' = grow (w.drewN q) os := by
  refine ⟨w'.drawn - w.drawn, w'.heap.extract w.heap.size w'.heap.size, ?_⟩
  have hh : w'.heap = w.heap ++ w'.heap.extract w.heap.size w'.heap.size := by
    apply Array.ext_getElem?
    intro i
    by_cases hi : i < w.heap.size
    · rw [Array.getElem?_append_left hi, h.block i hi]
    · rw [Array.getElem?_append_right (by omega), Array.getElem?_extract]
      split
      · congr 1; omega
      · rename_i h2
        exact Array.getElem?_eq_none (by omega)
  have hd : w'.drawn = w.drawn + (w'.drawn - w.drawn) := by have := h.drawn; omega
  have e1 := h.os; have e2 := h.tape; have e3 := h.output
  cases w' with
  | mk heap tape drawn os output =>
    simp only at hh hd e1 e2 e3
    subst e1; subst e2; subst e3
    unfold grow World.drewN
    simp only [World.mk.injEq, and_true, true_and]
    exact ⟨hh, hd⟩

theorem cmp_lays (blk off size : Nat) (w : World) : Go.Proofs.CmpLays Go.Proofs.Try.prog 121 #[] Tm.vs 4 (fun x y => cmpE x.e y.e) blk off size w := by
  intro m os dk hs x y
  have h := (poly1_ok x y).2 (Go.Proofs.sortWorldK Tm.vs 4 w blk off m dk os) [.agg x.vs.toArray, .agg y.vs.toArray]
    ⟨_, _, rfl, ⟨x.vs, rfl, by simp, by simp [Tm.vs, DsV, Rd, Value.oneCell']⟩, _, _, rfl, ⟨y.vs, rfl, by simp, by simp [Tm.vs, DsV, Rd, Value.oneCell']⟩, rfl⟩
  refine Calls.mono h fun e w' hq => ?_
  obtain ⟨v, rfl, ⟨us, h1, h2, h3, _⟩, hb⟩ := hq
  refine ⟨?_, bel_grow hb⟩
  simp only [RShape] at h1
  subst h1
  obtain ⟨u, r, he, hr, _⟩ := h3
  simp only [List.cons.injEq] at he
  rw [he.1]
  simp only [Rd] at hr
  rw [hr.1]

theorem swoT : SWO (Go.Proofs.ltOf fun x y : Tm => cmpE x.e y.e) where
  irrefl x := by unfold Go.Proofs.ltOf; simp [cmpE_self]
  trans x y z h1 h2 := by
    unfold Go.Proofs.ltOf at *
    rw [decide_eq_true_eq, cmpE_key] at *; omega
  ntrans x y z h1 h2 := by
    unfold Go.Proofs.ltOf at *
    rw [decide_eq_false_iff_not, cmpE_key] at *; omega

def leT (a b : Tm) : Prop := ¬ cmpE b.e a.e < 0
/-- One strictly ascending list among the orders of a list. -/
theorem sorted_one {d ys : List Tm} (hp : ys.Perm d) (hs : ys.Pairwise fun a b => cmpE a.e b.e < 0) (hd : d.Pairwise leT) : d = ys := by
  have h2 : ys.Pairwise leT := by
    refine hs.imp fun {a b} h => ?_
    unfold leT
    rw [cmpE_key] at *; omega
  have h1 : ∀ a b, a ∈ d → b ∈ ys → leT a b → leT b a → a = b := by
    intro a b ha hb h1 h2
    have ha' : a ∈ ys := hp.symm.subset ha
    obtain ⟨i, hi, rfl⟩ := List.getElem_of_mem ha'
    obtain ⟨j, hj, rfl⟩ := List.getElem_of_mem hb
    rcases Nat.lt_trichotomy i j with h | h | h
    · exact absurd (List.pairwise_iff_getElem.1 hs i j hi hj h) h2
    · subst h; rfl
    · exact absurd (List.pairwise_iff_getElem.1 hs j i hj hi h) h1
  exact List.Perm.eq_of_pairwise h1 hd h2 hp.symm

theorem flat_get {α : Type} [Inhabited α] (enc : α → List Value) {k : Nat} (hk : ∀ x, (enc x).length = k) : ∀ (xs : List α) (t : Nat), t < xs.length * k → (xs.flatMap enc)[t]? = some ((enc xs.toArray[t / k]!)[t % k]!)
  | [], t, h => by simp at h
  | x :: xs, t, h => by
    have k0 : 0 < k := Nat.pos_of_ne_zero fun e => by subst e; simp at h
    rw [List.flatMap_cons]
    by_cases ht : t < k
    · rw [List.getElem?_append_left (by rw [hk]; exact ht), Nat.div_eq_of_lt ht, Nat.mod_eq_of_lt ht]
      have : (x :: xs).toArray[0]! = x := rfl
      rw [this, List.getElem?_eq_getElem (by rw [hk]; exact ht), getElem!_pos (enc x) t (by rw [hk]; exact ht)]
    · obtain ⟨u, rfl⟩ : ∃ u, t = u + k := ⟨t - k, by omega⟩
      have hu : u < xs.length * k := by rw [List.length_cons, Nat.add_mul] at h; omega
      rw [List.getElem?_append_right (by rw [hk]; omega), hk, Nat.add_sub_cancel, flat_get enc hk xs u hu, Nat.add_div_right _ k0, Nat.add_mod_right]
      have hl : u / k < xs.length := (Nat.div_lt_iff_lt_mul k0).2 hu
      have : (x :: xs).toArray[(u / k).succ]! = xs.toArray[u / k]! := by
        rw [getElem!_pos _ _ (by simpa using hl), getElem!_pos _ _ (by simpa using hl)]
        simp
      rw [this]

theorem Tm.vs_len (t : Tm) : t.vs.length = 4 := rfl
theorem terms_EsV {w : World} {B M : Nat → Prop} : ∀ (ts : List Tm), EsV (Rd w B M) 4 (terms ts) (ts.flatMap Tm.vs)
  | [] => rfl
  | t :: ts => by
    simp only [terms, List.map_cons, List.flatMap_cons]
    refine ⟨t.vs, _, rfl, rfl, ?_, terms_EsV ts⟩
    simp [Tm.vs, DsV, Rd, Value.oneCell']
theorem terms_EsV_eq {w : World} {B M : Nat → Prop} : ∀ {ts : List Tm} {vs : List Value}, EsV (Rd w B M) 4 (terms ts) vs → vs = ts.flatMap Tm.vs
  | [], vs, h => h
  | t :: ts, vs, h => by
    obtain ⟨u, r, rfl, _, h1, h2⟩ := h
    rw [List.flatMap_cons, terms_EsV_eq h2]
    congr 1
    simp only [DsV, Rd] at h1
    obtain ⟨_, _, rfl, ⟨rfl, _⟩, _, _, rfl, ⟨rfl, _⟩, _, _, rfl, ⟨rfl, _⟩, _, _, rfl, ⟨rfl, _⟩, rfl⟩ := h1
    rfl
theorem terms_noOwn (ts : List Tm) : (terms ts).all (fun e => e.all noOwn) = true := by simp [terms]

theorem perm_of_permIn {d d' : Array Tm} (h : PermIn 0 d.size d d') : d'.toList.Perm d.toList := by
  obtain ⟨h1, _, h3⟩ := h
  have e1 : d'.extract 0 d.size = d' := by rw [← h1]; simp
  have e2 : d.extract 0 d.size = d := by simp
  rwa [e1, e2] at h3

theorem sortTerms_ok (xs ys : List Tm) (hl : xs.length < 4611686018427387904) (hp : ys.Perm xs) (hs : ys.Pairwise fun a b => cmpE a.e b.e < 0) :
    CallX Go.Proofs.Try.prog 120 [.one (oTerms xs), .one (.v (.func (.func 121) #[] #[]))] ⟨.tup [], [(0, oTerms ys)]⟩ := by
  refine ⟨⟨Go.Proofs.Try.f120, Go.Proofs.Try.func120, rfl, rfl⟩, fun w X vs us hA hnd => ?_⟩
  obtain ⟨v1, q1, x1, c1, rfl, rfl, h1, h2, v2, q2, x2, c2, rfl, rfl, h3, h4, rfl, rfl⟩ := hA
  simp only [RShape] at h1 h3
  subst h1; subst h3
  obtain ⟨_, _, he, hr1, _⟩ := h2
  simp only [List.cons.injEq] at he
  obtain ⟨rfl, rfl⟩ := he
  obtain ⟨_, _, he, hr2, _⟩ := h4
  simp only [List.cons.injEq] at he
  obtain ⟨rfl, rfl⟩ := he
  simp only [ArgX, Rd] at hr2
  obtain ⟨rfl, _⟩ := hr2
  obtain ⟨hr, _, hX⟩ := hr1
  have hlen : ys.length = xs.length := hp.length_eq
  simp only [Rd] at hr
  rcases hr with ⟨hn, rfl⟩ | ⟨b, cap, cur, rfl, hcap, _, hh, hmax, hsz, hes⟩
  · have hx : xs = [] := by simpa [terms] using hn
    subst hx
    have hy : ys = [] := List.length_eq_zero_iff.1 hlen
    subst hy
    have hc := Go.Proofs.AnyF.slices_SortFunc_none (P := Go.Proofs.Try.prog) (ρ := Go.Proofs.Try.sortT_ren) { Go.Proofs.Try.sortT with } none 0 (.func (.func 121) #[] #[]) w
    refine Calls.mono hc fun e w' hq => ?_
    obtain ⟨rfl, rfl⟩ := hq
    refine ⟨_, rfl, ⟨[nilV], [], ⟨[], rfl, rfl, rfl⟩, ?_, rfl, ?_, ?_, ?_⟩, Low.refl _ _⟩
    · rfl
    · exact ⟨nilV, [], rfl, by simp [Rd, terms], rfl⟩
    · simp [fpDs, fp, cellsR]
    · intro b hb; simp [fpDs, fp, cellsR] at hb
  · obtain ⟨vs, hv1, hv2⟩ := RdEs.vals hes
    have hvs := terms_EsV_eq hv1
    subst hvs
    have hlt := lt_of_heap hh
    have hcell : ∀ (j : Nat) (u : Value), (xs.flatMap Tm.vs)[j]? = some u → cur[j]? = some u := by
      intro j u hj
      have := hv2 j u hj
      simpa [World.cell?, hh] using this
    have hH : HoldsK Tm.vs 4 w b 0 xs.toArray := by
      intro j hj
      have hj' : j < xs.length * 4 := by simpa using hj
      have hg := flat_get Tm.vs Tm.vs_len xs j hj'
      refine ⟨?_, by simp [World.frozen?, hh]⟩
      rw [hv2 j _ hg, get_flatK _ _ _ _ (by simpa using hj')]
      rfl
    have eg : ∀ args w, (callFunc 121 args).run Go.Proofs.Try.prog w = .ok (.enter 121 args) w := Go.Proofs.enters_of Go.Proofs.Try.func121 (by kernel_rfl) rfl
    have hc := Go.Proofs.AnyQ.slices_SortFunc Go.Proofs.Try.sortT 4 (fun w => tyOk108.isAgg w) (fun w => tyOk108.sizeOf w) Tm.vs Tm.vs_len
      (fun x v hv => by simp [Tm.vs] at hv; rcases hv with rfl | rfl | rfl | rfl <;> rfl) (fun x y => cmpE x.e y.e) swoT 121 #[] b 0 cap xs.toArray w eg (cmp_lays b 0 _ w) hH hlt (by simpa using hl)
    have hll : (terms xs).length = xs.toArray.size := by simp [terms]
    rw [hll]
    refine Calls.mono hc fun e w' hq => ?_
    obtain ⟨rfl, d', n, os, hperm, hsort, rfl⟩ := hq
    have hd' : d'.toList = ys := by
      refine sorted_one (hp.trans (perm_of_permIn hperm).symm) hs ?_
      rw [List.pairwise_iff_getElem]
      intro i j hi hj hij
      have hn : d'.size = xs.toArray.size := hperm.1
      have hi' : i < d'.size := by simpa using hi
      have hj' : j < d'.size := by simpa using hj
      have := hsort i j (Nat.zero_le _) hij (by omega)
      unfold Go.Proofs.ltOf at this
      rw [getElem!_pos d' i hi', getElem!_pos d' j hj'] at this
      simpa [leT] using this
    subst hd'
    have hds : d'.size = xs.length := by simpa using hlen
    have hW : (Go.Proofs.sortWorldK Tm.vs 4 w b 0 n d' os).heap = (w.heap.modify b (onCells (putCells id 0 (flatK Tm.vs 4 d')))) ++ os := rfl
    have hnew : (Go.Proofs.sortWorldK Tm.vs 4 w b 0 n d' os).heap[b]? = some (.cells (putCells id 0 (flatK Tm.vs 4 d') cur) 108 (0, 0)) := by
      rw [hW, Array.getElem?_append_left (by simpa using hlt), Array.getElem?_modify]
      simp [hh, onCells]
    have hcells : ∀ (j : Nat) (u : Value), (d'.toList.flatMap Tm.vs)[j]? = some u → (Go.Proofs.sortWorldK Tm.vs 4 w b 0 n d' os).cell? ⟨b, 0 + j, none⟩ = some u := by
      intro j u hj
      have hjl : j < d'.toList.length * 4 := by
        have := (List.getElem?_eq_some_iff.1 hj).1
        rw [(terms_EsV (w := w) (B := fun _ => False) (M := fun _ => False) d'.toList).length] at this
        simpa [terms] using this
      have hjs : j < d'.size * 4 := by simpa using hjl
      have hcu : j < cur.size := by
        rw [hsz]
        have : xs.length ≤ cap := by simpa [terms] using hcap
        omega
      simp only [World.cell?, hnew, putCells]
      have hg := flat_get Tm.vs Tm.vs_len d'.toList j hjl
      rw [hj] at hg
      simp only [Option.some.injEq] at hg
      subst hg
      have hF := get_flatK Tm.vs 4 d' j hjs
      have hjF : j < (flatK Tm.vs 4 d').size := by simpa using hjs
      simp [hcu, hF]
      omega
    have hread : Rd (Go.Proofs.sortWorldK Tm.vs 4 w b 0 n d' os) (fun _ => False) (fun _ => False) (oTerms d'.toList) (.slice (some ⟨b, 0, none⟩) xs.toArray.size cap) := by
      simp only [Rd]
      refine .inr ⟨b, cap, _, ?_, ?_, not_false, hnew, hmax, ?_, RdEs.ofV (terms_EsV _) hcells⟩
      · simp [terms, hds]
      · simp [terms, hds]; simpa [terms] using hcap
      · simp [putCells, hsz]
    have hfp : fp (Go.Proofs.sortWorldK Tm.vs 4 w b 0 n d' os) (oTerms d'.toList) (.slice (some ⟨b, 0, none⟩) xs.toArray.size cap) = [b] := by
      rw [fp_own_some, fpEs_vals (terms d'.toList) _ 0 (terms_EsV (w := w) (B := fun _ => False) (M := fun _ => False) _) (fun j u hj => hcells j u hj), fpVs_noOwn _ (terms_noOwn _)]
    have hXb : X b := hX b (by rw [fp_own_some]; exact List.mem_cons_self ..)
    refine ⟨_, rfl, ⟨[.slice (some ⟨b, 0, none⟩) xs.toArray.size cap], [], ⟨[], rfl, rfl, rfl⟩, rfl, ?_, ⟨_, _, rfl, hread, rfl⟩, ?_, ?_⟩, ?_⟩
    · simp [terms, freshCs, D.fresh, cellsR]
    · show (fpDs _ [oTerms d'.toList] [_]).Nodup
      simp only [fpDs, List.headD_cons, hfp, List.append_nil]
      simp
    · intro y hy
      have hy : y ∈ fpDs _ [oTerms d'.toList] [_] := hy
      simp only [fpDs, List.headD_cons, hfp, List.append_nil, List.mem_singleton] at hy
      subst hy
      exact .inr hXb
    · refine ⟨rfl, rfl, rfl, ?_, ?_, Nat.le_add_right _ _⟩
      · rw [hW]; simp
      · intro y hy
        have hyb : y ≠ b := fun e => hy.2 (by rw [e]; exact hXb)
        have hylt : y < w.heap.size := hy.1
        rw [hW, Array.getElem?_append_left (by simpa using hylt), Array.getElem?_modify, if_neg (fun e => hyb e.symm)]

end Go.Sm
