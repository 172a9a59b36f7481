/- Towards the rows of this seat: what the functions do, as contracts over plain data. -/
import Derived.Test.YtemedeiolhgoeaaPkQrCountOrbitsBK1
namespace Go.Sm
open Go.RowKit

variable {P : Program} {N : Nat} {w0 : Base} {s : St} {a : Act} {w : World} {β : Nat → Value}

def badB (ops : List Oper) (m : Nat) (rows : List (List Nat)) (i : Nat) : List Nat := ((List.range m).filter fun j => !(row rows i).elem j && !(row rows j).elem i).map fun j => (ops[j]?.map dstOf).getD 0
def drawOkB (ops : List Oper) (m : Nat) (rows bs : List (List Nat)) : Bool :=
  Nat.ble m ops.length && ((ops.take m).all fun o => o.dst.isSome) && nodupB ((ops.take m).map dstOf) &&
  ((List.range ops.length).all fun i => (aftI ops i).all fun j => Nat.blt j i) &&
  ((List.range ops.length).all fun j => Nat.blt j m || (List.range j).all fun i => (row rows j).elem i) &&
  ((List.range ops.length).all fun i => (row rows i).all fun j => (aftI ops i).elem j || (aftI ops i).any fun k => (row rows k).elem j) &&
  (bs == (List.range m).map (badB ops m rows))

/-- THE DRAWN ORDER: the quiet part in the order of the list, then the rest. -/
theorem J.drawB {F : Fn} {Q : Exit → Act → World → Prop} {id : Nat} {ops : Array Oper} {k : List It} (hmix : F.P.follows .mixedOrders = true) (m : Nat) (rows bs : List (List Nat)) (hok : drawOkB ops.toList m rows bs = true)
    (h : DrS F w0 Q ops k m bs 0 (ops.toList.take m) s) : J F.P F.N w0 Q (.code (.region id ops true) :: k) s := by
  simp only [drawOkB, Bool.and_eq_true, List.all_eq_true, List.mem_range, Bool.or_eq_true] at hok
  obtain ⟨⟨⟨⟨⟨⟨hm, hsome⟩, hnd⟩, hpre⟩, hrow⟩, hrows⟩, hbs⟩ := hok
  have hbs : bs = (List.range m).map (badB ops.toList m rows) := by simpa using hbs
  have hm : m ≤ ops.size := by simpa using Nat.le_of_ble_eq_true hm
  have hlen : (ops.toList.take m).length = m := by simp; omega
  obtain ⟨d, v, ns, st, g1, g2, g3⟩ := DrS.get h
  simp only [Nat.zero_add, hlen] at g2 g3
  have hop : ∀ i < m, ∃ o, ops[i]? = some o ∧ o.dst = some (d i) ∧ (ops.toList.take m)[i]? = some o := by
    intro i hi
    have hs : i < ops.size := by omega
    refine ⟨ops[i], by simp [hs], ?_, by simp [hi, hs]⟩
    exact (g2 i (Nat.zero_le _) hi).1 _ (by simp [hi, hs])
  have hd : ∀ i < m, ∀ j < m, d i = d j → i = j := by
    intro i hi j hj e
    have hnd' := nodupB_iff hnd
    obtain ⟨o, h1, h2, h3⟩ := hop i hi
    obtain ⟨o', h1', h2', h3'⟩ := hop j hj
    have hq : ((ops.toList.take m).map dstOf)[i]? = ((ops.toList.take m).map dstOf)[j]? := by
      rw [List.getElem?_map, List.getElem?_map, h3, h3']
      simp [dstOf, h2, h2', e]
    exact (List.getElem?_inj (by rw [List.length_map, hlen]; exact hi) hnd').1 hq
  have hn : ∀ i < m, nsOk (d i) (ns i) = true := fun i hi => (g2 i (Nat.zero_le _) hi).2.2.2.1
  have hst : ∀ j, j ≤ m → Kn m d v ns s (fun i => i < j) (st j) := by
    intro j
    induction j with
    | zero =>
      intro _
      rw [g1]
      exact ⟨fun i _ h => absurd h (Nat.not_lt_zero _), fun _ _ => rfl, fun i _ h => absurd h (Nat.not_lt_zero _), fun _ _ => rfl⟩
    | succ j ih =>
      intro hj
      rw [(g2 j (Nat.zero_le _) hj).2.2.2.2.2]
      exact (ih (Nat.le_of_succ_le hj)).step hd hn hj (Nat.lt_irrefl _) fun i _ => by omega
  have hinv : ∀ {x : Nat} {o : Oper}, ops[x]? = some o → ∀ y, y ∈ aftI ops.toList x ↔ ∃ e ∈ o.after, Region.binds .any e = true ∧ e.on = y := by
    intro x o ho y
    simp only [aftI, Array.getElem?_toList, ho, Option.map_some, Option.getD_some, aft, List.mem_map, List.mem_filter]
    constructor
    · rintro ⟨e, ⟨h1, h2⟩, h3⟩; exact ⟨e, by simpa using h1, h2, h3⟩
    · rintro ⟨e, h1, h2, h3⟩; exact ⟨e, ⟨by simpa using h1, h2⟩, h3⟩
  have haft : ∀ j o, ops[j]? = some o → ∀ e ∈ o.after, Region.binds .any e = true → e.on < j := by
    intro j o ho e he hb
    have hj : j < ops.size := (Array.getElem?_eq_some_iff.1 ho).1
    have := hpre j (by simpa using hj) e.on ((hinv ho _).2 ⟨e, he, hb, rfl⟩)
    simpa [Nat.blt_eq] using this
  have hAn : ∀ i, i < ops.size → ∀ j ∈ row rows i, An ops.toList j i := by
    intro i
    induction i using Nat.strongRecOn with
    | _ i ih =>
      intro hi j hj
      rcases hrows i (by simpa using hi) j hj with hd' | hex
      · exact .d (elem_iff.1 hd')
      · obtain ⟨k, hk, hjk⟩ := List.any_eq_true.1 hex
        have hki := hpre i (by simpa using hi) k hk
        have hki : k < i := by simpa [Nat.blt_eq] using hki
        exact .t (ih k hki (by omega) j (elem_iff.1 hjk)) hk
  have hrow' : ∀ j, m ≤ j → j < ops.size → ∀ i < j, An ops.toList i j := by
    intro j hmj hj i hi
    rcases hrow j (by simpa using hj) with hb | hall
    · have : j < m := by simpa [Nat.blt_eq] using hb
      omega
    · exact hAn j hj i (elem_iff.1 (hall i hi))
  intro a w β R
  simp only [cont]
  refine wp_region_any hmix ?_
  have R' : Rel F.N w0 s a { w with drawn := w.drawn + 1 } β := R.world ⟨⟨rfl, rfl, rfl, Nat.le_refl _, fun _ _ => rfl⟩, Nat.le_succ _⟩
  generalize ({ w with drawn := w.drawn + 1 } : World) = w at R'
  clear R
  have main : ∀ (fuel : Nat) (listed : Array Bool) (s' : St) (a : Act) (w : World) (β : Nat → Value), listed.size = ops.size → left ops.size listed ≤ fuel →
      (∀ j, m ≤ j → j < ops.size → listed.getD j true = false) → (∀ x, listed.getD x false = true → ∀ y ∈ aftI ops.toList x, listed.getD y false = true) → Kn m d v ns s (fun i => listed.getD i false = true) s' → Rel F.N w0 s' a w β → wpAny F.P .any ops (cont F.P F.N w0 Q k) fuel listed a w := by
    intro fuel
    induction fuel with
    | zero =>
      intro listed s' a w β hsz hle hun hcl K R
      have hall : ∀ i < ops.size, listed.getD i true = true := by
        intro i hi
        cases hb : listed.getD i true with
        | true => rfl
        | false => have := left_pos hi hb; omega
      have hmm : m = ops.size := by
        rcases Nat.lt_or_ge m ops.size with hlt | hge
        · have := hall m hlt; rw [hun m (Nat.le_refl _) hlt] at this; cases this
        · omega
      have hdone : ∀ i < m, listed.getD i false = true := by
        intro i hi
        have := hall i (by omega)
        rw [Array.getD_eq_getD_getElem?] at this ⊢
        have hs : i < listed.size := by omega
        simpa [hs] using this
      have R2 := R.ext (s' := st m) (fun t => K.tm_eq (hst m (Nat.le_refl _)) (fun i hi => ⟨fun _ => hi, fun _ => hdone i hi⟩) t) (fun t => K.ob_eq (hst m (Nat.le_refl _)) (fun i hi => ⟨fun _ => hi, fun _ => hdone i hi⟩) t)
      have := g3 a w β R2
      simp only [cont] at this
      exact wpAny_row hrow' haft 0 m 0 listed a w (by omega) (Nat.le_refl _) hsz hle hdone hun this
    | succ fuel ih =>
      intro listed s' a w β hsz hle hun hcl K R
      by_cases hdone : ∀ i < m, listed.getD i false = true
      · have R2 := R.ext (s' := st m) (fun t => K.tm_eq (hst m (Nat.le_refl _)) (fun i hi => ⟨fun _ => hi, fun _ => hdone i hi⟩) t) (fun t => K.ob_eq (hst m (Nat.le_refl _)) (fun i hi => ⟨fun _ => hi, fun _ => hdone i hi⟩) t)
        have := g3 a w β R2
        simp only [cont] at this
        exact wpAny_row hrow' haft (ops.size - m) m _ listed a w (by omega) (Nat.le_refl _) hsz hle hdone hun this
      · -- an operation of the quiet part is still to be done
        have hflip : ∀ i < ops.size, listed.getD i false = false → listed.getD i true = false := by
          intro i hi h
          rw [Array.getD_eq_getD_getElem?] at h ⊢
          have hs : i < listed.size := by omega
          simpa [hs] using h
        have hflip' : ∀ i < ops.size, listed.getD i true = false → listed.getD i false = false := by
          intro i hi h
          rw [Array.getD_eq_getD_getElem?] at h ⊢
          have hs : i < listed.size := by omega
          simpa [hs] using h
        have hex : ∃ i, i < m ∧ listed.getD i false = false := by
          refine Classical.byContradiction fun hc => hdone fun i hi => ?_
          cases hb : listed.getD i false with
          | true => rfl
          | false => exact absurd ⟨i, hi, hb⟩ hc
        have hleast : ∃ i, i < m ∧ listed.getD i false = false ∧ ∀ j < i, listed.getD j false = true := by
          obtain ⟨i, hi⟩ := hex
          induction i using Nat.strongRecOn with
          | _ i ihi =>
            by_cases hj : ∃ j, j < i ∧ listed.getD j false = false
            · obtain ⟨j, hj1, hj2⟩ := hj
              exact ihi j hj1 ⟨by omega, hj2⟩
            · refine ⟨i, hi.1, hi.2, fun j hj' => ?_⟩
              cases hb : listed.getD j false with
              | true => rfl
              | false => exact absurd ⟨j, hj', hb⟩ hj
        obtain ⟨i0, hi0, hu0, hb0⟩ := hleast
        refine ⟨fun hnil => ?_, fun i hi => ?_⟩
        · have : i0 ∈ Region.ready .any ops listed := by
            obtain ⟨o, ho, _⟩ := hop i0 hi0
            exact ready_iff.2 ⟨by omega, hflip i0 (by omega) hu0, o, ho, fun e he hb => hb0 _ (haft i0 o ho e he hb)⟩
          rw [hnil] at this; cases this
        · obtain ⟨r1, r2, o, ho, r3⟩ := ready_iff.1 hi
          have him : i < m := by
            refine Nat.lt_of_not_le fun hge => ?_
            have := (hrow' i hge r1 i0 (by omega)).listed (L := fun x => listed.getD x false = true) hcl (fun y hy => by
              obtain ⟨e, he, hb, rfl⟩ := (hinv ho y).1 hy
              exact r3 e he hb)
            rw [hu0] at this; cases this
          have g := g2 i (Nat.zero_le _) him
          obtain ⟨o', ho', hdo, htk⟩ := hop i him
          have : o' = o := by rw [ho] at ho'; exact (Option.some.inj ho').symm
          subst this
          have hbsi : bs[i - 0]? = some (badB ops.toList m rows i) := by
            rw [hbs, Nat.sub_zero, List.getElem?_map, List.getElem?_range him]; rfl
          have good := g.2.2.2.2.1 _ hbsi
          have Ki := hst i (Nat.le_of_lt him)
          have hbad : ∀ j < m, d j ∉ badB ops.toList m rows i → j ∈ row rows i ∨ i ∈ row rows j := by
            intro j hj hnb
            refine Classical.byContradiction fun hc => hnb ?_
            obtain ⟨oj, hoj, hdj, _⟩ := hop j hj
            simp only [badB, List.mem_map, List.mem_filter, List.mem_range, Bool.and_eq_true]
            refine ⟨j, ⟨hj, ?_, ?_⟩, ?_⟩
            · have : ¬ (row rows i).elem j = true := fun h => hc (.inl (elem_iff.1 h))
              simpa using this
            · have : ¬ (row rows j).elem i = true := fun h => hc (.inr (elem_iff.1 h))
              simpa using this
            · simp [hoj, dstOf, hdj]
          have hdir : ∀ y ∈ aftI ops.toList i, listed.getD y false = true := fun y hy => by
            obtain ⟨e, he, hb, rfl⟩ := (hinv ho y).1 hy
            exact r3 e he hb
          have hAnlt : ∀ {x y : Nat}, An ops.toList x y → y < ops.size → x < y := by
            intro x y h
            induction h with
            | @d i' h => intro hy; have := hpre i' (by simpa using hy) x h; simpa [Nat.blt_eq] using this
            | @t k i' _ h2 ih =>
              intro hy
              have := hpre i' (by simpa using hy) k h2
              have hk : k < i' := by simpa [Nat.blt_eq] using this
              have := ih (by omega)
              omega
          have haftD : ∀ j, j ∈ row rows i → j < i ∧ listed.getD j false = true := by
            intro j hj
            have hA := hAn i r1 j hj
            exact ⟨hAnlt hA r1, hA.listed (L := fun x => listed.getD x false = true) hcl hdir⟩
          have hul : ¬ listed.getD i false = true := by rw [hflip' i r1 r2]; simp
          have hlate : ∀ j, j < m → i ∈ row rows j → i < j ∧ ¬ listed.getD j false = true := by
            intro j hj h
            have hA := hAn j (by omega) i h
            exact ⟨hAnlt hA (by omega), fun hl => hul (hA.listed (L := fun x => listed.getD x false = true) hcl (hcl j hl))⟩
          refine good s' a w β _ R ?_ ?_ ?_ ?_
          · intro x f hx
            simp only [cut] at hx
            rw [lk_filter (fun y => !(badB ops.toList m rows i).elem y)] at hx
            split at hx
            · rename_i hnb
              have hnb : x ∉ badB ops.toList m rows i := fun h => by rw [elem_iff.2 h] at hnb; simp at hnb
              by_cases hxi : ∃ j, j < m ∧ d j = x
              · obtain ⟨j, hj, rfl⟩ := hxi
                rcases hbad j hj hnb with hb | hb
                · obtain ⟨hji, hjl⟩ := haftD j hb
                  rw [Ki.t1 j hj hji] at hx
                  rw [K.t1 j hj hjl]; exact hx
                · obtain ⟨hij, hnl⟩ := hlate j hj hb
                  rw [Ki.t2 _ fun j' hj' hlt e => by have := hd j' hj' j hj e; omega] at hx
                  rw [K.t2 _ fun j' hj' hl e => hnl (hd j' hj' j hj e ▸ hl)]; exact hx
              · have hno : ∀ j < m, d j ≠ x := fun j hj e => hxi ⟨j, hj, e⟩
                rw [Ki.t2 x fun j hj _ => hno j hj] at hx
                rw [K.t2 x fun j hj _ => hno j hj]; exact hx
            · cases hx
          · intro x f hx
            simp only [cut] at hx
            rw [lk_filter (fun y => !(badB ops.toList m rows i).elem (y / 64))] at hx
            split at hx
            · rename_i hnb
              have hnb : x / 64 ∉ badB ops.toList m rows i := fun h => by rw [elem_iff.2 h] at hnb; simp at hnb
              by_cases hxi : ∃ j, j < m ∧ x ∈ (ns j).map (·.1)
              · obtain ⟨j, hj, hk⟩ := hxi
                have hkd := nsOk_key (hn j hj) hk
                rw [hkd] at hnb
                have hsame : ∀ j', j' < m → x ∈ (ns j').map (·.1) → j' = j := fun j' hj' hk' => hd j' hj' j hj ((nsOk_key (hn j' hj') hk').symm.trans hkd)
                rcases hbad j hj hnb with hb | hb
                · obtain ⟨hji, hjl⟩ := haftD j hb
                  rw [Ki.o1 j hj hji x hk] at hx
                  rw [K.o1 j hj hjl x hk]; exact hx
                · obtain ⟨hij, hnl⟩ := hlate j hj hb
                  rw [Ki.o2 _ fun j' hj' hlt e => by have := hsame j' hj' e; omega] at hx
                  rw [K.o2 _ fun j' hj' hl e => hnl (hsame j' hj' e ▸ hl)]; exact hx
              · have hno : ∀ j < m, x ∉ (ns j).map (·.1) := fun j hj e => hxi ⟨j, hj, e⟩
                rw [Ki.o2 x fun j hj _ => hno j hj] at hx
                rw [K.o2 x fun j hj _ => hno j hj]; exact hx
            · cases hx
          · obtain ⟨f1, f2⟩ := freshOs_iff.1 g.2.2.1
            refine freshOs_iff.2 ⟨fun x hx => ?_, f2⟩
            have hxd := nsOk_key (hn i him) hx
            have hother : ∀ j < m, j ≠ i → x ∉ (ns j).map (·.1) := fun j hj hne hk => hne (hd j hj i him ((nsOk_key (hn j hj) hk).symm.trans hxd))
            rw [K.o2 x fun j hj hl => hother j hj fun e => hul (e ▸ hl), ← Ki.o2 x fun j hj hl => hother j hj (Nat.ne_of_lt hl)]
            exact f1 x hx
          · intro a' w' β' R'
            have hsi : i < listed.size := by omega
            refine ih _ _ a' w' β' (by simp [hsz]) (by have := left_set hsz r1 r2; omega) (fun j hj hjs => ?_) (fun x hx y hy => ?_) (K.step hd hn him hul fun j hj => ?_) R'
            · rw [getD_set hsi, if_neg (by omega)]; exact hun j hj hjs
            · rw [getD_set hsi] at hx ⊢
              split
              · rfl
              · by_cases e : i = x
                · subst e; exact hdir y hy
                · rw [if_neg e] at hx; exact hcl x hx y hy
            · rw [getD_set hsi]
              by_cases e : i = j
              · simp [e]
              · simp [e, Ne.symm e]
  have hf0 : ∀ i, (Array.replicate ops.size false).getD i false = false := by
    intro i
    rw [Array.getD_eq_getD_getElem?]
    by_cases hi : i < ops.size <;> simp [hi]
  refine main ops.size _ s a w β (by simp) ?_ (fun j _ hj => by simp [hj]) (fun x hx => by rw [hf0] at hx; cases hx) ?_ R'
  · unfold left
    refine Nat.le_trans List.countP_le_length (by simp)
  · have hf : ∀ i, (Array.replicate ops.size false).getD i false = false := by
      intro i
      rw [Array.getD_eq_getD_getElem?]
      by_cases hi : i < ops.size <;> simp [hi]
    exact ⟨fun i _ h => absurd ((hf i).symm.trans h) (by simp), fun _ _ => rfl, fun i _ h => absurd ((hf i).symm.trans h) (by simp), fun _ _ => rfl⟩

theorem J.drB {F : Fn} (hF : FnOk F) {Q : Exit → Act → World → Prop} {id : Nat} {ops : Array Oper} {k : List It} (hmix : F.P.follows .mixedOrders = true) (m : Nat) (rows bs : List (List Nat)) (hok : drawOkB ops.toList m rows bs = true)
    (h : Go.Sm.dr F w0 Q ops k m bs 0 (ops.toList.take m) s) : J F.P F.N w0 Q (.code (.region id ops true) :: k) s := by
  refine J.drawB hmix m rows bs hok (dr_sound hF (fun j o ho => ?_) h)
  rw [List.getElem?_take] at ho
  split at ho
  · simpa using ho
  · cases ho

end Go.Sm
