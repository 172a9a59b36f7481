/- Literals of slices, make and stores, carried over the symbolic state. -/
import Derived.Test.YtihinogdolhjcaaSmH
namespace Go.Sm
open Go.RowKit

variable {P : Program} {N : Nat} {w0 : Base} {s : St} {a : Act} {w : World} {β : Nat → Value}

/-! ### literals of slices -/

def dataC : List C → Option (List D)
  | [] => some []
  | .d x :: r => match dataC r with
    | some e => some (x :: e)
    | none => none
  | _ => none

/-- The elements of a literal whose parts stand in order, each of the element's size. -/
def elemsOf (z : Nat) : Nat → List (Nat × List C) → Option (List (List D))
  | _, [] => some []
  | i, (j, cs) :: r => match Nat.beq i j && Nat.beq cs.length z, dataC cs, elemsOf z (i + 1) r with
    | true, some e, some es => some (e :: es)
    | _, _, _ => none

theorem dataC_rel {en : En} : ∀ {cs : List C} {vs : List Value} {ds : List D}, CsRel en cs vs → dataC cs = some ds → DsV (Rd en.w en.B en.M) ds vs ∧ ds.all noOwn = true ∧ ds.length = cs.length
  | [], [], ds, _, h => by simp [dataC] at h; subst h; exact ⟨rfl, rfl, rfl⟩
  | [], _ :: _, _, h, _ => h.elim
  | _ :: _, [], _, h, _ => h.elim
  | c :: cs, v :: vs, ds, hr, h => by
    cases c <;> simp only [dataC, reduceCtorEq] at h
    rename_i x
    split at h
    · rename_i e he
      simp only [Option.some.injEq] at h; subst h
      obtain ⟨h1, h2, h3⟩ := dataC_rel hr.2 he
      obtain ⟨q1, q2, q3⟩ := hr.1
      exact ⟨⟨v, vs, rfl, q3, h1⟩, by rw [List.all_cons, h2]; simp [noOwn, q1], by simp [h3]⟩
    · cases h

theorem elemsOf_rel {en : En} {z : Nat} : ∀ {ps : List (Nat × List C)} {qs : List (Nat × Value)} {i : Nat} {es : List (List D)}, PartsRel en ps qs → elemsOf z i ps = some es →
    EsV (Rd en.w en.B en.M) z es (qs.flatMap fun q => q.2.cells.toList) ∧ es.all (fun e => e.all noOwn) = true ∧ es.length = qs.length ∧
      (∀ (j : Nat) (q : Nat × Value), qs[j]? = some q → q.1 = i + j ∧ q.2.cells.size = z) ∧ ∀ q ∈ qs, ∀ u ∈ q.2.cells.toList, u.oneCell' = true
  | [], [], i, es, _, h => by simp [elemsOf] at h; subst h; exact ⟨rfl, rfl, rfl, fun j q h => by simp at h, fun q h => by cases h⟩
  | [], _ :: _, _, _, hp, _ => by simp [PartsRel] at hp
  | _ :: _, [], _, _, hp, _ => by simp [PartsRel] at hp
  | (j, cs) :: ps, (j', v) :: qs, i, es, hp, h => by
    obtain ⟨rfl, hv, hp⟩ := hp
    simp only [elemsOf] at h
    split at h
    · rename_i e es' hb hd he
      simp only [Option.some.injEq] at h; subst h
      simp only [Bool.and_eq_true] at hb
      obtain rfl := nat_beq hb.1
      have hz := nat_beq hb.2
      obtain ⟨h1, h2, h3⟩ := dataC_rel hv hd
      obtain ⟨g1, g2, g3, g4, g5⟩ := elemsOf_rel hp he
      have hl := hv.length
      simp only [Array.length_toList] at hl
      refine ⟨⟨v.cells.toList, _, by simp, by omega, h1, g1⟩, by rw [List.all_cons, h2, g2]; rfl, by simp [g3], ?_, ?_⟩
      · intro k q hq
        cases k with
        | zero => simp at hq; subst hq; exact ⟨rfl, by show v.cells.size = z; omega⟩
        | succ k =>
          obtain ⟨a1, a2⟩ := g4 k q (by simpa using hq)
          exact ⟨by omega, a2⟩
      · intro q hq u hu
        rcases List.mem_cons.1 hq with rfl | hq
        · exact hv.ones u hu
        · exact g5 q hq u hu
    · cases h

theorem fill_all {z : Nat} : ∀ (qs : List (Nat × Value)) (i : Nat) (cells : Array Value), (∀ (j : Nat) (q : Nat × Value), qs[j]? = some q → q.1 = i + j ∧ q.2.cells.size = z) → cells.size = (i + qs.length) * z →
    ∃ out, Instr.fill (fun i => some (i * z, z)) cells qs = some out ∧ out.toList = cells.toList.take (i * z) ++ qs.flatMap (fun q => q.2.cells.toList)
  | [], i, cells, _, hs => ⟨cells, rfl, by simp at hs ⊢; rw [List.take_of_length_le (by simp; omega)]⟩
  | (j, v) :: qs, i, cells, h, hs => by
    have hj : j = i := (h 0 (j, v) rfl).1
    have hv : v.cells.size = z := (h 0 (j, v) rfl).2
    have hle : i * z + z ≤ cells.size := by rw [hs, Nat.add_mul]; simp only [List.length_cons, Nat.add_mul]; omega
    have hset := set_range v.cells.toList (i * z) 0 cells (by simp only [Nat.add_zero, Array.length_toList]; omega)
    simp only [Nat.add_zero, Array.length_toList] at hset
    have hsz : (v.cells.zipIdx.foldl (fun (cs : Array Value) (x : Value × Nat) => cs.setIfInBounds (i * z + x.2) x.1) cells).size = cells.size := by
      have := congrArg List.length hset
      rw [← Array.foldl_toList, Array.toList_zipIdx]
      simp only [Array.length_toList, List.length_append, List.length_take, List.length_drop] at this
      omega
    obtain ⟨out, ho, hr⟩ := fill_all qs (i + 1) (v.cells.zipIdx.foldl (fun (cs : Array Value) (x : Value × Nat) => cs.setIfInBounds (i * z + x.2) x.1) cells)
      (fun k q hq => by obtain ⟨a1, a2⟩ := h (k + 1) q (by simpa using hq); exact ⟨by omega, a2⟩) (by rw [hsz, hs]; simp; congr 1; omega)
    refine ⟨out, ?_, ?_⟩
    · simp only [Instr.fill]
      subst hj
      rw [if_neg (by simp; omega)]
      exact ho
    · rw [hr, ← Array.foldl_toList, Array.toList_zipIdx, hset, hv]
      simp only [List.flatMap_cons]
      rw [show (i + 1) * z = i * z + z by rw [Nat.add_mul]; omega]
      have hl1 : (cells.toList.take (i * z)).length = i * z := by simp; omega
      rw [List.append_assoc, List.take_append, hl1, List.take_of_length_le (by omega), show i * z + z - i * z = z by omega, List.take_append, List.take_of_length_le (l := v.cells.toList) (by simp; omega)]
      simp [hv]

theorem Rel.freshArr (R : Rel N w0 s a w β) {k e z : Nat} {xs : List (List D)} {vs : List Value} {cur : Array Value} {cap : Nat} (hk : lk s.ob k = none)
    (hv : EsV (Rd w w0.arg (s.en w w0.arg β).M) z xs vs) (hno : fpVs w z xs vs = [])
    (h1 : xs.length ≤ cap) (h2 : cap ≤ maxLen) (h3 : cur.size = cap * z) (hc : cur.toList.take (xs.length * z) = vs) :
    Rel N w0 ⟨s.tm, (k, .arr e z xs) :: s.ob⟩ a (w.alloc (.cells cur e)) (upd β k (.slice (some ⟨w.heap.size, 0, none⟩) xs.length cap)) := by
  have hcell : ∀ (j : Nat) (u : Value), vs[j]? = some u → (w.alloc (.cells cur e)).cell? ⟨w.heap.size, 0 + j, none⟩ = some u := by
    intro j u hj
    rw [Nat.zero_add, World.cell?_alloc_new]
    rw [← hc, List.getElem?_take] at hj
    split at hj
    · simpa using hj
    · cases hj
  refine R.addArr hk h1 h2 h3 ?_ ?_
  · have K : Keeps w (w.alloc (.cells cur e)) (s.en w w0.arg β).M (s.en w w0.arg β).M := ⟨by simp, fun b hb _ => heap_alloc_old w _ b hb, fun _ h => .inl h⟩
    rw [fpEs_vals xs vs 0 hv hcell, fpVs_keep K hv]; exact hno
  · intro M' hM'
    refine RdEs.ofV (hv.mono fun x v h => Rd.keep ⟨?_, ?_, hM'⟩ x v h) hcell
    · simp
    · intro b hb _; exact heap_alloc_old w _ b hb

def evBS (T : Tab) (t len : Nat) (ps : List (Nat × List C)) : Option Ob :=
  match lk T t with
  | some ti => match ti.k with
    | .sl e => match lk T e with
      | some te => match elemsOf te.size 0 ps, Nat.beq ps.length len && (Nat.ble (len * te.size) 16777216 && Nat.ble len 16777216) with
        | some es, true => some (.arr e te.size es)
        | _, _ => none
      | none => none
    | _ => none
  | none => none

theorem PartsRel.length {en : En} : ∀ {ps : List (Nat × List C)} {qs : List (Nat × Value)}, PartsRel en ps qs → ps.length = qs.length
  | [], [], _ => rfl
  | [], _ :: _, h => by simp [PartsRel] at h
  | _ :: _, [], h => by simp [PartsRel] at h
  | (_, _) :: ps, (_, _) :: qs, h => by simp [PartsRel.length h.2.2]

theorem evBS_sound {T : Tab} (hT : TabOk P T) (R : Rel N w0 s a w β) {k t len : Nat} {ps : List (Nat × List C)} {qs : List (Nat × Value)} {o : Ob}
    (h : evBS T t len ps = some o) (hp : PartsRel (s.en w w0.arg β) ps qs) (hk : lk s.ob k = none) :
    ∃ val w' β', (Instr.buildSlice t len qs.toArray).run P w = .ok val w' ∧ Rel N w0 ⟨s.tm, (k, o) :: s.ob⟩ a w' β' ∧ CRel (St.en ⟨s.tm, (k, o) :: s.ob⟩ w' w0.arg β') (.ob k) val := by
  unfold evBS at h
  split at h
  · rename_i ti hti
    split at h
    · rename_i e hkk
      have hu := (hT t ti hti).sl hkk
      split at h
      · rename_i te hte
        have hty := hT e te hte
        split at h
        · rename_i es hes hb
          simp only [Option.some.injEq] at h; subst h
          simp only [Bool.and_eq_true] at hb
          have hlen := nat_beq hb.1
          have hlim := Nat.le_of_ble_eq_true hb.2.1
          have hlim2 := Nat.le_of_ble_eq_true hb.2.2
          obtain ⟨h1, h2, h3, h4, h5⟩ := elemsOf_rel hp hes
          have hpl := hp.length
          obtain ⟨z, hz, hzc⟩ := hty.zeroValue w
          have hzs : z.cells.size = te.size := by have := congrArg List.length hzc; simpa [hty.zlen] using this
          have hinit : ∀ cells : Array Value, cells.size = len * te.size → ∃ out, Instr.fill (fun i => some (i * te.size, te.size)) cells qs = some out ∧ out.toList = qs.flatMap (fun q => q.2.cells.toList) := by
            intro cells hc
            obtain ⟨out, ho, hr⟩ := fill_all qs 0 cells (fun j q hq => h4 j q hq) (by rw [hc]; congr 1; omega)
            exact ⟨out, ho, by simpa using hr⟩
          have hEl := h1.length
          have hbig : len ≤ maxLen := by simp only [maxLen]; omega
          · obtain ⟨out, ho, hr⟩ := hinit (if len * te.size = 0 then #[] else (Array.range (len * te.size)).map (z.cells[· % z.cells.size]!)) (by split <;> simp_all)
            have hos : out.size = len * te.size := by
              have := congrArg List.length hr
              simp only [Array.length_toList] at this
              rw [this, hEl, h3]; congr 1; omega
            refine ⟨.slice (some ⟨w.heap.size, 0, none⟩) len len, w.alloc (.cells out e), upd β k (.slice (some ⟨w.heap.size, 0, none⟩) es.length len), ?_, ?_, ?_⟩
            · have hno : ¬ (len * te.size > 2 ^ 24) := by have : (2:Nat) ^ 24 = 16777216 := by decide
                                                          omega
              by_cases h0 : len * te.size = 0
              · rw [if_pos h0] at ho
                simp [Instr.buildSlice, run_underlying hu, hty.sizeOf, h0, ho, newRow, Array.range_zero']
              · rw [if_neg h0] at ho
                simp [Instr.buildSlice, run_underlying hu, hty.sizeOf, hno, h0, hz, ho, newRow]
            · exact R.freshArr hk h1 (fpVs_noOwn _ h2) (by omega) hbig hos (by rw [hr]; exact List.take_of_length_le (by rw [hEl]; exact Nat.le_refl _))
            · have hel : es.length = len := by omega
              rw [hel]
              exact ⟨by simp [St.en, lk_cons_self], by simp [St.en, upd_self], rfl⟩
        · cases h
      · cases h
    · cases h
  · cases h

end Go.Sm
