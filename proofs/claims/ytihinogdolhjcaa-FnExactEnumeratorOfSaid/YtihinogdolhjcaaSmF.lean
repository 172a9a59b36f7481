/- What makes objects: zero values, variables, literals of structs and slices, make. -/
import Derived.Test.YtihinogdolhjcaaSmE
namespace Go.Sm
open Go.RowKit

variable {P : Program} {N : Nat} {w0 : Base} {s : St} {a : Act} {w : World} {β : Nat → Value}

def freshOs (ob : List (Nat × Ob)) : List (Nat × Ob) → Bool
  | [] => true
  | (k, _) :: r => freshOs ob r && (lk (r ++ ob) k).isNone

def zCs : Nat → List Z → List C
  | _, [] => []
  | k, .v x :: r => .d (.v x) :: zCs (k + 1) r
  | k, .nilS _ _ :: r => .ob k :: zCs (k + 1) r
def zOs : Nat → List Z → List (Nat × Ob)
  | _, [] => []
  | k, .v _ :: r => zOs (k + 1) r
  | k, .nilS e z :: r => (k, .arr e z []) :: zOs (k + 1) r

theorem Rel.en_addNil (_ : Rel N w0 s a w β) {k e z : Nat} (hk : lk s.ob k = none) :
    Step (s.en w w0.arg β) (St.en ⟨s.tm, (k, .arr e z []) :: s.ob⟩ w w0.arg (upd β k nilV)) := by
  refine ⟨rfl, ⟨Nat.le_refl _, fun _ _ _ => rfl, ?_⟩, ?_⟩
  · rintro b ⟨j, o, ho, hl, hb⟩
    simp only [St.en, lk_cons] at ho hb
    split at ho
    · rename_i e; subst e; rw [upd_self] at hb; simp [blk] at hb
    · rename_i e; rw [upd_ne _ _ (Ne.symm e)] at hb; exact .inl ⟨j, o, ho, hl, hb⟩
  · intro j hj
    simp only [St.en, lk_cons] at hj ⊢
    have : j ≠ k := fun e => by subst e; simp [hk] at hj
    rw [if_neg (Ne.symm this), upd_ne _ _ this]
    exact ⟨hj, rfl⟩

theorem Step.trans {a b c : En} (h : Step a b) (g : Step b c) : Step a c := by
  refine ⟨g.B.trans h.B, ⟨Nat.le_trans h.K.size g.K.size, fun x hx hm => ?_, fun x hx => ?_⟩, fun k hk => ?_⟩
  · rw [g.K.heap x (Nat.lt_of_lt_of_le hx h.K.size) (h.K.not hx hm)]; exact h.K.heap x hx hm
  · rcases g.K.mem x hx with h1 | h1
    · exact h.K.mem x h1
    · exact .inr (Nat.le_trans h.K.size h1)
  · obtain ⟨h1, h2⟩ := h.β k hk
    obtain ⟨g1, g2⟩ := g.β k h1
    exact ⟨g1, g2.trans h2⟩

theorem Rel.addZeros (R : Rel N w0 s a w β) : ∀ (zs : List Z) (k : Nat), freshOs s.ob (zOs k zs) = true → zs.all (fun z => z.val.oneCell') = true →
    ∃ β', Rel N w0 ⟨s.tm, zOs k zs ++ s.ob⟩ a w β' ∧ CsRel (St.en ⟨s.tm, zOs k zs ++ s.ob⟩ w w0.arg β') (zCs k zs) (zs.map Z.val) ∧
      Step (s.en w w0.arg β) (St.en ⟨s.tm, zOs k zs ++ s.ob⟩ w w0.arg β')
  | [], k, _, _ => ⟨β, R, trivial, Step.refl _⟩
  | .v x :: r, k, hf, ho => by
    simp only [List.all_cons, Bool.and_eq_true, Z.val] at ho
    obtain ⟨β', h1, h2, h3⟩ := Rel.addZeros R r (k + 1) (by simpa only [zOs] using hf) ho.2
    exact ⟨β', by simpa only [zOs] using h1, ⟨⟨rfl, ho.1, by simp only [Rd, Z.val]; exact ⟨trivial, ho.1⟩⟩, by simpa only [zOs] using h2⟩, by simpa only [zOs] using h3⟩
  | .nilS e z :: r, k, hf, ho => by
    simp only [List.all_cons, Bool.and_eq_true] at ho
    simp only [zOs, freshOs, Bool.and_eq_true, Option.isNone_iff_eq_none] at hf
    obtain ⟨β', h1, h2, h3⟩ := Rel.addZeros R r (k + 1) hf.1 ho.2
    have S := Rel.en_addNil (e := e) (z := z) h1 (k := k) hf.2
    refine ⟨upd β' k nilV, Rel.addNil h1 hf.2, ⟨⟨?_, ?_, rfl⟩, h2.step S⟩, h3.trans S⟩
    · simp [St.en, zOs, lk_cons_self]
    · simp [St.en, Z.val, upd_self]

theorem zCs_length : ∀ (zs : List Z) (k : Nat), (zCs k zs).length = zs.length
  | [], _ => rfl
  | .v _ :: r, k => by simp [zCs, zCs_length r]
  | .nilS _ _ :: r, k => by simp [zCs, zCs_length r]

theorem Rel.allocVar (R : Rel N w0 s a w β) {k : Nat} {cs : List C} {v : Value} {T : TypeId} (hk : lk s.ob k = none) (hc : CsRel (s.en w w0.arg β) cs v.cells.toList) :
    ∃ β', (do pure (.pointer (some (← newVar T v))) : Sem Value).run P w = .ok (.pointer (some ⟨w.heap.size, 0, none⟩)) (w.alloc (.cells v.cells T)) ∧
      Rel N w0 ⟨s.tm, (k, .var cs) :: s.ob⟩ a (w.alloc (.cells v.cells T)) β' ∧
      CRel (St.en ⟨s.tm, (k, .var cs) :: s.ob⟩ (w.alloc (.cells v.cells T)) w0.arg β') (.ref k 0) (.pointer (some ⟨w.heap.size, 0, none⟩)) := by
  refine ⟨_, ?_, Rel.addVar (T := T) R hk hc, ?_⟩
  · simp [newVar, newRow]
  · exact ⟨by simp [St.en, lk_cons_self], w.heap.size, by simp [St.en, upd_self], rfl⟩

/-! ### filling cells -/

def fillC (pl : Nat → Option (Nat × Nat)) : List C → List (Nat × List C) → Option (List C)
  | cs, [] => some cs
  | cs, (i, v) :: rest => match pl i with
    | none => none
    | some (off, size) => match Nat.beq v.length size && Nat.ble (off + size) cs.length with
      | true => fillC pl (cs.take off ++ v ++ cs.drop (off + size)) rest
      | false => none

theorem set_range : ∀ (vs : List Value) (off n : Nat) (cells : Array Value), off + n + vs.length ≤ cells.size →
    ((vs.zipIdx n).foldl (fun (cs : Array Value) (x : Value × Nat) => cs.setIfInBounds (off + x.2) x.1) cells).toList =
      cells.toList.take (off + n) ++ vs ++ cells.toList.drop (off + n + vs.length)
  | [], off, n, cells, _ => by simp
  | v :: vs, off, n, cells, h => by
    simp only [List.length_cons] at h
    simp only [List.zipIdx_cons, List.foldl_cons]
    rw [show off + n = off + n from rfl, set_range vs off (n + 1) _ (by simp; omega)]
    simp only [Array.toList_setIfInBounds, List.length_cons]
    rw [show off + (n + 1) = (off + n) + 1 by omega]
    have hlt : off + n < cells.toList.length := by simp; omega
    rw [List.take_succ_eq_append_getElem (by simpa using hlt)]
    simp only [List.getElem_set_self, List.take_set_of_le (Nat.le_refl _)]
    rw [List.drop_set_of_lt (by omega)]
    simp only [List.append_assoc, List.cons_append, List.nil_append]
    rw [show off + n + 1 + vs.length = off + n + (vs.length + 1) by omega]

/-- Parts in the symbolic state and their values. -/
def PartsRel (en : En) : List (Nat × List C) → List (Nat × Value) → Prop
  | [], [] => True
  | (i, cs) :: r, (j, v) :: q => i = j ∧ CsRel en cs v.cells.toList ∧ PartsRel en r q
  | _, _ => False

theorem fillC_sound {en : En} {pl : Nat → Option (Nat × Nat)} : ∀ {ps : List (Nat × List C)} {qs : List (Nat × Value)} {cs ds : List C} {cells : Array Value},
    PartsRel en ps qs → CsRel en cs cells.toList → fillC pl cs ps = some ds → ∃ out, Instr.fill pl cells qs = some out ∧ CsRel en ds out.toList
  | [], [], cs, ds, cells, _, hc, h => by simp [fillC] at h; subst h; exact ⟨cells, rfl, hc⟩
  | [], _ :: _, _, _, _, hp, _, _ => by simp [PartsRel] at hp
  | _ :: _, [], _, _, _, hp, _, _ => by simp [PartsRel] at hp
  | (i, v) :: ps, (j, u) :: qs, cs, ds, cells, hp, hc, h => by
    obtain ⟨rfl, hv, hp⟩ := hp
    simp only [fillC] at h
    cases hpl : pl i with
    | none => simp [hpl] at h
    | some os =>
      obtain ⟨off, size⟩ := os
      simp only [hpl] at h
      split at h
      · rename_i hb
        simp only [Bool.and_eq_true] at hb
        have h1 := nat_beq hb.1
        have h2 := Nat.le_of_ble_eq_true hb.2
        have l1 := hv.length
        have l2 := hc.length
        simp only [Array.length_toList] at l1 l2
        have hset := set_range u.cells.toList off 0 cells (by simp; omega)
        simp only [Nat.add_zero, Array.length_toList] at hset
        have hc' : CsRel en (cs.take off ++ v ++ cs.drop (off + size))
            (u.cells.zipIdx.foldl (fun (cs : Array Value) (x : Value × Nat) => cs.setIfInBounds (off + x.2) x.1) cells).toList := by
          rw [← Array.foldl_toList, Array.toList_zipIdx, hset, show size = u.cells.size by omega]
          exact ((hc.take off).append hv).append (hc.drop _)
        obtain ⟨out, ho, hr⟩ := fillC_sound hp hc' h
        refine ⟨out, ?_, hr⟩
        simp only [Instr.fill, hpl]
        rw [if_neg (by simp; omega)]
        exact ho
      · cases h

theorem mapM_fields {f : List Field} {fs : List (Nat × Option Nat)} (w : World) (h : f.map (fun f => (f.offset, (P.info? f.type).map (·.size))) = fs) (hs : fs.all (fun x => x.2.isSome) = true) :
    ((f.mapM fun f => do pure (f.offset, ← Go.sizeOf f.type) : Sem (List (Nat × Nat)))).run P w = .ok (fs.map fun x => (x.1, x.2.getD 0)) w := by
  subst h
  induction f with
  | nil => simp
  | cons x f ih =>
    simp only [List.map_cons, List.all_cons, Bool.and_eq_true] at hs
    cases hi : P.info? x.type with
    | none => simp [hi] at hs
    | some i =>
      simp [List.mapM_cons, Go.sizeOf, typeInfo, hi]
      have := ih hs.2
      simp [Go.sizeOf, typeInfo] at this
      simp [this]

def places (T : Tab) : TK → Option (Nat → Option (Nat × Nat))
  | .st fs => match fs.all (fun x => x.2.isSome) with
    | true => some fun i => (fs[i]?).map fun x => (x.1, x.2.getD 0)
    | false => none
  | .ar _ e => match lk T e with
    | some te => some fun i => some (i * te.size, te.size)
    | none => none
  | _ => none

def evBuild (T : Tab) (k t : Nat) (ps : List (Nat × List C)) : Option (List C × List (Nat × Ob)) :=
  match lk T t with
  | some ti => match places T ti.k with
    | some pl => match fillC pl (zCs k ti.zero) ps with
      | some cs => some (cs, zOs k ti.zero)
      | none => none
    | none => none
  | none => none

theorem evBuild_sound {T : Tab} (hT : TabOk P T) (R : Rel N w0 s a w β) {k t : Nat} {ps : List (Nat × List C)} {qs : List (Nat × Value)} {cs : List C} {os : List (Nat × Ob)}
    (h : evBuild T k t ps = some (cs, os)) (hp : PartsRel (s.en w w0.arg β) ps qs) (hf : freshOs s.ob os = true) :
    ∃ val β', (Instr.build t qs.toArray).run P w = .ok val w ∧ Rel N w0 ⟨s.tm, os ++ s.ob⟩ a w β' ∧ FVRel (St.en ⟨s.tm, os ++ s.ob⟩ w w0.arg β') (.g cs) val := by
  unfold evBuild at h
  split at h
  · rename_i ti hti
    have hty := hT t ti hti
    split at h
    · rename_i pl hpl
      split at h
      · rename_i cs' hfill
        simp only [Option.some.injEq, Prod.mk.injEq] at h
        obtain ⟨rfl, rfl⟩ := h
        obtain ⟨β', h1, h2, h3⟩ := R.addZeros ti.zero k hf hty.ones
        obtain ⟨z, hz, hzc⟩ := hty.zeroValue w
        have hp' : PartsRel (St.en ⟨s.tm, zOs k ti.zero ++ s.ob⟩ w w0.arg β') ps qs := by
          clear hfill hf
          induction ps generalizing qs with
          | nil => cases qs <;> simp_all [PartsRel]
          | cons x ps ih =>
            cases qs with
            | nil => obtain ⟨i, c⟩ := x; simp [PartsRel] at hp
            | cons y qs =>
              obtain ⟨i, c⟩ := x
              obtain ⟨j, v⟩ := y
              exact ⟨hp.1, hp.2.1.step h3, ih hp.2.2⟩
        rw [← hzc] at h2
        obtain ⟨out, ho, hr⟩ := fillC_sound hp' h2 hfill
        refine ⟨.agg out, β', ?_, h1, ?_⟩
        · unfold places at hpl
          split at hpl
          · rename_i fs hk
            split at hpl
            · rename_i hall
              simp only [Option.some.injEq] at hpl; subst hpl
              obtain ⟨fa, hu, hfs⟩ := hty.st hk
              have hm := mapM_fields (P := P) w hfs hall
              have hm' : (fa.mapM fun f => do pure (f.offset, ← Go.sizeOf f.type) : Sem (Array (Nat × Nat))).run P w = .ok (fs.map fun x => (x.1, x.2.getD 0)).toArray w := by
                rw [← Array.toArray_toList (xs := fa)] 
                rw [List.mapM_toArray]
                simp only [Sem.run_map, hm, Result.andThen_ok]
              simp only [Instr.build, Sem.run_bind, hz, Result.andThen_ok, run_underlying hu, hm']
              have hpleq : (fun i : Nat => ((fs.map fun (x : Nat × Option Nat) => (x.1, x.2.getD 0)).toArray)[i]?) = fun i => (fs[i]?).map fun (x : Nat × Option Nat) => (x.1, x.2.getD 0) := by
                funext i; simp
              rw [hpleq]
              simp [ho]
            · cases hpl
          · rename_i len e hk
            split at hpl
            · rename_i te hte
              simp only [Option.some.injEq] at hpl; subst hpl
              have hu := hty.ar hk
              simp only [Instr.build, Sem.run_bind, hz, Result.andThen_ok, run_underlying hu, (hT e te hte).sizeOf]
              simp [ho]
            · cases hpl
          · cases hpl
        · simp only [FVRel]; exact ⟨out.toList, by simp, hr⟩
      · cases h
    · cases h
  · cases h

end Go.Sm
