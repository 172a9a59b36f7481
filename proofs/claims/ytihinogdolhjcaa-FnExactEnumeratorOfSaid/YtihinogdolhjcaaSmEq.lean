/- Arrays and structs of integers: compared cell by cell; and as keys of maps. -/
import Derived.Test.YtihinogdolhjcaaSmQ
namespace Go.Sm
open Go.RowKit

variable {P : Program}

def mkV : Bool → List Value → Value
  | true, xs => .agg xs.toArray
  | false, xs => xs.headD undef

structure EqI (P : Program) (h : Nat) (t : TypeId) (n : Nat) (agg : Bool) : Prop where
  eq : ∀ (d : Nat) (w : World) (xs ys : List Value) (b : Bool), xs.length = n → eqVs xs ys = some b → (Op.equalIn (d + h) t (mkV agg xs) (mkV agg ys)).run P w = .ok b w
  ck : ∀ (d : Nat) (em : Bool) (w : World) (kk : IntKind) (k : List Int), k.length = n → (Instr.checkKey em (d + h) t (mkV agg (k.map fun x => .int kk x))).run P w = .ok () w

theorem eqVs_length : ∀ {xs ys : List Value} {b : Bool}, eqVs xs ys = some b → xs.length = ys.length
  | [], [], _, _ => rfl
  | [], _ :: _, b, h => by simp [eqVs] at h
  | _ :: _, [], b, h => by simp [eqVs] at h
  | x :: xs, y :: ys, b, h => by
    unfold eqVs at h
    split at h
    · rename_i e _; cases e
    · rename_i k p xs' k' q ys' e1 e2
      obtain ⟨rfl, rfl⟩ := List.cons.inj e1
      obtain ⟨rfl, rfl⟩ := List.cons.inj e2
      split at h
      · rename_i b' hd hq; simp [eqVs_length hq]
      · cases h
    · cases h

theorem eqVs_split : ∀ (n : Nat) {xs ys : List Value} {b : Bool}, n ≤ xs.length → eqVs xs ys = some b → ∃ b1 b2, eqVs (xs.take n) (ys.take n) = some b1 ∧ eqVs (xs.drop n) (ys.drop n) = some b2 ∧ b = (b1 && b2)
  | 0, xs, ys, b, _, h => ⟨true, b, by simp [eqVs], by simpa using h, by simp⟩
  | n + 1, [], ys, b, hn, h => by simp at hn
  | n + 1, x :: xs, [], b, hn, h => by have := eqVs_length h; simp at this
  | n + 1, x :: xs, y :: ys, b, hn, h => by
    unfold eqVs at h
    split at h
    · rename_i e _; cases e
    · rename_i k p xs' k' q ys' e1 e2
      obtain ⟨rfl, rfl⟩ := List.cons.inj e1
      obtain ⟨rfl, rfl⟩ := List.cons.inj e2
      split at h
      · rename_i b' hd hq
        simp only [Option.some.injEq] at h; subst h
        obtain ⟨b1, b2, h1, h2, rfl⟩ := eqVs_split n (by simpa using hn) hq
        refine ⟨(p == q) && b1, b2, ?_, by simpa using h2, by cases (p == q) <;> rfl⟩
        simp only [List.take_succ_cons, eqVs, hd, h1]
      · cases h
    · cases h

theorem eqI_int {t : TypeId} {k : IntKind} (h : P.underlying t = some (.int k)) : EqI P 1 t 1 false := by
  refine ⟨fun d w xs ys b hl he => ?_, fun d em w kk k' hl => ?_⟩
  · match xs, hl with
    | [x], _ =>
      match ys, he with
      | [y], he =>
        unfold eqVs at he
        split at he
        · rename_i e _; cases e
        · rename_i k1 p xs' k2 q ys' e1 e2
          obtain ⟨rfl, rfl⟩ := List.cons.inj e1
          obtain ⟨rfl, rfl⟩ := List.cons.inj e2
          simp only [eqVs] at he
          split at he
          · rename_i b' hd hq
            simp only [Option.some.injEq] at hq he
            subst hq; subst he
            have : k1 = k2 := of_decide_eq_true hd
            subst this
            simp [mkV, Op.equalIn, run_underlying h]
          · cases he
        · cases he
      | [], he => simp [eqVs] at he
      | _ :: _ :: _, he => have := eqVs_length he; simp at this
  · match k', hl with
    | [x], _ => simp [mkV, Instr.checkKey, run_underlying h]

theorem run_part {t : TypeId} {ti : TI} (h : TyOk P t ti) {xs : List Value} {off : Nat} (hfit : off + ti.size ≤ xs.length) (h1 : ti.k.agg = false → ti.size = 1) (w : World) :
    (part t xs.toArray off).run P w = .ok (mkV ti.k.agg ((xs.drop off).take ti.size)) w := by
  unfold part
  simp only [Sem.run_bind, h.isAgg w, Result.andThen_ok]
  cases ha : ti.k.agg with
  | true =>
    simp only [if_true, Sem.run_bind, h.sizeOf w, Result.andThen_ok, Sem.run_pure, mkV]
    congr 1
    congr 1
    apply Array.ext'
    simp
  | false =>
    have hs := h1 ha
    rw [hs] at hfit ⊢
    have hlt : off < xs.length := by omega
    simp only [Bool.false_eq_true, if_false, List.getElem?_toArray, List.getElem?_eq_getElem hlt, Sem.run_pure, mkV]
    congr 1
    rw [List.drop_eq_getElem_cons hlt]
    rfl

theorem eqI_arr {t e len h : Nat} {te : TI} (hu : P.underlying t = some (.array len e)) (hte : TyOk P e te) (he : EqI P h e te.size te.k.agg) (h1 : te.k.agg = false → te.size = 1) : EqI P (h + 1) t (len * te.size) true := by
  refine ⟨fun d w xs ys b hl heq => ?_, fun d em w kk k hl => ?_⟩
  · show (Op.equalIn (d + h + 1) t (.agg xs.toArray) (.agg ys.toArray)).run P w = _
    have hl2 := eqVs_length heq
    simp only [Op.equalIn, Sem.run_bind, run_underlying hu, Result.andThen_ok, hte.sizeOf w]
    have key : ∀ (n i : Nat) (b : Bool), i + n = len → eqVs (xs.drop (i * te.size)) (ys.drop (i * te.size)) = some b →
        (forIn (m := Sem) (List.range' i n) ((none, ()) : Option Bool × Unit) (fun i _ => do
          let a ← part e xs.toArray (i * te.size)
          let b ← part e ys.toArray (i * te.size)
          let r ← Op.equalIn (d + h) e a b
          if (!r) = true then pure (ForInStep.done (some false, ())) else pure (ForInStep.yield (none, ())))).run P w = .ok (if b then (none, ()) else (some false, ())) w := by
      intro n
      induction n with
      | zero =>
        intro i b hi hb
        have : xs.drop (i * te.size) = [] := List.drop_eq_nil_of_le (by rw [hl]; exact Nat.mul_le_mul_right _ (by omega))
        have h2 : ys.drop (i * te.size) = [] := List.drop_eq_nil_of_le (by rw [← hl2, hl]; exact Nat.mul_le_mul_right _ (by omega))
        rw [this, h2] at hb
        simp only [eqVs, Option.some.injEq] at hb; subst hb
        simp
      | succ n ih =>
        intro i b hi hb
        have hfit : i * te.size + te.size ≤ xs.length := by
          rw [hl, show i * te.size + te.size = (i + 1) * te.size by rw [Nat.add_mul]; omega]
          exact Nat.mul_le_mul_right _ (by omega)
        obtain ⟨b1, b2, q1, q2, rfl⟩ := eqVs_split te.size (by rw [List.length_drop]; omega) hb
        have r1 := he.eq d w _ _ b1 (by rw [List.length_take, List.length_drop]; omega) q1
        rw [List.drop_drop, List.drop_drop, show i * te.size + te.size = (i + 1) * te.size by rw [Nat.add_mul]; omega] at q2
        rw [List.range'_succ]
        simp only [List.forIn_cons, Sem.run_bind, run_part hte hfit h1, run_part hte (by rw [← hl2]; exact hfit) h1, Result.andThen_ok, r1]
        cases b1 with
        | true =>
          simp only [Bool.not_true, Bool.false_eq_true, if_false, Sem.run_pure, Result.andThen_ok, Bool.true_and]
          exact ih (i + 1) b2 (by omega) q2
        | false => simp
    have hk := key len 0 b (by omega) (by simpa using heq)
    rw [Std.Legacy.Range.forIn_eq_forIn_range']
    simp only [Std.Legacy.Range.size, Nat.sub_zero, Nat.add_sub_cancel, Nat.div_one]
    rw [hk]
    cases b <;> simp
  · show (Instr.checkKey em (d + h + 1) t (.agg (k.map fun x => Value.int kk x).toArray)).run P w = _
    simp only [Instr.checkKey, Sem.run_bind, run_underlying hu, Result.andThen_ok]
    have key : ∀ (n i : Nat), i + n = len →
        (forIn (m := Sem) (List.range' i n) PUnit.unit (fun i _ => do
          let s ← Go.sizeOf e
          let a ← part e (k.map fun x => Value.int kk x).toArray (i * s)
          Instr.checkKey em (d + h) e a
          pure (ForInStep.yield PUnit.unit))).run P w = .ok PUnit.unit w := by
      intro n
      induction n with
      | zero => intro i _; simp
      | succ n ih =>
        intro i hi
        have hfit : i * te.size + te.size ≤ (k.map fun x => Value.int kk x).length := by
          rw [List.length_map, hl, show i * te.size + te.size = (i + 1) * te.size by rw [Nat.add_mul]; omega]
          exact Nat.mul_le_mul_right _ (by omega)
        have r1 := he.ck d em w kk ((k.drop (i * te.size)).take te.size) (by rw [List.length_take, List.length_drop]; rw [List.length_map] at hfit; omega)
        rw [List.map_take, List.map_drop] at r1
        rw [List.range'_succ]
        simp only [List.forIn_cons, Sem.run_bind, hte.sizeOf w, run_part hte hfit h1, Result.andThen_ok, r1, Sem.run_pure]
        exact ih (i + 1) (by omega)
    have hk := key len 0 (by omega)
    rw [Std.Legacy.Range.forIn_eq_forIn_range']
    simp only [Std.Legacy.Range.size, Nat.sub_zero, Nat.add_sub_cancel, Nat.div_one]
    rw [hk]
    simp

theorem EqI.up {h t n : Nat} {agg : Bool} (e : EqI P h t n agg) : EqI P (h + 1) t n agg :=
  ⟨fun d w xs ys b h1 h2 => by rw [show d + (h + 1) = d + 1 + h by omega]; exact e.eq _ w xs ys b h1 h2,
   fun d em w kk k h1 => by rw [show d + (h + 1) = d + 1 + h by omega]; exact e.ck _ em w kk k h1⟩

/-- Fields of a struct, by whether they have a name, their places and their types. -/
inductive FldOk (P : Program) (h : Nat) : List (Bool × Nat × Nat) → Nat → Nat → Prop
  | nil (off : Nat) : FldOk P h [] off off
  | cons {off t total : Nat} {r : List (Bool × Nat × Nat)} {te : TI} : TyOk P t te → EqI P h t te.size te.k.agg → (te.k.agg = false → te.size = 1) → FldOk P h r (off + te.size) total → FldOk P h ((true, off, t) :: r) off total

theorem FldOk.le {h : Nat} {l : List (Bool × Nat × Nat)} {off total : Nat} (H : FldOk P h l off total) : off ≤ total := by
  induction H with
  | nil => exact Nat.le_refl _
  | cons _ _ _ _ ih => omega

def fldOf (f : Field) : Bool × Nat × Nat := (f.name != "_", f.offset, f.type)

theorem eqI_struct {t n h : Nat} {l : List (Bool × Nat × Nat)} (hu : (P.underlying t).isSome = true ∧ P.underlying t = some (.struct (P.fieldsOf t))) (hs : P.stoodInHeld t = false) (hl : (P.fieldsOf t).toList.map fldOf = l) (H : FldOk P h l 0 n) : EqI P (h + 1) t n true := by
  refine ⟨fun d w xs ys b hn heq => ?_, fun d em w kk k hn => ?_⟩
  · show (Op.equalIn (d + h + 1) t (.agg xs.toArray) (.agg ys.toArray)).run P w = _
    rw [run_equalIn_struct w (d + h) t _ _ hu.2 hs]
    have hl2 := eqVs_length heq
    have key : ∀ (fs : List Field) (l : List (Bool × Nat × Nat)) (off total : Nat), fs.map fldOf = l → FldOk P h l off total → total = xs.length → ∀ b, eqVs (xs.drop off) (ys.drop off) = some b →
        (Op.eqFields (d + h) xs.toArray ys.toArray fs).run P w = .ok b w := by
      intro fs l off total hf H
      induction H generalizing fs with
      | nil off =>
        intro ht b hb
        have : fs = [] := by simpa using hf
        subst this
        rw [ht, List.drop_length, List.drop_eq_nil_of_le (by omega)] at hb
        simp only [eqVs, Option.some.injEq] at hb; subst hb
        simp [Op.eqFields]
      | cons h1 h2 h3 h4 ih =>
        rename_i off t' total r te
        intro ht b hb
        cases fs with
        | nil => simp at hf
        | cons f fs =>
          simp only [List.map_cons, List.cons.injEq, fldOf, Prod.mk.injEq] at hf
          obtain ⟨⟨hname, hoff, hty⟩, hrest⟩ := hf
          have hle := FldOk.le h4
          have hname' : f.name ≠ "_" := by simpa using hname
          obtain ⟨b1, b2, q1, q2, rfl⟩ := eqVs_split te.size (by rw [List.length_drop]; omega) hb
          have r1 := h2.eq d w _ _ b1 (by rw [List.length_take, List.length_drop]; omega) q1
          rw [List.drop_drop, List.drop_drop] at q2
          unfold Op.eqFields
          rw [if_pos hname']
          rw [hty, hoff]
          simp only [Sem.run_bind, run_part h1 (show off + te.size ≤ xs.length by omega) h3, run_part h1 (show off + te.size ≤ ys.length by omega) h3, Result.andThen_ok, r1]
          cases b1 with
          | true =>
            simp only [Bool.not_true, Bool.false_eq_true, if_false, Bool.true_and]
            exact ih fs hrest ht b2 q2
          | false => simp
    exact key _ _ 0 n hl H hn.symm b (by simpa using heq)
  · show (Instr.checkKey em (d + h + 1) t (.agg (k.map fun x => Value.int kk x).toArray)).run P w = _
    simp only [Instr.checkKey, Sem.run_bind, run_underlying hu.2, Result.andThen_ok]
    rw [← Array.forIn_toList]
    have key : ∀ (fs : List Field) (l : List (Bool × Nat × Nat)) (off total : Nat), fs.map fldOf = l → FldOk P h l off total → total = k.length →
        (forIn (m := Sem) fs PUnit.unit (fun f _ => if f.name ≠ "_" then do
            let a ← part f.type (k.map fun x => Value.int kk x).toArray f.offset
            Instr.checkKey em (d + h) f.type a
            pure (ForInStep.yield PUnit.unit)
          else pure (ForInStep.yield PUnit.unit))).run P w = .ok PUnit.unit w := by
      intro fs l off total hf H
      induction H generalizing fs with
      | nil off =>
        intro ht
        have : fs = [] := by simpa using hf
        subst this
        simp
      | cons h1 h2 h3 h4 ih =>
        rename_i off t' total r te
        intro ht
        cases fs with
        | nil => simp at hf
        | cons f fs =>
          simp only [List.map_cons, List.cons.injEq, fldOf, Prod.mk.injEq] at hf
          obtain ⟨⟨hname, hoff, hty⟩, hrest⟩ := hf
          have hle := FldOk.le h4
          have hname' : f.name ≠ "_" := by simpa using hname
          have r1 := h2.ck d em w kk ((k.drop off).take te.size) (by rw [List.length_take, List.length_drop]; omega)
          rw [List.map_take, List.map_drop] at r1
          simp only [List.forIn_cons, if_pos hname', hty, hoff, Sem.run_bind, run_part h1 (show off + te.size ≤ (k.map fun x => Value.int kk x).length by rw [List.length_map]; omega) h3, Result.andThen_ok, r1, Sem.run_pure]
          exact ih fs hrest ht
    have hk := key _ _ 0 n hl H hn.symm
    rw [hk]
    simp

theorem eqOk_of {t n h : Nat} (he : EqI P h t n true) (hg : P.eqGuardType P.depth t = false) (hh : h ≤ 10000) : EqOk P t n := by
  refine ⟨hg, fun w xs ys b h1 h2 => ?_, fun em w kk k h1 => ?_⟩
  · have := he.eq (10000 - h) w xs ys b h1 h2
    rw [Nat.sub_add_cancel hh] at this
    exact this
  · have := he.ck (10000 - h) em w kk k h1
    rw [Nat.sub_add_cancel hh] at this
    exact this

theorem eqTab_cons {t n : Nat} {E : List (Nat × Nat)} (h : EqOk P t n) (hE : ∀ t n, lk E t = some n → EqOk P t n) : ∀ t' n', lk ((t, n) :: E) t' = some n' → EqOk P t' n' := by
  intro t' n' h'
  rw [lk_cons] at h'
  split at h'
  · rename_i e; subst e
    simp only [Option.some.injEq] at h'; subst h'
    exact h
  · exact hE _ _ h'

end Go.Sm
