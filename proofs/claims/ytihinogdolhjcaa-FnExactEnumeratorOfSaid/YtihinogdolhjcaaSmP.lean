/- From the conditions to the code: one step at a time. -/
import Derived.Test.YtihinogdolhjcaaSmO
namespace Go.Sm
open Go.RowKit

variable {P : Program} {N : Nat} {w0 : Base} {s : St} {a : Act} {w : World} {β : Nat → Value}

theorem evApp_notq {T : Tab} {ob : Nat → Option Ob} {k : Nat} {t t' : TypeId} {x y : FV} : ∃ p v os, evApp T ob k t t' x y = .ef p v os ∨ evApp T ob k t t' x y = .fail := by
  unfold evApp
  repeat' split
  all_goals first
    | exact ⟨_, _, _, .inl rfl⟩
    | exact ⟨True, .und, [], .inr rfl⟩

theorem evApp_v {T : Tab} {ob : Nat → Option Ob} {k : Nat} {t t' : TypeId} {x y v : FV} {p : Prop} {os : List (Nat × Ob)} (h : evApp T ob k t t' x y = .ef p v os) : v = .c (.ob k) := by
  unfold evApp at h
  repeat' split at h
  all_goals first
    | (simp only [Ev.ef.injEq] at h; exact h.2.1.symm)
    | cases h

/-- An element's address in a view. -/
theorem ev_el {T : Tab} {E : List (Nat × Nat)} (hT : TabOk P T) (R : Rel N w0 s a w β) {o : Oper} {k : Nat} {xs : List (List D)} {i : Int}
    (h : ev T E s.opd (lk s.ob) k o.type o.op = .el xs i) (hi : 0 ≤ i ∧ i < xs.length) :
    ∃ val, (execOp a.eval o).run P w = .ok (.value val) w ∧ ∀ e, xs[i.toNat]? = some e → FVRel (s.en w w0.arg β) (.c (.rd e)) val := by
  have hopt : ∀ {f : Option FV}, optF f ≠ .el xs i := by intro f; cases f <;> simp [optF]
  cases ho : o.op <;> rw [ho] at h <;> simp only [ev] at h
  case indexAddr t x ix =>
    split at h
    · rename_i f g hx hy
      split at h
      · cases h
      · rename_i xs' n hia
        simp only [Ev.el.injEq] at h
        obtain ⟨rfl, rfl⟩ := h
        obtain ⟨val, r1, r2⟩ := evIA_el (P := P) (en := s.en w w0.arg β) (w := w) hT hia hi (R.opd hx) (R.opd hy)
        exact ⟨val, by simp [execOp, ho, r1], r2⟩
      · cases h
    · cases h
  case call c =>
    exfalso
    repeat' split at h
    all_goals first
      | exact hopt h
      | (rename_i f g hx hy; obtain ⟨p, v, os, hq | hq⟩ := @evApp_notq T (lk s.ob) k _ _ f g <;> rw [hq] at h <;> cases h)
      | cases h
  case makeMap t r =>
    exfalso
    cases r with
    | none =>
      simp only at h
      repeat' split at h
      all_goals cases h
    | some r => simp at h
  case slice t x lo hi mx =>
    exfalso
    cases mx with
    | none =>
      simp only at h
      unfold evSlice at h
      repeat' split at h
      all_goals cases h
    | some m => simp at h
  all_goals
    exfalso
    try unfold evAssign at h
    repeat' split at h
    all_goals first
      | exact hopt h
      | cases h

/-- A load from an element of an array of one's own. -/
theorem ev_ld {T : Tab} {E : List (Nat × Nat)} (hT : TabOk P T) (R : Rel N w0 s a w β) {o : Oper} {k : Nat} {xs : List (List D)} {i j size : Nat} {agg : Bool}
    (h : ev T E s.opd (lk s.ob) k o.type o.op = .ld xs i j size agg) {e : List D} (he : xs[i]? = some e) :
    ∃ val, (execOp a.eval o).run P w = .ok (.value val) w ∧ FVRel (s.en w w0.arg β) (ldV e j size agg) val := by
  have hopt : ∀ {f : Option FV}, optF f ≠ .ld xs i j size agg := by intro f; cases f <;> simp [optF]
  cases ho : o.op <;> rw [ho] at h <;> simp only [ev] at h
  case load t x =>
    split at h
    · rename_i k' z i' j' hx
      split at h
      · rename_i e' z' xs' ti hob hti
        split at h
        · rename_i hb
          simp only [Bool.and_eq_true, Bool.or_eq_true] at hb
          simp only [Ev.ld.injEq] at h
          obtain ⟨rfl, rfl, rfl, rfl, rfl⟩ := h
          obtain rfl := nat_beq hb.1.1
          have hfit := Nat.le_of_ble_eq_true hb.1.2
          have hty := hT t ti hti
          have hr := R.opd hx
          simp only [FVRel, CRel] at hr
          obtain ⟨_, g, L, cap, hβ, hav⟩ := hr
          have hβ' : β k' = .slice (some ⟨g, 0, none⟩) L cap := hβ
          have hown : OwnRel w w0.arg (s.en w w0.arg β).M e' z xs' (β k') := R.ob k' _ hob
          rcases hown with ⟨rfl, _⟩ | ⟨b, cap', cur, h1, h2, h3, h4, h5, h6⟩
          · simp at he
          · rw [hβ'] at h1
            simp only [Value.slice.injEq, Option.some.injEq, Addr.mk.injEq, and_true] at h1
            obtain ⟨rfl, rfl, rfl⟩ := h1
            obtain ⟨hel, hcs⟩ := RdEs.get _ _ _ _ h6 he
            rw [Nat.zero_add] at hcs
            have hd := (hcs.drop j').vals
            obtain ⟨vs, v1, v2⟩ := hd
            have hvl := v1.length
            have hsub : DsV (Rd w w0.arg (s.en w w0.arg β).M) ((e.drop j').take ti.size) (vs.take ti.size) := v1.take _
            have hlen : (vs.take ti.size).length = ti.size := by rw [List.length_take, hvl, List.length_drop, hel]; omega
            have hrun := run_loadVar_cells (P := P) (w := w) hty hlen (b := g) (off := i' * z + j') (fun n u hn => v2 n u (by
              rw [List.getElem?_take] at hn
              split at hn
              · exact hn
              · cases hn)) (fun ha => by
                rcases hb.2 with h | h
                · rw [ha] at h; cases h
                · exact nat_beq h)
            have hcsr : CsRel (s.en w w0.arg β) ((locCs ((e.drop j').take ti.size)).map C.d) (vs.take ti.size) := by
              refine CsRel_of_RdCs _ _ hsub.length fun n x u hx hu => ?_
              obtain ⟨v, hv, hq⟩ := hsub.get n x hx
              rw [hu] at hv
              simp only [Option.some.injEq] at hv; subst hv
              exact hq
            refine ⟨if ti.k.agg = true then .agg (vs.take ti.size).toArray else (vs.take ti.size).headD undef, ?_, ?_⟩
            · simp only [execOp, ho, Instr.loadAt, hav, Instr.sureAddr, Sem.run_bind, Sem.run_pure, Result.andThen_ok]
              rw [hrun]; rfl
            · unfold ldV
              cases ha : ti.k.agg with
              | true => simp only [if_true, FVRel]; exact ⟨_, rfl, hcsr⟩
              | false =>
                have h1 : ti.size = 1 := by
                  rcases hb.2 with h | h
                  · rw [ha] at h; cases h
                  · exact nat_beq h
                have hel1 : ((e.drop j').take ti.size).length = 1 := by rw [← hsub.length, hlen, h1]
                match hds : (e.drop j').take ti.size, hel1 with
                | [x], _ =>
                  rw [hds] at hcsr
                  match hvs : vs.take ti.size, hcsr with
                  | [u], hcsr =>
                    simp only [FVRel, Bool.false_eq_true, if_false]
                    simpa [locCs] using hcsr.1
        · cases h
      · cases h
    · exact absurd h hopt
    · cases h
  case call c =>
    exfalso
    repeat' split at h
    all_goals first
      | exact hopt h
      | (rename_i f g hx hy; obtain ⟨p, v, os, hq | hq⟩ := @evApp_notq T (lk s.ob) k _ _ f g <;> rw [hq] at h <;> cases h)
      | cases h
  case makeMap t r =>
    exfalso
    cases r with
    | none =>
      simp only at h
      repeat' split at h
      all_goals cases h
    | some r => simp at h
  case slice t x lo hi mx =>
    exfalso
    cases mx with
    | none =>
      simp only at h
      unfold evSlice at h
      repeat' split at h
      all_goals cases h
    | some m => simp at h
  all_goals
    exfalso
    try unfold evAssign at h
    repeat' split at h
    all_goals first
      | exact hopt h
      | cases h

theorem argsV_sound (R : Rel N w0 s a w β) : ∀ {xs : List Operand} {fs : List FV}, argsV s.opd xs = some fs → FVsV (s.en w w0.arg β) fs (xs.map a.eval)
  | [], fs, h => by simp [argsV] at h; subst h; rfl
  | x :: xs, fs, h => by
    simp only [argsV] at h
    split at h
    · rename_i f fs' h1 h2
      simp only [Option.some.injEq] at h; subst h
      exact ⟨_, _, rfl, R.opd h1, argsV_sound R h2⟩
    · cases h

theorem argsR_sound (R : Rel N w0 s a w β) : ∀ {fs : List FV} {rs : List RV} {vs : List Value}, argsR (lk s.ob) fs = some rs → FVsV (s.en w w0.arg β) fs vs → AVs w rs vs
  | [], rs, vs, h, hv => by simp [argsR] at h; subst h; exact hv
  | f :: fs, rs, vs, h, hv => by
    simp only [argsR] at h
    obtain ⟨v, q, rfl, h3, h4⟩ := hv
    split at h
    · rename_i d ds h1 h2
      simp only [Option.some.injEq] at h; subst h
      exact ⟨_, _, rfl, argF_sound R h1 h3, argsR_sound R h2 h4⟩
    · cases h

theorem ev_call {T : Tab} {E : List (Nat × Nat)} (R : Rel N w0 s a w β) {o : Oper} {k f : Nat} {args : List FV} (h : ev T E s.opd (lk s.ob) k o.type o.op = .call f args) (hf : Entered P f) :
    ∃ vs, (execOp a.eval o).run P w = .ok (.enter f vs.toArray) w ∧ FVsV (s.en w w0.arg β) args vs := by
  have hopt : ∀ {g : Option FV}, optF g ≠ .call f args := by intro g; cases g <;> simp [optF]
  cases ho : o.op <;> rw [ho] at h <;> simp only [ev] at h
  case call c =>
    split at h
    · split at h
      · exact absurd h hopt
      · cases h
    · split at h
      · rename_i f g hx hy; obtain ⟨p, v, os, hq | hq⟩ := @evApp_notq T (lk s.ob) k _ _ f g <;> rw [hq] at h <;> cases h
      · cases h
    · split at h
      · exact absurd h hopt
      · cases h
    · split at h
      · exact absurd h hopt
      · cases h
    · rename_i fo hc
      split at h
      · rename_i g fst cap hfo
        split at h
        · rename_i h1 h2
          split at h
          · rename_i rs hrs
            simp only [Ev.call.injEq] at h
            obtain ⟨rfl, rfl⟩ := h
            refine ⟨c.args.toList.map a.eval, ?_, argsV_sound R hrs⟩
            have hv := val_rel (R.opd hfo)
            have e1 : fst = #[] := Array.eq_empty_of_size_eq_zero h1
            have e2 : cap = #[] := Array.eq_empty_of_size_eq_zero h2
            subst e1; subst e2
            obtain ⟨fn, f1, f2, f3⟩ := hf
            have f2' : ¬ fn.name = "runtime.NumGoroutine" := by simpa using f2
            have f3' : ¬ fn.body = none := fun e => by rw [e] at f3; simp at f3
            simp [execOp, ho, resolve, hc, hv, Deferred.ofValue, invoke, callFunc, f1, f2', f3']
            apply Array.ext'; simp
          · cases h
        · cases h
      · cases h
    · cases h
  case makeMap t r =>
    exfalso
    cases r with
    | none =>
      simp only at h
      repeat' split at h
      all_goals cases h
    | some r => simp at h
  case slice t x lo hi mx =>
    exfalso
    cases mx with
    | none =>
      simp only at h
      unfold evSlice at h
      repeat' split at h
      all_goals cases h
    | some m => simp at h
  all_goals
    exfalso
    try unfold evAssign at h
    repeat' split at h
    all_goals first
      | exact hopt h
      | cases h

/-- A slice's literal that takes arrays of one's own in. -/
theorem ev_bs {T : Tab} {E : List (Nat × Nat)} (R : Rel N w0 s a w β) {o : Oper} {k t len : Nat} {qs : List (Nat × List C)} (h : ev T E s.opd (lk s.ob) k o.type o.op = .bs t len qs) :
    ∃ vs, PartsRel (s.en w w0.arg β) qs vs ∧ ∀ val w', (Instr.buildSlice t len vs.toArray).run P w = .ok val w' → (execOp a.eval o).run P w = .ok (.value val) w' := by
  have hopt : ∀ {f : Option FV}, optF f ≠ .bs t len qs := by intro f; cases f <;> simp [optF]
  cases ho : o.op <;> rw [ho] at h <;> simp only [ev] at h
  case buildSlice t' len' ps =>
    split at h
    · rename_i qs' hq
      split at h
      · cases h
      · simp only [Ev.bs.injEq] at h
        obtain ⟨rfl, rfl, rfl⟩ := h
        refine ⟨_, partsC_rel R hq, fun val w' hr => ?_⟩
        have : ps.map (fun (x : Nat × Operand) => (x.1, a.eval x.2)) = (ps.toList.map fun x => (x.1, a.eval x.2)).toArray := by apply Array.ext'; simp
        simp only [execOp, ho, Sem.run_bind, this]
        simp [hr]
    · cases h
  case call c =>
    split at h
    · split at h
      · exact absurd h hopt
      · cases h
    · split at h
      · rename_i f g hx hy; obtain ⟨p, v, os, hq | hq⟩ := @evApp_notq T (lk s.ob) k _ _ f g <;> rw [hq] at h <;> cases h
      · cases h
    · split at h
      · exact absurd h hopt
      · cases h
    · split at h
      · exact absurd h hopt
      · cases h
    · split at h
      · split at h
        · split at h <;> cases h
        · cases h
      · cases h
    · cases h
  case makeMap t r =>
    exfalso
    cases r with
    | none =>
      simp only at h
      repeat' split at h
      all_goals cases h
    | some r => simp at h
  case slice t x lo hi mx =>
    exfalso
    cases mx with
    | none =>
      simp only at h
      unfold evSlice at h
      repeat' split at h
      all_goals cases h
    | some m => simp at h
  all_goals
    exfalso
    try unfold evAssign at h
    repeat' split at h
    all_goals first
      | exact hopt h
      | cases h

/-- An operation that writes. -/
theorem ev_ef {T : Tab} {E : List (Nat × Nat)} (hT : TabOk P T) (hE : ∀ t n, lk E t = some n → EqOk P t n) (R : Rel N w0 s a w β) {o : Oper} {k : Nat} {p : Prop} {v : FV} {os : List (Nat × Ob)}
    (h : ev T E s.opd (lk s.ob) k o.type o.op = .ef p v os) (hp : p) :
    (∃ w' β', (execOp a.eval o).run P w = .ok .skip w' ∧ v = .und ∧ Rel N w0 ⟨s.tm, os ++ s.ob⟩ a w' β') ∨
    (v ≠ .und ∧ (lk s.ob k = none → ∃ val w' β', (execOp a.eval o).run P w = .ok (.value val) w' ∧ Rel N w0 ⟨s.tm, os ++ s.ob⟩ a w' β' ∧ FVRel (St.en ⟨s.tm, os ++ s.ob⟩ w' w0.arg β') v val)) := by
  have hopt : ∀ {f : Option FV}, optF f ≠ .ef p v os := by intro f; cases f <;> simp [optF]
  cases ho : o.op <;> rw [ho] at h <;> simp only [ev] at h
  case store t x y =>
    split at h
    · rename_i f g hx hy
      split at h
      · rename_i pr k' o' hs
        simp only [Ev.ef.injEq] at h
        obtain ⟨rfl, rfl, rfl⟩ := h
        obtain ⟨w', r1, r2⟩ := evStore_sound (P := P) hT R hs hp (R.opd hx) (R.opd hy)
        exact .inl ⟨w', β, by simp [execOp, ho, r1], rfl, r2⟩
      · cases h
    · cases h
  case mapUpdate t m i x =>
    split at h
    · rename_i f g y hm hi hx
      split at h
      · rename_i k' o' hs
        simp only [Ev.ef.injEq] at h
        obtain ⟨_, rfl, rfl⟩ := h
        obtain ⟨w', r1, r2⟩ := evMU_sound (P := P) hT hE R hs (R.opd hm) (R.opd hi) (R.opd hx)
        exact .inl ⟨w', β, by simp [execOp, ho, r1], rfl, r2⟩
      · cases h
    · cases h
  case insert t m i x =>
    split at h
    · rename_i f g y hm hi hx
      split at h
      · rename_i k' o' hs
        simp only [Ev.ef.injEq] at h
        obtain ⟨_, rfl, rfl⟩ := h
        obtain ⟨w', r1, r2⟩ := evMU_sound (P := P) hT hE R hs (R.opd hm) (R.opd hi) (R.opd hx)
        exact .inl ⟨w', β, by simp [execOp, ho, r1], rfl, r2⟩
      · cases h
    · cases h
  case mapEntry t m i =>
    split at h
    · rename_i f g hm hi
      split at h
      · rename_i v' k' o' hs
        simp only [Ev.ef.injEq] at h
        obtain ⟨_, rfl, rfl⟩ := h
        obtain ⟨val, w', r1, r2, r3⟩ := evME_sound (P := P) hT hE R hs (R.opd hm) (R.opd hi)
        refine .inr ⟨?_, fun _ => ⟨val, w', β, by simp [execOp, ho, r1], r2, r3⟩⟩
        unfold evME at hs
        repeat' split at hs
        all_goals first
          | (simp only [Option.some.injEq, Prod.mk.injEq] at hs; rw [← hs.1]; simp)
          | cases hs
      · cases h
    · cases h
  case entryStore t m i x =>
    split at h
    · rename_i f g y hm hi hx
      split at h
      · rename_i pr k' o' hs
        simp only [Ev.ef.injEq] at h
        obtain ⟨rfl, rfl, rfl⟩ := h
        obtain ⟨w', r1, r2⟩ := evES_sound (P := P) (t := t) R hs hp (R.opd hm) (R.opd hi) (R.opd hx)
        exact .inl ⟨w', β, by simp [execOp, ho, r1], rfl, r2⟩
      · cases h
    · cases h
  case call c =>
    split at h
    · split at h
      · exact absurd h hopt
      · cases h
    · rename_i x y t t' hc hargs hts
      split at h
      · rename_i f g hx hy
        refine .inr ⟨by rw [evApp_v h]; simp, fun hk => ?_⟩
        obtain ⟨val, w', β', r1, r2, r3⟩ := evApp_sound (P := P) (ty := o.type) hT R h hp hk (R.opd hx) (R.opd hy)
        refine ⟨val, w', β', ?_, r2, r3⟩
        have e1 : c.args = #[x, y] := by rw [← Array.toArray_toList (xs := c.args), hargs]
        have e2 : c.argTypes = #[t, t'] := by rw [← Array.toArray_toList (xs := c.argTypes), hts]
        simp [execOp, ho, resolve, hc, e1, e2, invoke, builtin, r1]
      · cases h
    · split at h
      · exact absurd h hopt
      · cases h
    · split at h
      · exact absurd h hopt
      · cases h
    · split at h
      · split at h
        · split at h <;> cases h
        · cases h
      · cases h
    · cases h
  case makeMap t r =>
    exfalso
    cases r with
    | none =>
      simp only at h
      repeat' split at h
      all_goals cases h
    | some r => simp at h
  case slice t x lo hi mx =>
    exfalso
    cases mx with
    | none =>
      simp only at h
      unfold evSlice at h
      repeat' split at h
      all_goals cases h
    | some m => simp at h
  all_goals
    exfalso
    try unfold evAssign at h
    repeat' split at h
    all_goals first
      | exact hopt h
      | cases h

end Go.Sm
