/- Towards the rows of this seat: what the functions do, as contracts over plain data. -/
import Derived.Test.YtemedeiolhgoeaaPkQrCountOrbitsBK4
namespace Go.Sm
open Go.RowKit

variable {P : Program} {N : Nat} {w0 : Base} {s : St} {a : Act} {w : World} {β : Nat → Value}

/-- The objects alone, without slots. -/
def RelO (w0 : Base) (ob : List (Nat × Ob)) (w : World) (β : Nat → Value) : Prop := Rel 0 w0 ⟨[], ob⟩ { tmps := #[], defers := [] } w β
theorem Rel.toO (R : Rel N w0 s a w β) : RelO w0 s.ob w β := ⟨rfl, rfl, fun t f h => by simp [lk] at h, R.ob, R.nd, R.dj, R.ge, R.low, R.fx⟩

/-- A function that is run on these objects and leaves those; it returns nothing. -/
def ClosOK (P : Program) (w0 : Base) (f : FuncId) (fs : List FV) (ob ob' : List (Nat × Ob)) : Prop :=
  Entered P f ∧ ∀ w β, RelO w0 ob w β → ∀ vs, FVsV (St.en ⟨[], ob⟩ w w0.arg β) fs vs → Calls P f vs.toArray w fun e w' => e = .returned (.tuple #[]) ∧ ∃ β', RelO w0 ob' w' β'

def CQ (P : Program) (w0 : Base) (fn : Func) (ob' : List (Nat × Ob)) : Exit → Act → World → Prop := bodyPost P fn fun e w' => e = .returned (.tuple #[]) ∧ ∃ β', RelO w0 ob' w' β'
def fsTm : Nat → List FV → List (Nat × FV)
  | _, [] => []
  | i, f :: fs => (i, f) :: fsTm (i + 1) fs

theorem fsTm_rel {en : En} : ∀ {fs : List FV} {vs : List Value} {i : Nat}, FVsV en fs vs → ∀ t f, lk (fsTm i fs) t = some f → ∃ v, vs[t - i]? = some v ∧ i ≤ t ∧ FVRel en f v
  | [], vs, i, _, t, f, h => by simp [fsTm, lk] at h
  | r :: rs, vs, i, hv, t, f, h => by
    obtain ⟨v, q, rfl, h1, h2⟩ := hv
    simp only [fsTm, lk_cons] at h
    split at h
    · rename_i e; subst e
      simp only [Option.some.injEq] at h; subst h
      exact ⟨v, by simp, Nat.le_refl _, h1⟩
    · obtain ⟨u, u1, u2, u3⟩ := fsTm_rel h2 t f h
      exact ⟨u, by rw [show t - i = (t - (i + 1)) + 1 by omega]; simpa using u1, by omega, u3⟩
theorem FVsV.length {en : En} : ∀ {fs : List FV} {vs : List Value}, FVsV en fs vs → vs.length = fs.length
  | [], vs, h => by simp only [FVsV] at h; subst h; rfl
  | r :: rs, vs, h => by obtain ⟨v, q, rfl, _, h⟩ := h; simp [h.length]

theorem ClosOK.of {F : Fn} {f : FuncId} {fn : Func} {c : Code} {fs : List FV} {ob ob' : List (Nat × Ob)} (hf : F.P.funcs[f]? = some fn) (hb : fn.body = some c) (hN : fn.ntmps = F.N)
    (hname : (fn.name == "runtime.NumGoroutine") = false) (hle : fs.length ≤ F.N) (h : J F.P F.N w0 (CQ F.P w0 fn ob') [.code c] ⟨fsTm 0 fs, ob⟩) : ClosOK F.P w0 f fs ob ob' := by
  refine ⟨⟨fn, hf, hname, by rw [hb]; rfl⟩, fun w β R vs hv => ?_⟩
  refine calls_of_wp hf hb ?_
  have hl := hv.length
  have R' : Rel F.N w0 ⟨fsTm 0 fs, ob⟩ { tmps := vs.toArray ++ Array.replicate (fn.ntmps - vs.toArray.size) undef, defers := [] } w β := by
    refine ⟨by simp; omega, rfl, ?_, R.ob, R.nd, R.dj, R.ge, R.low, R.fx⟩
    intro t f h
    obtain ⟨v, h1, h2, h3⟩ := fsTm_rel hv t f h
    simp only [Nat.sub_zero] at h1
    have hlt := (List.getElem?_eq_some_iff.1 h1).1
    have : (vs.toArray ++ Array.replicate (fn.ntmps - vs.toArray.size) undef).getD t undef = v := by
      rw [Array.getD_eq_getD_getElem?, Array.getElem?_append_left (by simpa using hlt)]
      simp [h1]
    rw [this]; exact h3
  have := h _ w β R'
  simp only [cont] at this
  exact this

/-! ### making one, calling one -/

/-- Slots that hold pointers to objects with names. -/
def capsAre (w0 : Base) (ρ : Operand → Option FV) : List Operand → List Nat → List Value → Prop
  | [], ks, vs => ks = [] ∧ vs = []
  | x :: xs, ks, vs => ∃ K kr c cr, ks = K :: kr ∧ vs = c :: cr ∧ ρ x = some (.c (.ref K 0)) ∧ w0.fix K = some c ∧ capsAre w0 ρ xs kr cr

theorem capsAre_eval (R : Rel N w0 s a w β) : ∀ {xs : List Operand} {ks : List Nat} {vs : List Value}, capsAre w0 s.opd xs ks vs → xs.map a.eval = vs
  | [], _, _, h => h.2.symm
  | x :: xs, _, _, ⟨K, kr, c, cr, rfl, rfl, h1, h2, h3⟩ => by
    have hr := R.opd h1
    simp only [FVRel, CRel] at hr
    obtain ⟨_, g, h4, h5⟩ := hr
    have h6 : β K = c := (R.fx K c h2).2
    have h7 : β K = a.eval x := by rw [h5]; exact h4
    rw [List.map_cons, ← h7, h6, capsAre_eval R h3]

theorem OpW.mkFunc {Q : Exit → Act → World → Prop} {all : Array Oper} {os : List Oper} {k : List It} {o : Oper} {d : Nat} {g : FuncId} {caps : Array Operand} (ks : List Nat) (vs : List Value) (ho : o.op = .makeFunc (.func g) #[] caps) (hd : o.dst = some d) (hlt : d < N)
    (hc : capsAre w0 s.opd caps.toList ks vs) (h : J P N w0 Q (.ops all os :: k) ⟨(d, .c (.d (.v (.func (.func g) #[] vs.toArray)))) :: s.tm, s.ob⟩) : OpW P N w0 Q all os k s o := by
  refine OpW.val hd fun a w β R => ?_
  have e : caps.map a.eval = vs.toArray := by apply Array.ext'; simpa using capsAre_eval R hc
  refine ⟨.func (.func g) #[] vs.toArray, w, _, β, ?_, R.setTm hlt (rel_val rfl), h⟩
  simp [execOp, ho, Instr.makeFunc, e]

def FV.stable (ks : List Nat) : FV → Bool
  | .c (.d (.v _)) => true
  | .c (.ref K _) => ks.elem K
  | .c (.ob K) => ks.elem K
  | .und => true
  | _ => false

theorem FV.stable_rel {ks : List Nat} (hks : ∀ K ∈ ks, (w0.fix K).isSome = true) (R : Rel N w0 s a w β) {ob' : List (Nat × Ob)} {w' : World} {β' : Nat → Value} (R' : RelO w0 ob' w' β') :
    ∀ {f : FV} {v : Value}, f.stable ks = true → FVRel (s.en w w0.arg β) f v → FVRel (St.en ⟨[], ob'⟩ w' w0.arg β') f v := by
  have key : ∀ K, ks.elem K = true → (lk ob' K).isSome = true ∧ β' K = β K := by
    intro K hK
    obtain ⟨c, hc⟩ := Option.isSome_iff_exists.1 (hks K (by simpa using hK))
    obtain ⟨h1, h2⟩ := R'.fx K c hc
    exact ⟨h1, h2.trans (R.fx K c hc).2.symm⟩
  intro f v hf h
  unfold FV.stable at hf
  split at hf
  · simpa only [FVRel, CRel, Rd] using h
  · rename_i K off
    obtain ⟨h1, h2⟩ := key K hf
    simp only [FVRel, CRel] at h ⊢
    exact ⟨h1, by show ∃ g, β' K = _ ∧ _; rw [h2]; exact h.2⟩
  · rename_i K
    obtain ⟨h1, h2⟩ := key K hf
    simp only [FVRel, CRel] at h ⊢
    exact ⟨h1, by show v = β' K; rw [h2]; exact h.2.1, h.2.2⟩
  · simpa only [FVRel] using h
  · cases hf

def isVar : Option Ob → Bool
  | some (.var _) => true
  | _ => false

theorem caps_rel {ob : List (Nat × Ob)} (R : RelO w0 ob w β) : ∀ {ks : List Nat} {vs : List Value}, vs.map some = ks.map w0.fix → ks.all (fun K => isVar (lk ob K)) = true →
    FVsV (St.en ⟨[], ob⟩ w w0.arg β) (ks.map fun K => .c (.ref K 0)) vs
  | [], vs, h, _ => by simp at h; subst h; rfl
  | K :: ks, [], h, _ => by simp at h
  | K :: ks, v :: vs, h, hv => by
    simp only [List.map_cons, List.cons.injEq] at h
    simp only [List.all_cons, Bool.and_eq_true] at hv
    refine ⟨v, vs, rfl, ?_, caps_rel R h.2 hv.2⟩
    have h1 := hv.1
    unfold isVar at h1
    split at h1
    · rename_i cs hcs
      obtain ⟨g, cur, T, h2, _⟩ := R.ob K _ hcs
      have h3 : β K = v := (R.fx K v h.1.symm).2
      simp only [FVRel, CRel]
      have h2' : β K = .pointer (some ⟨g, 0, none⟩) := h2
      exact ⟨by show (lk ob K).isSome = true; rw [hcs]; rfl, g, h2', by rw [← h3]; exact h2'⟩
    · cases h1

theorem FVsV.append {en : En} : ∀ {fs gs : List FV} {us vs : List Value}, FVsV en fs us → FVsV en gs vs → FVsV en (fs ++ gs) (us ++ vs)
  | [], gs, us, vs, h, h2 => by simp only [FVsV] at h; subst h; exact h2
  | f :: fs, gs, us, vs, ⟨v, q, e, h1, h3⟩, h2 => ⟨v, q ++ vs, by rw [e]; rfl, h1, FVsV.append h3 h2⟩

theorem scal_rel {en en' : En} : ∀ {fs : List FV} {vs : List Value}, fs.all (FV.stable []) = true → FVsV en fs vs → FVsV en' fs vs
  | [], vs, _, h => h
  | f :: fs, vs, hf, ⟨v, q, e, h1, h2⟩ => by
    simp only [List.all_cons, Bool.and_eq_true] at hf
    refine ⟨v, q, e, ?_, scal_rel hf.2 h2⟩
    have hf1 := hf.1
    unfold FV.stable at hf1
    split at hf1
    · simpa only [FVRel, CRel, Rd] using h1
    · simp at hf1
    · simp at hf1
    · simpa only [FVRel] using h1
    · cases hf1

/-- The contract of a function, from the conditions at its body, where no handle has a name. -/
theorem callOKn {F : Fn} (hF : FnOk F) {f : FuncId} {fn : Func} {c : Code} {args : List RV} {r : RV} (n : Nat) (hf : F.P.funcs[f]? = some fn) (hb : fn.body = some c) (hN : fn.ntmps = F.N)
    (hrs : fn.results.toList = F.rs) (hname : (fn.name == "runtime.NumGoroutine") = false) (hle : args.length ≤ F.N) (hp : args.all RV.plain = true)
    (h : ∀ w0 : Base, w0.ok64 → (∀ k, w0.fix k = none) → vc F w0 (F.post w0 ⟨r, []⟩ fn) (RetVC F.T F.rs ⟨r, []⟩) n [.code c] ⟨argTm 0 args, []⟩) : CallOK F.P f args r := by
  refine ⟨⟨fn, hf, hname, by rw [hb]; rfl⟩, fun w vs hv => ?_⟩
  let w0 : Base := ⟨w, fun _ => False, fun _ => none⟩
  refine Calls.mono (calls_of_wp (R := fun e w' => ∃ v, e = .returned v ∧ OwnR w' w0 ⟨r, []⟩ v ∧ Low w0 w0.toWorld w') hf hb ?_) ?_
  · have hl := hv.length
    have hj := vc_sound (w0 := w0) hF hrs (fun _ h => by cases h) n _ _ (h w0 (fun _ _ h => by cases h) fun _ => rfl)
    have hM : ∀ b, ¬ (St.en ⟨argTm 0 args, []⟩ w w0.arg fun _ => nilV).M b := by
      rintro b ⟨k, o, ho, _⟩
      simp [St.en, lk] at ho
    have R : Rel F.N w0 ⟨argTm 0 args, []⟩ { tmps := vs.toArray ++ Array.replicate (fn.ntmps - vs.toArray.size) undef, defers := [] } w fun _ => nilV := by
      refine ⟨by simp; omega, rfl, ?_, ?_, ?_, ?_, ?_, Low.refl _ _, fun _ _ h => nomatch h⟩
      · intro t f h
        obtain ⟨v, h1, h2, h3⟩ := argTm_rel (en := St.en ⟨argTm 0 args, []⟩ w w0.arg fun _ => nilV) (fun b hb => ⟨hb, not_false⟩) hM hp hv t f h
        simp only [Nat.sub_zero] at h1
        have hlt := (List.getElem?_eq_some_iff.1 h1).1
        have : (vs.toArray ++ Array.replicate (fn.ntmps - vs.toArray.size) undef).getD t undef = v := by
          rw [Array.getD_eq_getD_getElem?, Array.getElem?_append_left (by simpa using hlt)]
          simp [h1]
        rw [this]; exact h3
      · intro k o h; simp [lk] at h
      · intro k; simp [obFp, St.en, lk]
      · intro k k' _ b hb; simp [obFp, St.en, lk] at hb
      · intro k b hb; simp [obFp, St.en, lk] at hb
    have := hj _ w _ R
    simp only [cont] at this
    exact this
  · rintro e w' ⟨v, rfl, ⟨us, vs, h1, h2, h3, h4, h5, h6⟩, hlow⟩
    have : us = [] := by simpa using h2
    subst this
    simp only [List.map_nil, List.nil_append] at h3 h4 h5 h6
    exact ⟨v, rfl, ⟨vs, h1, h3, h4, h5, fun b hb => (h6 b hb).elim id False.elim⟩, ⟨⟨hlow.os, hlow.tape, hlow.output, hlow.size, fun k hk => hlow.block k ⟨hk, not_false⟩⟩, hlow.drawn⟩⟩

theorem ok64_named (hw : w0.ok64) {K : Nat} (h : K < 64) (c : Value) : (w0.named K c).ok64 := by
  intro k c' hk
  by_cases e : k = K
  · omega
  · rw [named_ne w0 c e] at hk; exact hw k c' hk

/-- The state is cut to t, the objects' keys renamed. -/
theorem J.cut (hw : w0.ok64) {Q : Exit → Act → World → Prop} {k : List It} (t : St) (h : Fit (autoRn s t) s t) (hj : J P N w0 Q k t) : J P N w0 Q k s := J.fit hw h hj

end Go.Sm
