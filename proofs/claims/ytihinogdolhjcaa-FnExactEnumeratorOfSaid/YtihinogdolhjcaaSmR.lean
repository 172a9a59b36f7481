/- A function as a whole; loops; states that fit. -/
import Derived.Test.YtihinogdolhjcaaSmQ
namespace Go.Sm
open Go.RowKit

variable {P : Program} {N : Nat} {w0 : Base} {s : St} {a : Act} {w : World} {β : Nat → Value}

/-! ### a function as a whole -/

def rvF : RV → FV
  | .one x => .c (.d x)
  | .agg xs => .g (xs.map C.d)
  | .tup _ => .und

def argTm : Nat → List RV → List (Nat × FV)
  | _, [] => []
  | i, r :: rs => (i, rvF r) :: argTm (i + 1) rs

def RV.plain : RV → Bool
  | .tup _ => false
  | _ => true

theorem CsRel_d {en : En} : ∀ {ds : List D} {vs : List Value}, DsV (Rd en.w en.B en.M) ds vs → ds.all noOwn = true → CsRel en (ds.map C.d) vs
  | [], vs, h, _ => by simp only [DsV] at h; subst h; trivial
  | d :: ds, vs, h, hn => by
    obtain ⟨v, r, rfl, h1, h⟩ := h
    simp only [List.all_cons, Bool.and_eq_true] at hn
    exact ⟨⟨by simpa [noOwn] using hn.1, h1.one, h1⟩, CsRel_d h hn.2⟩

theorem AV.rel {en : En} {r : RV} {v : Value} (hp : r.plain = true) (h : AV en.w r v) (hB : ∀ b, Old en.w b → en.B b) (hM : ∀ b, ¬ en.M b) : FVRel en (rvF r) v := by
  obtain ⟨vs, h1, h2, h3⟩ := h
  have K : Keeps en.w en.w (fun _ => False) en.M := ⟨Nat.le_refl _, fun _ _ _ => rfl, fun b hb => absurd hb (hM b)⟩
  have h4 : DsV (Rd en.w en.B en.M) (cellsR r) vs := h3.mono fun x v h => Rd.keep K x v (Rd.base hB x v h)
  have h5 := CsRel_d h4 h2
  cases r with
  | one x =>
    simp only [RShape] at h1; subst h1
    simp only [rvF, FVRel]
    exact h5.1
  | agg xs => simp only [RShape] at h1; simp only [rvF, FVRel]; exact ⟨vs, h1, h5⟩
  | tup ps => simp [RV.plain] at hp

theorem argTm_rel {en : En} (hB : ∀ b, Old en.w b → en.B b) (hM : ∀ b, ¬ en.M b) : ∀ {rs : List RV} {vs : List Value} {i : Nat}, rs.all RV.plain = true → AVs en.w rs vs →
    ∀ t f, lk (argTm i rs) t = some f → ∃ v, vs[t - i]? = some v ∧ i ≤ t ∧ FVRel en f v
  | [], vs, i, _, _, t, f, h => by simp [argTm, lk] at h
  | r :: rs, vs, i, hp, hv, t, f, h => by
    simp only [List.all_cons, Bool.and_eq_true] at hp
    obtain ⟨v, q, rfl, h1, h2⟩ := hv
    simp only [argTm, lk_cons] at h
    split at h
    · rename_i e; subst e
      simp only [Option.some.injEq] at h; subst h
      exact ⟨v, by simp, Nat.le_refl _, h1.rel hp.1 hB hM⟩
    · obtain ⟨u, u1, u2, u3⟩ := argTm_rel hB hM hp.2 h2 t f h
      exact ⟨u, by rw [show t - i = (t - (i + 1)) + 1 by omega]; simpa using u1, by omega, u3⟩

theorem AVs.length {w : World} : ∀ {rs : List RV} {vs : List Value}, AVs w rs vs → vs.length = rs.length
  | [], vs, h => by simp only [AVs] at h; subst h; rfl
  | r :: rs, vs, h => by obtain ⟨v, q, rfl, _, h⟩ := h; simp [h.length]

/-- The contract of a function, from the conditions at its body. -/
theorem callOK {F : Fn} (hF : FnOk F) {f : FuncId} {fn : Func} {c : Code} {args : List RV} {r : RV} (n : Nat) (hf : F.P.funcs[f]? = some fn) (hb : fn.body = some c) (hN : fn.ntmps = F.N)
    (hrs : fn.results.toList = F.rs) (hname : (fn.name == "runtime.NumGoroutine") = false) (hle : args.length ≤ F.N) (hp : args.all RV.plain = true)
    (h : ∀ w0 : Base, w0.ok64 → vc F w0 (F.post w0 ⟨r, []⟩ fn) ⟨r, []⟩ n [.code c] ⟨argTm 0 args, []⟩) : CallOK F.P f args r := by
  refine ⟨⟨fn, hf, hname, by rw [hb]; rfl⟩, fun w vs hv => ?_⟩
  let w0 : Base := ⟨w, fun _ => False, fun _ => none⟩
  refine Calls.mono (calls_of_wp (R := fun e w' => ∃ v, e = .returned v ∧ OwnR w' w0 ⟨r, []⟩ v ∧ Low w0 w0.toWorld w') hf hb ?_) ?_
  · have hl := hv.length
    have hj := vc_sound (w0 := w0) hF hrs (fun _ h => by cases h) n _ _ (h w0 fun _ _ h => by cases h)
    have hM : ∀ b, ¬ (St.en ⟨argTm 0 args, []⟩ w w0.arg fun _ => nilV).M b := by
      rintro b ⟨k, o, ho, _⟩
      simp [St.en, lk] at ho
    have R : Rel F.N w0 ⟨argTm 0 args, []⟩ { tmps := vs.toArray ++ Array.replicate (fn.ntmps - vs.toArray.size) undef, defers := [] } w fun _ => nilV := by
      refine ⟨by simp; omega, rfl, ?_, ?_, ?_, ?_, ?_, Low.refl _ _, fun _ _ h => nomatch h⟩
      · intro t f h
        obtain ⟨v, h1, h2, h3⟩ := argTm_rel (en := St.en ⟨argTm 0 args, []⟩ w w0.arg fun _ => nilV) (fun b hb => ⟨hb, not_false⟩) hM hp hv t f h
        simp only [Nat.sub_zero] at h1
        have hlt := (List.getElem?_eq_some_iff.1 h1).1
        have : (vs.toArray ++ Array.replicate (fn.ntmps - vs.toArray.size) undef).getD t undef = v := by
          rw [Array.getD_eq_getD_getElem?, Array.getElem?_append_left (by simpa using hlt)]
          simp [h1]
        rw [this]; exact h3
      · intro k o h; simp [lk] at h
      · intro k; simp [obFp, St.en, lk]
      · intro k k' _ b hb; simp [obFp, St.en, lk] at hb
      · intro k b hb; simp [obFp, St.en, lk] at hb
    have := hj _ w _ R
    simp only [cont] at this
    exact this
  · rintro e w' ⟨v, rfl, ⟨us, vs, h1, h2, h3, h4, h5, h6⟩, hlow⟩
    have : us = [] := by simpa using h2
    subst this
    simp only [List.map_nil, List.nil_append] at h3 h4 h5 h6
    exact ⟨v, rfl, ⟨vs, h1, h3, h4, h5, fun b hb => (h6 b hb).elim id False.elim⟩, ⟨⟨hlow.os, hlow.tape, hlow.output, hlow.size, fun k hk => hlow.block k ⟨hk, not_false⟩⟩, hlow.drawn⟩⟩

/-! ### states that fit -/

def ren (rn : List (Nat × Nat)) (k : Nat) : Nat := (lk rn k).getD k

def renC (rn : List (Nat × Nat)) : C → C
  | .d x => .d x
  | .ob k => .ob (ren rn k)
  | .win k z lo n => .win (ren rn k) z lo n
  | .ref k off => .ref (ren rn k) off
  | .re k z i j => .re (ren rn k) z i j
  | .rd xs => .rd xs
def C.keyIn (ks : List Nat) : C → Bool
  | .ob k | .win k _ _ _ | .ref k _ | .re k _ _ _ => ks.elem k
  | _ => true
mutual
def renF (rn : List (Nat × Nat)) : FV → FV
  | .c x => .c (renC rn x)
  | .g xs => .g (xs.map (renC rn))
  | .t xs => .t (renFs rn xs)
  | .und => .und
def renFs (rn : List (Nat × Nat)) : List FV → List FV
  | [] => []
  | x :: xs => renF rn x :: renFs rn xs
end
mutual
def FV.keysIn (ks : List Nat) : FV → Bool
  | .c x => x.keyIn ks
  | .g xs => xs.all (C.keyIn ks)
  | .t xs => keysInFs ks xs
  | .und => true
def keysInFs (ks : List Nat) : List FV → Bool
  | [] => true
  | x :: xs => x.keysIn ks && keysInFs ks xs
end
def renO (rn : List (Nat × Nat)) : Ob → Ob
  | .var cs => .var (cs.map (renC rn))
  | o => o
def Ob.keysIn (ks : List Nat) : Ob → Bool
  | .var cs => cs.all (C.keyIn ks)
  | _ => true

def fitTm (rn : List (Nat × Nat)) (ks : List Nat) (s : St) : List (Nat × FV) → Prop
  | [] => True
  | (x, f) :: r => f.keysIn ks = true ∧ lk s.tm x = some (renF rn f) ∧ fitTm rn ks s r
def fitOb (rn : List (Nat × Nat)) (ks : List Nat) (s : St) : List (Nat × Ob) → Prop
  | [] => True
  | (k, o) :: r => o.keysIn ks = true ∧ o.live = true ∧ lk s.ob (ren rn k) = some (renO rn o) ∧ fitOb rn ks s r

/-- The changeable arguments keep their keys. -/
def fitFix (rn : List (Nat × Nat)) (t : St) : List (Nat × Ob) → Bool
  | [] => true
  | (k, _) :: r => (Nat.ble 64 k || (Nat.beq (ren rn k) k && (lk t.ob k).isSome)) && fitFix rn t r

/-- The state t says no more than s does, with the objects' keys renamed. -/
def Fit (rn : List (Nat × Nat)) (s t : St) : Prop :=
  fitTm rn (t.ob.map (·.1)) s t.tm ∧ fitOb rn (t.ob.map (·.1)) s t.ob ∧ (t.ob.map fun x => ren rn x.1).Nodup ∧ fitFix rn t s.ob = true

theorem fitFix_lk {rn : List (Nat × Nat)} {t : St} : ∀ {l : List (Nat × Ob)} {k : Nat}, fitFix rn t l = true → k < 64 → (lk l k).isSome = true → ren rn k = k ∧ (lk t.ob k).isSome = true
  | [], k, _, _, h => by simp [lk] at h
  | (k', o) :: l, k, h, hk, hs => by
    simp only [fitFix, Bool.and_eq_true, Bool.or_eq_true] at h
    simp only [lk_cons] at hs
    split at hs
    · rename_i e; subst e
      rcases h.1 with h | h
      · have := Nat.le_of_ble_eq_true h; omega
      · exact ⟨nat_beq h.1, h.2⟩
    · exact fitFix_lk h.2 hk hs

theorem CRel.ren {en en' : En} {rn : List (Nat × Nat)} {ks : List Nat} (hw : en'.w = en.w) (hB : en'.B = en.B) (hM : ∀ b, en'.M b → en.M b) (hβ : ∀ k, en'.β k = en.β (ren rn k)) (hk : ∀ k ∈ ks, (en'.ob k).isSome = true)
    {c : C} {v : Value} (hc : c.keyIn ks = true) (h : CRel en (renC rn c) v) : CRel en' c v := by
  have K : Keeps en.w en'.w en.M en'.M := by rw [hw]; exact ⟨Nat.le_refl _, fun _ _ _ => rfl, fun b hb => .inl (hM b hb)⟩
  cases c with
  | d x => exact ⟨h.1, h.2.1, by rw [hB]; exact Rd.keep K x v h.2.2⟩
  | ob k =>
    have hkk := hk k (by simpa [C.keyIn] using hc)
    exact ⟨hkk, by rw [hβ]; exact h.2.1, h.2.2⟩
  | win k z lo n =>
    have hkk := hk k (by simpa [C.keyIn] using hc)
    exact ⟨hkk, by rw [hβ]; exact h.2⟩
  | ref k off =>
    have hkk := hk k (by simpa [C.keyIn] using hc)
    exact ⟨hkk, by rw [hβ]; exact h.2⟩
  | re k z i j =>
    have hkk := hk k (by simpa [C.keyIn] using hc)
    exact ⟨hkk, by rw [hβ]; exact h.2⟩
  | rd xs =>
    obtain ⟨b, off, h1, h2, h3, h4⟩ := h
    exact ⟨b, off, h1, K.not h3 h2, by rw [hw]; exact h3, by rw [hB]; exact RdCs.keep K (fun _ => by rw [hw]) xs off h4⟩

theorem CsRel.ren {en en' : En} {rn : List (Nat × Nat)} {ks : List Nat} (hw : en'.w = en.w) (hB : en'.B = en.B) (hM : ∀ b, en'.M b → en.M b) (hβ : ∀ k, en'.β k = en.β (ren rn k)) (hk : ∀ k ∈ ks, (en'.ob k).isSome = true) :
    ∀ {cs : List C} {vs : List Value}, cs.all (C.keyIn ks) = true → CsRel en (cs.map (renC rn)) vs → CsRel en' cs vs
  | [], [], _, _ => trivial
  | [], _ :: _, _, h => h.elim
  | _ :: _, [], _, h => h.elim
  | c :: cs, v :: vs, hc, h => by
    simp only [List.all_cons, Bool.and_eq_true] at hc
    exact ⟨CRel.ren hw hB hM hβ hk hc.1 h.1, CsRel.ren hw hB hM hβ hk hc.2 h.2⟩

mutual
theorem FVRel.ren {en en' : En} {rn : List (Nat × Nat)} {ks : List Nat} (hw : en'.w = en.w) (hB : en'.B = en.B) (hM : ∀ b, en'.M b → en.M b) (hβ : ∀ k, en'.β k = en.β (ren rn k)) (hk : ∀ k ∈ ks, (en'.ob k).isSome = true) :
    ∀ (f : FV) (v : Value), f.keysIn ks = true → FVRel en (renF rn f) v → FVRel en' f v
  | .c x, v, hc, h => by simp only [renF, FVRel] at h ⊢; simp only [FV.keysIn] at hc; exact CRel.ren hw hB hM hβ hk hc h
  | .g xs, v, hc, h => by
    simp only [renF, FVRel] at h ⊢; simp only [FV.keysIn] at hc
    obtain ⟨vs, h1, h2⟩ := h; exact ⟨vs, h1, CsRel.ren hw hB hM hβ hk hc h2⟩
  | .t xs, v, hc, h => by
    simp only [renF, FVRel] at h ⊢; simp only [FV.keysIn] at hc
    obtain ⟨vs, h1, h2⟩ := h; exact ⟨vs, h1, FVsRel.ren hw hB hM hβ hk xs vs hc h2⟩
  | .und, v, _, h => by simpa only [renF, FVRel] using h
theorem FVsRel.ren {en en' : En} {rn : List (Nat × Nat)} {ks : List Nat} (hw : en'.w = en.w) (hB : en'.B = en.B) (hM : ∀ b, en'.M b → en.M b) (hβ : ∀ k, en'.β k = en.β (ren rn k)) (hk : ∀ k ∈ ks, (en'.ob k).isSome = true) :
    ∀ (f : List FV) (v : List Value), keysInFs ks f = true → FVsRel en (renFs rn f) v → FVsRel en' f v
  | [], v, _, h => by simpa only [renFs, FVsRel] using h
  | x :: xs, v, hc, h => by
    simp only [renFs, FVsRel] at h ⊢
    simp only [keysInFs, Bool.and_eq_true] at hc
    obtain ⟨u, q, h1, h2, h3⟩ := h
    exact ⟨u, q, h1, FVRel.ren hw hB hM hβ hk x u hc.1 h2, FVsRel.ren hw hB hM hβ hk xs q hc.2 h3⟩
end

theorem fitTm_lk {rn : List (Nat × Nat)} {ks : List Nat} {s : St} : ∀ {tm : List (Nat × FV)}, fitTm rn ks s tm → ∀ x f, lk tm x = some f → f.keysIn ks = true ∧ lk s.tm x = some (renF rn f)
  | [], _, x, f, h => by simp [lk] at h
  | (y, g) :: tm, hf, x, f, h => by
    rw [lk_cons] at h
    split at h
    · rename_i e; subst e
      simp only [Option.some.injEq] at h; subst h
      exact ⟨hf.1, hf.2.1⟩
    · exact fitTm_lk hf.2.2 x f h
theorem fitOb_lk {rn : List (Nat × Nat)} {ks : List Nat} {s : St} : ∀ {ob : List (Nat × Ob)}, fitOb rn ks s ob → ∀ k o, lk ob k = some o → o.keysIn ks = true ∧ o.live = true ∧ lk s.ob (ren rn k) = some (renO rn o)
  | [], _, x, f, h => by simp [lk] at h
  | (y, g) :: ob, hf, x, f, h => by
    rw [lk_cons] at h
    split at h
    · rename_i e; subst e
      simp only [Option.some.injEq] at h; subst h
      exact ⟨hf.1, hf.2.1, hf.2.2.1⟩
    · exact fitOb_lk hf.2.2.2 x f h

theorem lk_mem {α : Type} : ∀ {l : List (Nat × α)} {k : Nat} {o : α}, lk l k = some o → k ∈ l.map (·.1)
  | [], k, o, h => by simp [lk] at h
  | (j, x) :: l, k, o, h => by
    rw [lk_cons] at h
    split at h
    · rename_i e; subst e; simp
    · exact List.mem_cons_of_mem _ (lk_mem h)
theorem mem_lk {α : Type} : ∀ {l : List (Nat × α)} {k : Nat}, k ∈ l.map (·.1) → (lk l k).isSome = true
  | [], k, h => by simp at h
  | (j, x) :: l, k, h => by
    rw [lk_cons]
    split
    · rfl
    · rename_i e
      rcases List.mem_cons.1 h with h | h
      · exact absurd h.symm e
      · exact mem_lk h

theorem ren_inj {rn : List (Nat × Nat)} : ∀ {l : List (Nat × Ob)}, (l.map fun x => ren rn x.1).Nodup → ∀ k k', k ∈ l.map (·.1) → k' ∈ l.map (·.1) → ren rn k = ren rn k' → k = k'
  | [], _, k, k', h, _, _ => by simp at h
  | (j, x) :: l, hn, k, k', h, h', e => by
    simp only [List.map_cons] at hn h h'
    obtain ⟨n1, n2⟩ := List.nodup_cons.1 hn
    have hm : ∀ q, q ∈ l.map (·.1) → ren rn q ∈ l.map fun x => ren rn x.1 := by
      intro q hq
      obtain ⟨y, hy, rfl⟩ := List.mem_map.1 hq
      exact List.mem_map.2 ⟨y, hy, rfl⟩
    rcases List.mem_cons.1 h with h1 | h1 <;> rcases List.mem_cons.1 h' with h2 | h2
    · rw [h1, h2]
    · refine absurd ?_ n1
      rw [← h1, e]; exact hm k' h2
    · refine absurd ?_ n1
      rw [← h2, ← e]; exact hm k h1
    · exact ren_inj n2 k k' h1 h2 e

theorem Fit.rel (hw : w0.ok64) {rn : List (Nat × Nat)} {s t : St} (h : Fit rn s t) (R : Rel N w0 s a w β) : Rel N w0 t a w (fun k => β (ren rn k)) := by
  obtain ⟨h1, h2, h3, h4⟩ := h
  have hM : ∀ b, (t.en w w0.arg fun k => β (ren rn k)).M b → (s.en w w0.arg β).M b := by
    rintro b ⟨k, o, ho, hl, hb⟩
    obtain ⟨_, _, q3⟩ := fitOb_lk h2 k o ho
    exact ⟨ren rn k, renO rn o, q3, by cases o <;> simp_all [renO, Ob.live], hb⟩
  have hk : ∀ k ∈ t.ob.map (·.1), ((t.en w w0.arg fun k => β (ren rn k)).ob k).isSome = true := fun k hk => mem_lk hk
  have hfp : ∀ k o, lk t.ob k = some o → obFp (t.en w w0.arg fun k => β (ren rn k)) k = obFp (s.en w w0.arg β) (ren rn k) := by
    intro k o ho
    obtain ⟨_, _, q3⟩ := fitOb_lk h2 k o ho
    unfold obFp
    show (match lk t.ob k with | some (.var _) => _ | some (.mp _) => _ | some (.it _ _ _) => _ | some (.arr e s xs) => _ | _ => []) = (match lk s.ob (ren rn k) with | some (.var _) => _ | some (.mp _) => _ | some (.it _ _ _) => _ | some (.arr e s xs) => _ | _ => [])
    rw [ho, q3]
    cases o <;> rfl
  have hno : ∀ k, lk t.ob k = none → obFp (t.en w w0.arg fun k => β (ren rn k)) k = [] := by
    intro k hk
    unfold obFp
    show (match lk t.ob k with | some (.var _) => _ | some (.mp _) => _ | some (.it _ _ _) => _ | some (.arr e s xs) => _ | _ => []) = []
    rw [hk]
  refine ⟨R.sz, R.df, ?_, ?_, ?_, ?_, ?_, R.low, fun k c hk => ?_⟩
  · intro x f hf
    obtain ⟨q1, q2⟩ := fitTm_lk h1 x f hf
    exact FVRel.ren (en := s.en w w0.arg β) (en' := t.en w w0.arg fun k => β (ren rn k)) rfl rfl hM (fun _ => rfl) hk f _ q1 (R.tm x _ q2)
  · intro k o ho
    obtain ⟨q1, q2, q3⟩ := fitOb_lk h2 k o ho
    have hr := R.ob _ _ q3
    have K : Keeps w w (s.en w w0.arg β).M (t.en w w0.arg fun k => β (ren rn k)).M := ⟨Nat.le_refl _, fun _ _ _ => rfl, fun b hb => .inl (hM b hb)⟩
    cases o with
    | dead => trivial
    | var cs =>
      obtain ⟨g, cur, T, r1, r2, r3⟩ := hr
      exact ⟨g, cur, T, r1, r2, CsRel.ren (en := s.en w w0.arg β) (en' := t.en w w0.arg fun k => β (ren rn k)) rfl rfl hM (fun _ => rfl) hk q1 r3⟩
    | arr e z xs =>
      show OwnRel w w0.arg _ e z xs (β (ren rn k))
      exact OwnRel.step K (fun _ _ => rfl) hr
    | mp xs => exact hr
    | it m rem last =>
      obtain ⟨g, r, since, seen, st, r1, r2, r3, r4⟩ := hr
      exact ⟨g, r, since, seen, st, r1, r2, Rd.keep K _ _ r3, r4⟩
  · intro k
    cases ho : lk t.ob k with
    | none => rw [hno k ho]; exact List.nodup_nil
    | some o => rw [hfp k o ho]; exact R.nd _
  · intro k k' hne b hb hb'
    cases ho : lk t.ob k with
    | none => rw [hno k ho] at hb; cases hb
    | some o =>
      cases ho' : lk t.ob k' with
      | none => rw [hno k' ho'] at hb'; cases hb'
      | some o' =>
        rw [hfp k o ho] at hb
        rw [hfp k' o' ho'] at hb'
        exact R.dj _ _ (fun e => hne (ren_inj h3 k k' (lk_mem ho) (lk_mem ho') e)) b hb hb'
  · intro k b hb
    cases ho : lk t.ob k with
    | none => rw [hno k ho] at hb; cases hb
    | some o => rw [hfp k o ho] at hb; exact R.ge _ b hb
  · obtain ⟨q2, q3⟩ := R.fx k c hk
    obtain ⟨q4, q5⟩ := fitFix_lk h4 (hw k c hk) q2
    exact ⟨q5, by rw [q4]; exact q3⟩

theorem J.fit (hw : w0.ok64) {rn : List (Nat × Nat)} {s t : St} {Q : Exit → Act → World → Prop} {k : List It} (h : Fit rn s t) (hj : J P N w0 Q k t) : J P N w0 Q k s :=
  fun a w _ R => hj a w _ (h.rel hw R)

/-! ### loops -/

theorem cont_loop {Q : Exit → Act → World → Prop} {k : List It} {p : St → Prop} {e : Exit} {a : Act} {w : World} (h : cont P N w0 Q (.inv p :: k) e a w) :
    Exit.then (fun a w => ∃ s β, p s ∧ Rel N w0 s a w β) (cont P N w0 Q k) e a w := by
  cases e <;> simpa only [cont, Exit.then] using h

/-- The keys that the objects of a state have in another, as the slots tell. -/
def rnC : C → C → List (Nat × Nat)
  | .ob k', .ob k => [(k, k')]
  | .win k' _ _ _, .win k _ _ _ => [(k, k')]
  | .ref k' _, .ref k _ => [(k, k')]
  | .re k' _ _ _, .re k _ _ _ => [(k, k')]
  | _, _ => []
def rnCs : List C → List C → List (Nat × Nat)
  | c' :: cs', c :: cs => rnC c' c ++ rnCs cs' cs
  | _, _ => []
def rnF : FV → FV → List (Nat × Nat)
  | .c c', .c c => rnC c' c
  | .g cs', .g cs => rnCs cs' cs
  | _, _ => []
def rnTm (s : St) : List (Nat × FV) → List (Nat × Nat)
  | [] => []
  | (x, f) :: r => (match lk s.tm x with
    | some f' => rnF f' f
    | none => []) ++ rnTm s r
def rnOb (s : St) (rn : List (Nat × Nat)) : List (Nat × Ob) → List (Nat × Nat)
  | [] => []
  | (k, .var cs) :: r => (match lk s.ob (ren rn k) with
    | some (.var cs') => rnCs cs' cs
    | _ => []) ++ rnOb s rn r
  | _ :: r => rnOb s rn r
def autoRn (s t : St) : List (Nat × Nat) := rnTm s t.tm ++ rnOb s (rnTm s t.tm) t.ob

/-- The next round's state. -/
def Nxt {ι : Type} (inv : ι → St) (I : ι → Prop) (μ : ι → Nat) (i : ι) (s' : St) : Prop := ∃ i', I i' ∧ Fit (autoRn s' (inv i')) s' (inv i') ∧ μ i' < μ i
theorem Nxt.mk {ι : Type} {inv : ι → St} {I : ι → Prop} {μ : ι → Nat} {i : ι} {s' : St} (i' : ι) (h1 : I i') (h2 : Fit (autoRn s' (inv i')) s' (inv i')) (h3 : μ i' < μ i) : InvW (Nxt inv I μ i) s' := ⟨i', h1, h2, h3⟩

/-- A loop: a family of states, of which each round leads to one with a smaller measure. -/
theorem J.loop (hw : w0.ok64) {Q : Exit → Act → World → Prop} {c : Code} {k : List It} {ι : Type} (inv : ι → St) (I : ι → Prop) (μ : ι → Nat)
    (i0 : ι) (hi0 : I i0) (h0 : Fit (autoRn s (inv i0)) s (inv i0))
    (h : ∀ i, I i → J P N w0 Q (.code c :: .inv (Nxt inv I μ i) :: k) (inv i)) : J P N w0 Q (.code (.loop c) :: k) s := by
  intro a w β R
  simp only [cont]
  intro b kk cs
  have key : ∀ n i a w β, I i → μ i = n → Rel N w0 (inv i) a w β →
      ∃ e a' w', cont P N w0 Q k e a' w' ∧ Arrives P (lone (b.at a (.code c :: .inLoop c :: kk)) cs w) b kk cs e a' w' := by
    intro n
    induction n using Nat.strongRecOn with
    | _ n ih =>
      intro i a w β hIi hn hI
      have hr := h i hIi a w β hI
      simp only [cont] at hr
      obtain ⟨e, a₁, w₁, hq, harr⟩ := hr b (.inLoop c :: kk) cs
      have hq' := cont_loop hq
      cases e with
      | normal =>
        obtain ⟨s', β', ⟨i', hIi', hfit, hlt⟩, hR⟩ := hq'
        obtain ⟨e₂, a₂, w₂, hq₂, harr₂⟩ := ih (μ i') (hn ▸ hlt) i' a₁ w₁ _ hIi' rfl (hfit.rel hw hR)
        exact ⟨e₂, a₂, w₂, hq₂, .of_steps (Steps.trans harr (.one step_inLoop)) harr₂⟩
      | exit id => exact ⟨_, a₁, w₁, hq', .pass (x := .inLoop c) rfl (fun _ _ => .inl (by simp)) harr⟩
      | goto l => exact ⟨_, a₁, w₁, hq', .pass (x := .inLoop c) rfl (fun _ _ => .inl (by simp)) harr⟩
      | ret => exact ⟨_, a₁, w₁, hq', .pass (x := .inLoop c) rfl (fun _ _ => .inl (by simp)) harr⟩
      | panic ch => exact ⟨_, a₁, w₁, hq', .pass (x := .inLoop c) rfl (fun _ _ => .inl (by simp)) harr⟩
      | outgrown => exact ⟨_, a₁, w₁, hq', .pass (x := .inLoop c) rfl (fun _ _ => .inl (by simp)) harr⟩
  obtain ⟨e, a', w', hq, harr⟩ := key _ i0 a w _ hi0 rfl (h0.rel hw R)
  exact ⟨e, a', w', hq, .of_steps (.one step_loop) harr⟩

end Go.Sm
