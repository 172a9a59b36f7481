/- The quiet part of a drawn region, worked out. -/
import Derived.Test.YtihinogdolhjcaaSmX
namespace Go.Sm
open Go.RowKit

variable {w0 : Base} {s : St} {a : Act} {w : World} {β : Nat → Value}

theorem lk_cut_tm (b : List Nat) (s : St) (x : Nat) : lk (cut b s).tm x = if (!b.elem x) = true then lk s.tm x else none := lk_filter (fun y => !b.elem y) s.tm x
theorem lk_cut_ob (b : List Nat) (s : St) (x : Nat) : lk (cut b s).ob x = if (!b.elem (x / 64)) = true then lk s.ob x else none := lk_filter (fun y => !b.elem (y / 64)) s.ob x

/-- What may be read. -/
def tmB (b : List Nat) (s : St) (t : Nat) : Option FV := match b.elem t with
  | true => none
  | false => lk s.tm t
def opdB (b : List Nat) (s : St) : Operand → Option FV
  | .tmp t => tmB b s t
  | .const v => constFV v
  | .func f => some (.c (.d (.v (.func (.func f) #[] #[]))))
  | .global _ => none
def obB (b : List Nat) (s : St) (k : Nat) : Option Ob := match b.elem (k / 64) with
  | true => none
  | false => lk s.ob k
theorem tmB_eq (b : List Nat) (s : St) : lk (cut b s).tm = tmB b s := by
  funext t
  rw [lk_cut_tm, tmB]
  cases b.elem t <;> rfl
theorem obB_eq (b : List Nat) (s : St) : lk (cut b s).ob = obB b s := by
  funext t
  rw [lk_cut_ob, obB]
  cases b.elem (t / 64) <;> rfl
theorem opdB_eq (b : List Nat) (s : St) : (cut b s).opd = opdB b s := by
  funext x
  cases x with
  | tmp t => show lk (cut b s).tm t = tmB b s t; rw [tmB_eq]
  | _ => rfl

theorem DrS.ext {F : Fn} {Q : Exit → Act → World → Prop} {all : Array Oper} {k : List It} {m : Nat} : ∀ {os : List Oper} {bs : List (List Nat)} {i : Nat} {s s' : St}, (∀ t, lk s'.tm t = lk s.tm t) → (∀ k, lk s.ob k = lk s'.ob k) →
    DrS F w0 Q all k m bs i os s → DrS F w0 Q all k m bs i os s'
  | [], bs, i, s, s', ht, ho, h => by
    have h : J F.P F.N w0 (cont F.P F.N w0 Q k) [.ops all (all.toList.drop m)] s := by cases bs <;> simpa only [DrS] using h
    have h' : J F.P F.N w0 (cont F.P F.N w0 Q k) [.ops all (all.toList.drop m)] s' := fun a w β R => h a w β (R.ext (fun t => (ht t).symm) fun k => (ho k).symm)
    cases bs <;> simpa only [DrS] using h'
  | o :: os, [], i, s, s', ht, ho, h => by simp only [DrS] at h
  | o :: os, b :: bs, i, s, s', ht, ho, h => by
    simp only [DrS] at h ⊢
    obtain ⟨d, v, ns, h1, h2, h3, h4, h5, h6⟩ := h
    refine ⟨d, v, ns, h1, h2, ?_, h4, ?_, DrS.ext ?_ ?_ h6⟩
    · obtain ⟨f1, f2⟩ := freshOs_iff.1 h3
      exact freshOs_iff.2 ⟨fun k hk => by rw [← ho]; exact f1 k hk, f2⟩
    · intro s2 a w β K R l1 l2 fr nx
      refine h5 s2 a w β K R ?_ ?_ fr nx
      · intro x f hx; exact l1 x f (by rw [lk_cut_tm] at hx ⊢; rw [ht]; exact hx)
      · intro x f hx; exact l2 x f (by rw [lk_cut_ob] at hx ⊢; rw [← ho]; exact hx)
    · intro t; simp only [lk_cons, ht]
    · intro t; simp only [lk_append, ho]

/-- A call in the quiet part. -/
def DrC (F : Fn) (w0 : Base) (Q : Exit → Act → World → Prop) (all : Array Oper) (k : List It) (m : Nat) (bs : List (List Nat)) (i : Nat) (os : List Oper) (s : St) (b : List Nat) (d f : Nat) (fs : List FV) : Prop :=
  ∃ args q, argsR (obB b s) fs = some args ∧ CallOK F.P f args q ∧ freshOs s.ob (impOs (d * 64) (cellsR q)) = true ∧ nsOk d (impOs (d * 64) (cellsR q)) = true ∧
    DrS F w0 Q all k m bs i os ⟨(d, impF (d * 64) q) :: s.tm, impOs (d * 64) (cellsR q) ++ s.ob⟩

def dr (F : Fn) (w0 : Base) (Q : Exit → Act → World → Prop) (all : Array Oper) (k : List It) (m : Nat) : List (List Nat) → Nat → List Oper → St → Prop
  | _, _, [], s => J F.P F.N w0 Q (.ops all (all.toList.drop m) :: k) s
  | [], _, _ :: _, _ => False
  | b :: bs, i, o :: os, s =>
    let go (s : St) : Prop := match o.dst with
      | some d => Nat.blt d F.N = true ∧ match ev F.T F.E (opdB b s) (obB b s) (d * 64) o.type o.op with
        | .q p v ns => p ∧ freshOs s.ob ns = true ∧ nsOk d ns = true ∧ dr F w0 Q all k m bs (i + 1) os ⟨(d, v) :: s.tm, ns ++ s.ob⟩
        | .el xs j => (0 ≤ j ∧ j < xs.length) ∧ Later (∀ e, xs[j.toNat]? = some e → dr F w0 Q all k m bs (i + 1) os ⟨(d, .c (.rd e)) :: s.tm, s.ob⟩)
        | .ld xs j j' size agg => j < xs.length ∧ Later (∀ e, xs[j]? = some e → dr F w0 Q all k m bs (i + 1) os ⟨(d, ldV e j' size agg) :: s.tm, s.ob⟩)
        | .call f fs => DrC F w0 Q all k m bs (i + 1) os s b d f fs
        | _ => False
      | none => False
    match o.guard with
    | none => go s
    | some (j, want) => match (all[j]?).bind (·.dst), o.dst with
      | some d, some d' => Nat.blt d' F.N = true ∧ match tmB b s d with
        | some (.c (.d (.v (.bool x)))) => br x want (go ⟨(d, .c (.d (.v (.bool want)))) :: s.tm, s.ob⟩)
            (dr F w0 Q all k m bs (i + 1) os ⟨(d', .und) :: (d, .c (.d (.v (.bool (!want))))) :: s.tm, s.ob⟩)
        | some .und => dr F w0 Q all k m bs (i + 1) os ⟨(d', .und) :: s.tm, s.ob⟩
        | _ => False
      | _, _ => False

theorem argF_mono {ob ob' : Nat → Option Ob} (ho : Le ob ob') {f : FV} {r : RV} (h : argF ob f = some r) : argF ob' f = some r := by
  have hC : ∀ {c : C} {d : D}, argC ob c = some d → argC ob' c = some d := by
    intro c d h
    unfold argC at h ⊢
    split at h
    · exact h
    · rename_i k
      cases hk : ob k with
      | none => simp [hk] at h
      | some o => rw [hk] at h; rw [ho _ _ hk]; exact h
    · rename_i k z lo n
      cases hk : ob k with
      | none => simp [hk] at h
      | some o => rw [hk] at h; rw [ho _ _ hk]; exact h
    · cases h
  have hCs : ∀ {cs : List C} {ds : List D}, argCs' ob cs = some ds → argCs' ob' cs = some ds := by
    intro cs
    induction cs with
    | nil => intro ds h; exact h
    | cons c cs ih =>
      intro ds h
      simp only [argCs'] at h ⊢
      cases hc : argC ob c with
      | none => simp [hc] at h
      | some d =>
        cases hcs : argCs' ob cs with
        | none => simp [hc, hcs] at h
        | some ds' => rw [hc, hcs] at h; rw [hC hc, ih hcs]; exact h
  unfold argF at h ⊢
  split at h
  · rename_i x
    cases hx : argC ob x with
    | none => simp [hx] at h
    | some d => rw [hx] at h; rw [hC hx]; exact h
  · rename_i xs
    cases hx : argCs' ob xs with
    | none => simp [hx] at h
    | some d => rw [hx] at h; rw [hCs hx]; exact h
  · cases h

theorem argsR_mono {ob ob' : Nat → Option Ob} (ho : Le ob ob') : ∀ {fs : List FV} {rs : List RV}, argsR ob fs = some rs → argsR ob' fs = some rs
  | [], _, h => h
  | f :: fs, rs, h => by
    simp only [argsR] at h ⊢
    cases hc : argF ob f with
    | none => simp [hc] at h
    | some d =>
      cases hcs : argsR ob fs with
      | none => simp [hc, hcs] at h
      | some ds' => rw [hc, hcs] at h; rw [argF_mono ho hc, argsR_mono ho hcs]; exact h

theorem opd_mono {s t : St} (h : Le (lk t.tm) (lk s.tm)) : ∀ x f, t.opd x = some f → s.opd x = some f := by
  intro x f hx
  cases x with
  | tmp t => exact h _ _ hx
  | _ => exact hx

/-- One operation that is wanted. -/
theorem core {F : Fn} (hF : FnOk F) {o : Oper} {d : Nat} (hd : o.dst = some d) (hlt : d < F.N) {t : St} {r : Ev} (he : ev F.T F.E t.opd (lk t.ob) (d * 64) o.type o.op = r) {v : FV} {ns : List (Nat × Ob)}
    (hr : (∃ p, r = .q p v ns ∧ p) ∨ (∃ xs j e, r = .el xs j ∧ (0 ≤ j ∧ j < xs.length) ∧ xs[j.toNat]? = some e ∧ v = .c (.rd e) ∧ ns = []) ∨
      (∃ xs j j' size agg e, r = .ld xs j j' size agg ∧ xs[j]? = some e ∧ v = ldV e j' size agg ∧ ns = []) ∨
      (∃ f fs args q, r = .call f fs ∧ argsR (lk t.ob) fs = some args ∧ CallOK F.P f args q ∧ v = impF (d * 64) q ∧ ns = impOs (d * 64) (cellsR q)))
    {s : St} {a : Act} {w : World} {β : Nat → Value} {K : Act → World → Prop} {Q : Exit → Act → World → Prop} (R : Rel F.N w0 s a w β) (h1 : Le (lk t.tm) (lk s.tm)) (h2 : Le (lk t.ob) (lk s.ob)) (hfr : freshOs s.ob ns = true)
    (hK : ∀ a' w' β', Rel F.N w0 ⟨(d, v) :: s.tm, ns ++ s.ob⟩ a' w' β' → K a' w') : o.wp F.P a w K Q := by
  have he' : r ≠ .fail → ev F.T F.E s.opd (lk s.ob) (d * 64) o.type o.op = r := ev_mono (opd_mono h1) h2 he
  unfold Oper.wp
  rcases hr with ⟨p, rfl, hp⟩ | ⟨xs, j, e, rfl, hj, hx, rfl, rfl⟩ | ⟨xs, j, j', size, agg, e, rfl, hx, rfl, rfl⟩ | ⟨f, fs, args, q, rfl, ha, hc, rfl, rfl⟩
  · obtain ⟨val, w', β', r1, r2, r3⟩ := ev_q hF.T hF.E R (he' (by simp)) hp hfr
    rw [r1, Oper.upon_value, hd]
    exact hK _ _ _ (r2.setTm hlt r3)
  · obtain ⟨val, r1, r2⟩ := ev_el hF.T R (he' (by simp)) hj
    rw [r1, Oper.upon_value, hd]
    exact hK _ _ _ (R.setTm hlt (r2 _ hx))
  · obtain ⟨val, r1, r2⟩ := ev_ld hF.T R (he' (by simp)) hx
    rw [r1, Oper.upon_value, hd]
    exact hK _ _ _ (R.setTm hlt r2)
  · obtain ⟨vs, r1, r2⟩ := ev_call R (he' (by simp)) hc.1
    rw [r1, Oper.upon_enter]
    refine Calls.mono (hc.2 w vs (argsR_sound R (argsR_mono h2 ha) r2)) fun e w' ⟨v, hv, hown, hb⟩ => ?_
    subst hv
    obtain ⟨us, q1, q2, q3, q4, q5⟩ := hown
    obtain ⟨β', g1, g2⟩ := R.import hb hfr q2 q3 q4 q5
    rw [hd]
    exact hK _ _ _ (g1.setTm hlt (impF_rel q1 g2))

theorem nsOk_nil (d : Nat) : nsOk d [] = true := rfl

theorem dr_sound {F : Fn} (hF : FnOk F) {Q : Exit → Act → World → Prop} {all : Array Oper} {k : List It} {m : Nat} : ∀ {os : List Oper} {bs : List (List Nat)} {i : Nat} {s : St}, (∀ j o, os[j]? = some o → all[i + j]? = some o) →
    dr F w0 Q all k m bs i os s → DrS F w0 Q all k m bs i os s
  | [], bs, i, s, _, h => by
    have h : J F.P F.N w0 Q (.ops all (all.toList.drop m) :: k) s := by cases bs <;> simpa only [dr] using h
    have h' : J F.P F.N w0 (cont F.P F.N w0 Q k) [.ops all (all.toList.drop m)] s := by
      intro a w β R
      have := h a w β R
      simp only [cont] at this ⊢
      exact this
    cases bs <;> simpa only [DrS] using h'
  | o :: os, [], i, s, _, h => by simp only [dr] at h
  | o :: os, b :: bs, i, s, hall, h => by
    have hi : all[i]? = some o := by simpa using hall 0 o rfl
    have hall' : ∀ j o, os[j]? = some o → all[i + 1 + j]? = some o := fun j o' h => by
      rw [show i + 1 + j = i + (j + 1) by omega]; exact hall (j + 1) o' (by simpa using h)
    -- one operation that is carried out, in the state s'
    have go : ∀ {s' : St}, (∀ {v : FV} {ns : List (Nat × Ob)} {d : Nat}, o.dst = some d → (∀ s a w β (K : Act → World → Prop), Rel F.N w0 s a w β → Le (lk (cut b s').tm) (lk s.tm) → Le (lk (cut b s').ob) (lk s.ob) → freshOs s.ob ns = true →
          (∀ a' w' β', Rel F.N w0 ⟨(d, v) :: s.tm, ns ++ s.ob⟩ a' w' β' → K a' w') → o.wp F.P a w K (cont F.P F.N w0 Q k)) → GoodOp F w0 (cont F.P F.N w0 Q k) all i (cut b s') d v ns) →
        (match o.dst with
      | some d => Nat.blt d F.N = true ∧ match ev F.T F.E (cut b s').opd (lk (cut b s').ob) (d * 64) o.type o.op with
        | .q p v ns => p ∧ freshOs s'.ob ns = true ∧ nsOk d ns = true ∧ dr F w0 Q all k m bs (i + 1) os ⟨(d, v) :: s'.tm, ns ++ s'.ob⟩
        | .el xs j => (0 ≤ j ∧ j < xs.length) ∧ (∀ e, xs[j.toNat]? = some e → dr F w0 Q all k m bs (i + 1) os ⟨(d, .c (.rd e)) :: s'.tm, s'.ob⟩)
        | .ld xs j j' size agg => j < xs.length ∧ (∀ e, xs[j]? = some e → dr F w0 Q all k m bs (i + 1) os ⟨(d, ldV e j' size agg) :: s'.tm, s'.ob⟩)
        | .call f fs => DrC F w0 Q all k m bs (i + 1) os s' b d f fs
        | _ => False
      | none => False) → DrS F w0 Q all k m (b :: bs) i (o :: os) s' := by
      intro s' hgood h
      cases hd : o.dst with
      | none => rw [hd] at h; exact h.elim
      | some d =>
        rw [hd] at h
        obtain ⟨hlt, h⟩ := h
        have hlt : d < F.N := by simpa [Nat.blt_eq] using hlt
        simp only [DrS]
        split at h
        · rename_i p v ns he
          obtain ⟨hp, hf, hn, h⟩ := h
          exact ⟨d, v, ns, hd, hlt, hf, hn, hgood hd fun s a w β K R l1 l2 f n => core hF hd hlt he (.inl ⟨p, rfl, hp⟩) R l1 l2 f n, dr_sound hF hall' h⟩
        · rename_i xs j he
          obtain ⟨hj, h⟩ := h
          have hx : xs[j.toNat]? = some (xs[j.toNat]'(by omega)) := by simp
          exact ⟨d, _, [], hd, hlt, rfl, nsOk_nil d, hgood hd fun s a w β K R l1 l2 f n => core hF hd hlt he (.inr (.inl ⟨xs, j, _, rfl, hj, hx, rfl, rfl⟩)) R l1 l2 f n, dr_sound hF hall' (h _ hx)⟩
        · rename_i xs j j' size agg he
          obtain ⟨hj, h⟩ := h
          have hx : xs[j]? = some (xs[j]'hj) := by simp
          exact ⟨d, _, [], hd, hlt, rfl, nsOk_nil d, hgood hd fun s a w β K R l1 l2 f n => core hF hd hlt he (.inr (.inr (.inl ⟨xs, j, j', size, agg, _, rfl, hx, rfl, rfl⟩))) R l1 l2 f n, dr_sound hF hall' (h _ hx)⟩
        · rename_i f fs he
          obtain ⟨args, q, g1, g2, g3, g4, g5⟩ := h
          rw [← obB_eq] at g1
          exact ⟨d, _, _, hd, hlt, g3, g4, hgood hd fun s a w β K R l1 l2 f n => core hF hd hlt he (.inr (.inr (.inr ⟨_, _, args, q, rfl, g1, g2, rfl, rfl⟩))) R l1 l2 f n, g5⟩
        · exact h.elim
    simp only [dr, ← opdB_eq, ← obB_eq, ← tmB_eq] at h
    cases hg : o.guard with
    | none =>
      rw [hg] at h
      refine go (fun {v ns d} hd hc => ?_) h
      intro s2 a w β K R l1 l2 fr nx
      have hw : Region.wanted o (yielded all a.tmps) = true := by simp [Region.wanted, hg]
      simp only [wpOp, hi, if_pos hw]
      exact .inl (hc s2 a w β K R l1 l2 fr nx)
    | some g =>
      obtain ⟨j, want⟩ := g
      rw [hg] at h
      simp only at h
      split at h
      · rename_i dj d' hj hd'
        obtain ⟨hlt, h⟩ := h
        have hlt : d' < F.N := by simpa [Nat.blt_eq] using hlt
        have ext1 : ∀ {x : Bool}, lk (cut b s).tm dj = some (.c (.d (.v (.bool x)))) → ∀ t, lk s.tm t = lk ((dj, FV.c (.d (.v (.bool x)))) :: s.tm) t := by
          intro x hx t
          rw [lk_cut_tm] at hx
          split at hx
          · rw [lk_cons]
            split
            · rename_i e; rw [← e]; exact hx
            · rfl
          · cases hx
        have wantd : ∀ {x : Bool} {s2 : St} {a : Act} {w : World} {β : Nat → Value}, lk (cut b s).tm dj = some (.c (.d (.v (.bool x)))) → Rel F.N w0 s2 a w β → Le (lk (cut b s).tm) (lk s2.tm) →
            Region.wanted o (yielded all a.tmps) = (x == want) := by
          intro x s2 a w β hx R l
          have hv := bool_rel (R.tm dj _ (l _ _ hx))
          have hy := yielded_bool hj hv
          simp only [Region.wanted, hg, hy]
          cases x <;> cases want <;> rfl
        split at h
        · rename_i x hx
          have lecut : ∀ {c : Bool}, x = c → ∀ t, lk (cut b ⟨(dj, .c (.d (.v (.bool c)))) :: s.tm, s.ob⟩).tm t = lk (cut b s).tm t := by
            intro c e t
            rw [lk_cut_tm, lk_cut_tm, ← e]
            split
            · exact (ext1 hx t).symm
            · rfl
          by_cases hxw : x = want
          · have := go (s' := ⟨(dj, .c (.d (.v (.bool want)))) :: s.tm, s.ob⟩) (fun {v ns d} hd hc => ?_) (h.1 hxw)
            · have e1 := ext1 hx
              rw [hxw] at e1
              exact @DrS.ext w0 F Q all k m (o :: os) (b :: bs) i ⟨(dj, .c (.d (.v (.bool want)))) :: s.tm, s.ob⟩ s e1 (fun _ => rfl) this
            · intro s2 a w β K R l1 l2 fr nx
              have l1' : Le (lk (cut b s).tm) (lk s2.tm) := fun t f ht => l1 t f (by rw [lecut hxw]; exact ht)
              have hw := wantd hx R l1'
              rw [hxw] at hw
              simp only [wpOp, hi]
              rw [if_pos (by rw [hw]; cases want <;> rfl)]
              exact .inl (hc s2 a w β K R l1 l2 fr nx)
          · have hxn : x = (!want) := by cases x <;> cases want <;> first | rfl | exact absurd rfl hxw
            have h2 := dr_sound hF hall' (h.2 hxn)
            simp only [DrS]
            refine ⟨d', .und, [], hd', hlt, rfl, nsOk_nil d', ?_, @DrS.ext w0 F Q all k m os bs (i + 1) ⟨(d', .und) :: (dj, .c (.d (.v (.bool (!want))))) :: s.tm, s.ob⟩ ⟨(d', .und) :: s.tm, s.ob⟩ (fun t => ?_) (fun _ => rfl) h2⟩
            · intro s2 a w β K R l1 l2 fr nx
              have hw := wantd hx R l1
              simp only [wpOp, hi]
              rw [if_neg (by rw [hw, hxn]; cases want <;> simp), hd']
              exact nx _ _ _ (R.setTm hlt (by simp only [FVRel]))
            · simp only [lk_cons]
              split
              · rfl
              · have := ext1 hx t
                rw [hxn, lk_cons] at this
                exact this
        · rename_i hx
          have h2 := dr_sound hF hall' h
          simp only [DrS]
          refine ⟨d', .und, [], hd', hlt, rfl, nsOk_nil d', ?_, h2⟩
          intro s2 a w β K R l1 l2 fr nx
          have hv := R.tm dj _ (l1 _ _ hx)
          simp only [FVRel] at hv
          have hy := yielded_undef hj hv
          simp only [wpOp, hi]
          rw [if_neg (by simp [Region.wanted, hg, hy]), hd']
          exact nx _ _ _ (R.setTm hlt (by simp only [FVRel]))
        · exact h.elim
      · exact h.elim

/-- A call in the quiet part; what is left of it is worked out from the state behind. -/
theorem DrC.ok {F : Fn} (hF : FnOk F) {Q : Exit → Act → World → Prop} {all : Array Oper} {k : List It} {m : Nat} {bs : List (List Nat)} {i : Nat} {os : List Oper} {b : List Nat} {d f : Nat} {fs : List FV} {args : List RV} {q : RV}
    (hall : (all.toList.drop i).take os.length = os) (ha : argsR (obB b s) fs = some args) (hc : CallOK F.P f args q) (hfr : freshOs s.ob (impOs (d * 64) (cellsR q)) = true)
    (hns : nsOk d (impOs (d * 64) (cellsR q)) = true) (hj : dr F w0 Q all k m bs i os ⟨(d, impF (d * 64) q) :: s.tm, impOs (d * 64) (cellsR q) ++ s.ob⟩) : DrC F w0 Q all k m bs i os s b d f fs := by
  refine ⟨args, q, ha, hc, hfr, hns, dr_sound hF (fun j o ho => ?_) hj⟩
  rw [← hall, List.getElem?_take] at ho
  split at ho
  · rw [List.getElem?_drop] at ho
    simpa using ho
  · cases ho

theorem J.dr {F : Fn} (hF : FnOk F) {Q : Exit → Act → World → Prop} {id : Nat} {ops : Array Oper} {k : List It} (hmix : F.P.follows .mixedOrders = true) (m : Nat) (rows bs : List (List Nat)) (hok : drawOk ops.toList m rows bs = true)
    (h : dr F w0 Q ops k m bs 0 (ops.toList.take m) s) : J F.P F.N w0 Q (.code (.region id ops true) :: k) s := by
  refine J.draw hmix m rows bs hok (dr_sound hF (fun j o ho => ?_) h)
  rw [List.getElem?_take] at ho
  split at ho
  · simpa using ho
  · cases ho

end Go.Sm
