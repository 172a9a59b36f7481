/- Maps whose keys are arrays of integers, in the symbolic state: look-ups, stores, walks. -/
import Derived.Test.YtihinogdolhjcaaSmK
namespace Go.Sm
open Go.RowKit

variable {P : Program} {N : Nat} {w0 : Base} {s : St} {a : Act} {w : World} {β : Nat → Value}

/-! ### as pure data -/
def mpIdx : List (List Int × Value) → List Int → Nat → Option (Nat × Value)
  | [], _, _ => none
  | p :: ps, k, i => if k == p.1 then some (i, p.2) else mpIdx ps k (i + 1)
def mpGet (xs : List (List Int × Value)) (k : List Int) : Option Value := (mpIdx xs k 0).map (·.2)
def mpAt (xs : List (List Int × Value)) (k : List Int) : Nat := ((mpIdx xs k 0).map (·.1)).getD xs.length
def mpPut (xs : List (List Int × Value)) (k : List Int) (v : Value) : List (List Int × Value) :=
  match mpIdx xs k 0 with
  | some (i, _) => xs.set i (k, v)
  | none => xs ++ [(k, v)]
def mpTouch (xs : List (List Int × Value)) (k : List Int) (z : Value) : List (List Int × Value) :=
  match mpIdx xs k 0 with
  | some _ => xs
  | none => xs ++ [(k, z)]
def mpSetAt (xs : List (List Int × Value)) (i : Nat) (v : Value) : List (List Int × Value) := xs.modify i fun p => (p.1, v)

theorem mpIdx_some : ∀ {xs : List (List Int × Value)} {k : List Int} {i j : Nat} {v : Value}, mpIdx xs k i = some (j, v) → i ≤ j ∧ xs[j - i]? = some (k, v)
  | [], k, i, j, v, h => by simp [mpIdx] at h
  | p :: ps, k, i, j, v, h => by
    simp only [mpIdx] at h
    split at h
    · rename_i e
      simp only [Option.some.injEq, Prod.mk.injEq] at h
      obtain ⟨rfl, rfl⟩ := h
      have : k = p.1 := by simpa using e
      subst this
      exact ⟨Nat.le_refl _, by simp⟩
    · obtain ⟨h1, h2⟩ := mpIdx_some h
      refine ⟨by omega, ?_⟩
      rw [show j - i = (j - (i + 1)) + 1 by omega]
      simpa using h2
theorem mpIdx_none : ∀ {xs : List (List Int × Value)} {k : List Int} {i : Nat}, mpIdx xs k i = none → ∀ p ∈ xs, p.1 ≠ k
  | [], k, i, _, p, hp => by cases hp
  | q :: ps, k, i, h, p, hp => by
    simp only [mpIdx] at h
    split at h
    · cases h
    · rename_i e
      rcases List.mem_cons.1 hp with rfl | hp
      · intro e'; rw [e'] at e; simp at e
      · exact mpIdx_none h p hp

theorem eqVs_ints (kk : IntKind) : ∀ (xs ys : List Int), xs.length = ys.length → eqVs (xs.map fun n => Value.int kk n) (ys.map fun n => Value.int kk n) = some (xs == ys)
  | [], [], _ => rfl
  | [], _ :: _, h => by simp at h
  | _ :: _, [], h => by simp at h
  | x :: xs, y :: ys, h => by
    simp only [List.map_cons, eqVs, decide_true, eqVs_ints kk xs ys (by simpa using h)]
    rfl

/-- A key's type: an array. -/
def ArrTy (P : Program) (t : TypeId) : Prop := ∃ n e, P.underlying t = some (.array n e)

theorem ents_length (m : MD) : m.ents.length = m.xs.length := by simp [MD.ents]
theorem ents_get (m : MD) (i : Nat) : m.ents[i]? = (m.xs[i]?).map fun p => ⟨MD.keyV m.kk p.1, p.2, i⟩ := by
  unfold MD.ents
  rw [List.getElem?_map, List.getElem?_zipIdx]
  cases m.xs[i]? <;> simp

theorem run_findAsking {t : TypeId} {kn : Nat} (h : EqOk P t kn) (kk : IntKind) (k : List Int) (hk : k.length = kn) (w : World) : ∀ (xs : List (List Int × Value)) (i : Nat), (∀ p ∈ xs, p.1.length = kn) →
    (Instr.findAsking t (MD.keyV kk k) ((xs.zipIdx i).map fun p => ⟨MD.keyV kk p.1.1, p.1.2, p.2⟩) i).run P w = .ok (mpIdx xs k i) w
  | [], i, _ => by simp [Instr.findAsking, mpIdx]
  | p :: ps, i, hl => by
    have he := h.2.1 w (k.map fun n => Value.int kk n) (p.1.map fun n => Value.int kk n) _ (by simpa using hk) (eqVs_ints kk k p.1 (by rw [hk, hl p (List.mem_cons_self ..)]))
    have ih := run_findAsking h kk k hk w ps (i + 1) fun q hq => hl q (List.mem_cons_of_mem _ hq)
    simp only [List.zipIdx_cons, List.map_cons, Instr.findAsking, Sem.run_bind, MD.keyV] at he ih ⊢
    rw [he]
    simp only [Result.andThen_ok, mpIdx, Sem.run_ite]
    split
    · simp
    · exact ih

theorem run_findKey' {t : TypeId} {kn : Nat} (h : EqOk P t kn) (ha : ArrTy P t) (m : MD) (hm : ∀ p ∈ m.xs, p.1.length = kn) (k : List Int) (hk : k.length = kn) (w : World) :
    (Instr.findKey t (MD.keyV m.kk k) m.ents).run P w = .ok (mpIdx m.xs k 0) w := by
  obtain ⟨n, e, hu⟩ := ha
  unfold Instr.findKey
  simp only [Sem.run_bind, run_underlying hu, Result.andThen_ok]
  cases hx : m.ents with
  | nil =>
    have : m.xs = [] := by
      have := ents_length m; rw [hx] at this; simpa using this.symm
    simp [Instr.findNow, this, mpIdx]
  | cons x xs =>
    have hf : Instr.findNow (.array n e) (MD.keyV m.kk k) (x :: xs) 0 = none := by
      simp only [Instr.findNow, Instr.sameNow]
    rw [hf]
    simp only
    rw [← hx]
    exact run_findAsking h m.kk k hk w m.xs 0 hm

theorem run_checkKey' {t : TypeId} {kn : Nat} (h : EqOk P t kn) (kk : IntKind) (k : List Int) (hk : k.length = kn) (e : Bool) (w : World) : (Instr.checkKey e 10000 t (MD.keyV kk k)).run P w = .ok () w :=
  h.2.2 e w kk k hk

theorem sameBits_key (n : Nat) (kk : IntKind) (k : List Int) : Instr.sameBits (n + 2) (MD.keyV kk k) (MD.keyV kk k) = true := by
  unfold MD.keyV
  simp only [Instr.sameBits, beq_self_eq_true, Bool.true_and]
  induction k with
  | nil => rfl
  | cons x xs ih =>
    simp only [List.map_cons, List.zip_cons_cons, List.all_cons, ih, Bool.and_true]
    simp [Instr.sameBits]

theorem run_keyThatStays' (kk : IntKind) (k : List Int) (w : World) : (Instr.keyThatStays (MD.keyV kk k) (MD.keyV kk k)).run P w = .ok (MD.keyV kk k) w := by
  unfold Instr.keyThatStays
  rw [if_pos (sameBits_key 9998 kk k)]
  rfl

/-! ### memory -/
def World.setOb (w : World) (r : Nat) (o : Obj) : World := { w with heap := w.heap.setIfInBounds r o }
theorem setOb_size (w : World) (r : Nat) (o : Obj) : (World.setOb w r o).heap.size = w.heap.size := by simp [World.setOb]
theorem setOb_self (w : World) (r : Nat) (o : Obj) (h : r < w.heap.size) : (World.setOb w r o).heap[r]? = some o := by simp [World.setOb, h]
theorem setOb_ne (w : World) {r b : Nat} (o : Obj) (h : b ≠ r) : (World.setOb w r o).heap[b]? = w.heap[b]? := by
  simp only [World.setOb]
  exact Array.getElem?_setIfInBounds_ne (Ne.symm h)

/-- One live object's block is laid anew: a variable's, a map's or a walk's. -/
theorem Rel.setObj (R : Rel N w0 s a w β) {k g : Nat} {o o' : Ob} {ob : Obj} (ho : lk s.ob k = some o) (hl : o.live = true) (hβ : blk (β k) = some g)
    (hfp : obFp (St.en ⟨s.tm, (k, o') :: s.ob⟩ (World.setOb w g ob) w0.arg β) k = [g])
    (hrel : Step (s.en w w0.arg β) (St.en ⟨s.tm, (k, o') :: s.ob⟩ (World.setOb w g ob) w0.arg β) → ObRel (St.en ⟨s.tm, (k, o') :: s.ob⟩ (World.setOb w g ob) w0.arg β) k o') :
    Rel N w0 ⟨s.tm, (k, o') :: s.ob⟩ a (World.setOb w g ob) β := by
  have hgk := R.live_block ho hl hβ
  have S : Step (s.en w w0.arg β) (St.en ⟨s.tm, (k, o') :: s.ob⟩ (World.setOb w g ob) w0.arg β) := by
    refine ⟨rfl, ⟨by simp [St.en, setOb_size], fun b hb hm => ?_, ?_⟩, ?_⟩
    · refine setOb_ne w _ ?_
      intro e; subst e; exact hm ⟨k, o, ho, hl, hβ⟩
    · rintro b ⟨j, o'', hj, hl'', hb⟩
      simp only [St.en, lk_cons] at hj hb
      split at hj
      · rename_i e; subst e; exact .inl ⟨k, o, ho, hl, hb⟩
      · exact .inl ⟨j, o'', hj, hl'', hb⟩
    · intro j hj
      simp only [St.en, lk_cons] at hj ⊢
      split
      · exact ⟨rfl, trivial⟩
      · exact ⟨hj, trivial⟩
  have hlow : w0.mine g := R.ge k g hgk
  refine R.update S ?_ [k] ?_ ?_ ?_ ?_ R.sz R.df (R.tm_step rfl S)
  · exact ⟨rfl, rfl, rfl, by simp [setOb_size], fun b hb => setOb_ne w _ (by rintro rfl; exact hlow.elim (fun h => Nat.lt_irrefl _ (Nat.lt_of_lt_of_le hb.1 h)) hb.2), Nat.le_refl _⟩
  · intro j hj
    simp only [List.mem_singleton] at hj
    refine ⟨by simp only [lk_cons]; rw [if_neg (Ne.symm hj)], fun o'' ho'' hl'' b hb => setOb_ne w _ ?_⟩
    intro e; subst e
    exact R.dj k j (Ne.symm hj) b hgk (R.live_block ho'' hl'' hb)
  · intro j hj o'' ho''
    simp only [List.mem_singleton] at hj; subst hj
    simp only [lk_cons_self, Option.some.injEq] at ho''; subst ho''
    exact hrel S
  · intro j hj
    simp only [List.mem_singleton] at hj; subst hj
    rw [hfp]; simp
  · intro j hj b hb
    simp only [List.mem_singleton] at hj; subst hj
    rw [hfp] at hb
    simp only [List.mem_singleton] at hb; subst hb
    refine ⟨hlow, fun j' hj' => R.dj j j' (fun e => hj' (by simp [e])) b hgk, fun j' hj' hne => ?_⟩
    simp only [List.mem_singleton] at hj'; exact absurd hj' hne

theorem Rel.setMap (R : Rel N w0 s a w β) {k r : Nat} {m m' : MD} {es : Array MapEntry} {clock : Nat} (ho : lk s.ob k = some (.mp m)) (hβ : β k = .map (some r)) (hlt : r < w.heap.size) (hok : MapOk es clock m') :
    Rel N w0 ⟨s.tm, (k, .mp m') :: s.ob⟩ a (World.setOb w r (.map es clock)) β := by
  refine R.setObj ho rfl (by rw [hβ]; rfl) ?_ fun _ => ⟨r, es, clock, hβ, setOb_self w r _ hlt, hok⟩
  rw [obFp_mp (lk_cons_self _ _ _)]
  show (blk (β k)).toList = _
  rw [hβ]; rfl

/-- A new block for a new map or walk. -/
theorem Rel.addOb (R : Rel N w0 s a w β) {k : Nat} {o : Ob} {ob : Obj} {v : Value} (hk : lk s.ob k = none) (hb : blk v = some w.heap.size)
    (hfp : obFp (St.en ⟨s.tm, (k, o) :: s.ob⟩ (w.alloc ob) w0.arg (upd β k v)) k = [w.heap.size])
    (hrel : Step (s.en w w0.arg β) (St.en ⟨s.tm, (k, o) :: s.ob⟩ (w.alloc ob) w0.arg (upd β k v)) → ObRel (St.en ⟨s.tm, (k, o) :: s.ob⟩ (w.alloc ob) w0.arg (upd β k v)) k o) :
    Rel N w0 ⟨s.tm, (k, o) :: s.ob⟩ a (w.alloc ob) (upd β k v) := by
  have S := stepAlloc (o := o) R hk ob v (by rw [hb]; rintro b h; exact (Option.some.inj h).symm)
  refine R.update S (Low.of ((Bel.refl _ _).alloc R.base_le _)) [k] ?_ ?_ ?_ ?_ R.sz R.df (R.tm_step rfl S)
  · intro j hj
    simp only [List.mem_singleton] at hj
    refine ⟨by simp only [lk_cons]; rw [if_neg (Ne.symm hj)], fun o ho hl b hb => heap_alloc_old w _ b ?_⟩
    exact obFp_lt (en := s.en w w0.arg β) (fun o ho => R.ob j o ho) b (R.live_block ho hl hb)
  · intro j hj o' ho
    simp only [List.mem_singleton] at hj; subst hj
    simp only [lk_cons_self, Option.some.injEq] at ho; subst ho
    exact hrel S
  · intro j hj
    simp only [List.mem_singleton] at hj; subst hj
    rw [hfp]; simp
  · intro j hj b hb
    simp only [List.mem_singleton] at hj; subst hj
    rw [hfp] at hb; simp only [List.mem_singleton] at hb; subst hb
    refine ⟨.inl R.base_le, fun j' _ hm => ?_, fun j' hj' hne => ?_⟩
    · have := obFp_lt (en := s.en w w0.arg β) (fun o ho => R.ob j' o ho) _ hm
      simp [St.en] at this
    · simp only [List.mem_singleton] at hj'; exact absurd hj' hne

/-! ### keys in the symbolic state -/
def intsC (kk : IntKind) : List C → Option (List Int)
  | [] => some []
  | .d (.v (.int k n)) :: r => match decide (k = kk), intsC kk r with
    | true, some ns => some (n :: ns)
    | _, _ => none
  | _ => none
def keyF (kk : IntKind) (kn : Nat) : FV → Option (List Int)
  | .g cs => match Nat.beq cs.length kn with
    | true => intsC kk cs
    | false => none
  | _ => none
def scF : FV → Option Value
  | .c (.d (.v x)) => some x
  | _ => none
def keyFV (kk : IntKind) (k : List Int) : FV := .g (k.map fun n => .d (.v (.int kk n)))

theorem intsC_rel {en : En} {kk : IntKind} : ∀ {cs : List C} {vs : List Value} {ns : List Int}, CsRel en cs vs → intsC kk cs = some ns → vs = ns.map (fun n => Value.int kk n) ∧ ns.length = cs.length
  | [], [], ns, _, h => by simp [intsC] at h; subst h; exact ⟨rfl, rfl⟩
  | [], _ :: _, _, h, _ => h.elim
  | _ :: _, [], _, h, _ => h.elim
  | c :: cs, v :: vs, ns, hr, h => by
    unfold intsC at h
    split at h
    · rename_i heq; cases heq
    · rename_i k n r heq
      obtain ⟨rfl, rfl⟩ := List.cons.inj heq
      split at h
      · rename_i ns' hd hq
        simp only [Option.some.injEq] at h; subst h
        obtain ⟨h1, h2⟩ := intsC_rel hr.2 hq
        have hv := hr.1
        simp only [CRel, Rd] at hv
        obtain ⟨_, _, rfl, _⟩ := hv
        have : k = kk := of_decide_eq_true hd
        subst this
        exact ⟨by rw [h1]; rfl, by simp [h2]⟩
      · cases h
    · cases h
theorem keyF_rel {en : En} {kk : IntKind} {kn : Nat} {f : FV} {v : Value} {k : List Int} (h : keyF kk kn f = some k) (hv : FVRel en f v) : v = MD.keyV kk k ∧ k.length = kn := by
  unfold keyF at h
  split at h
  · split at h
    · rename_i hb
      simp only [FVRel] at hv
      obtain ⟨vs, rfl, hc⟩ := hv
      obtain ⟨h1, h2⟩ := intsC_rel hc h
      exact ⟨by rw [h1]; rfl, by rw [h2]; exact nat_beq hb⟩
    · cases h
  · cases h
theorem scF_rel {en : En} {f : FV} {v x : Value} (h : scF f = some x) (hv : FVRel en f v) : v = x ∧ x.oneCell' = true := by
  unfold scF at h
  split at h
  · simp only [Option.some.injEq] at h; subst h
    simp only [FVRel, CRel, Rd] at hv
    exact ⟨hv.2.2.1, hv.2.2.2⟩
  · cases h
theorem keyFV_rel (en : En) (kk : IntKind) (k : List Int) : FVRel en (keyFV kk k) (MD.keyV kk k) := by
  unfold keyFV MD.keyV
  simp only [FVRel]
  refine ⟨_, rfl, ?_⟩
  induction k with
  | nil => trivial
  | cons x xs ih => exact ⟨⟨rfl, rfl, by simp only [Rd]; exact ⟨trivial, rfl⟩⟩, ih⟩

/-! ### the operations' outcomes -/
theorem MapOk.put {es : Array MapEntry} {clock : Nat} {m : MD} (h : MapOk es clock m) {k : List Int} {v : Value} (hk : k.length = m.kn) (hv : v.oneCell' = true) :
    (∀ i u, mpIdx m.xs k 0 = some (i, u) → (∃ e, es[i]? = some e ∧ e.key = MD.keyV m.kk k) ∧ MapOk (es.modify i fun e => { e with key := MD.keyV m.kk k, val := v }) clock { m with xs := mpPut m.xs k v }) ∧
    (mpIdx m.xs k 0 = none → MapOk (es.push { key := MD.keyV m.kk k, val := v, born := clock }) (clock + 1) { m with xs := mpPut m.xs k v }) := by
  obtain ⟨h1, h2, h3⟩ := h
  refine ⟨fun i u hi => ?_, fun hn => ?_⟩
  · obtain ⟨_, hg⟩ := mpIdx_some hi
    simp only [Nat.sub_zero] at hg
    have hge : es.toList[i]? = some ⟨MD.keyV m.kk k, u, i⟩ := by rw [h1, ents_get, hg]; rfl
    refine ⟨⟨_, by rw [← Array.getElem?_toList]; exact hge, rfl⟩, ?_, ?_, ?_⟩
    · rw [Array.toList_modify, h1]
      apply List.ext_getElem?
      intro j
      rw [List.getElem?_modify, ents_get, ents_get]
      simp only [mpPut, hi]
      by_cases e : i = j
      · subst e
        have hlt := (List.getElem?_eq_some_iff.1 hg).1
        simp [hlt]
      · simp [e, List.getElem?_set_ne]
    · simp only [mpPut, hi]; simpa using h2
    · intro p hp
      simp only [mpPut, hi] at hp
      rcases List.mem_or_eq_of_mem_set hp with hp | rfl
      · exact h3 p hp
      · exact ⟨hk, hv⟩
  · refine ⟨?_, ?_, ?_⟩
    · rw [Array.toList_push, h1]
      simp only [MD.ents, mpPut, hn, List.zipIdx_append, List.map_append, h2]
      simp
    · simp only [mpPut, hn]; simp [h2]
    · intro p hp
      simp only [mpPut, hn, List.mem_append, List.mem_singleton] at hp
      rcases hp with hp | rfl
      · exact h3 p hp
      · exact ⟨hk, hv⟩

theorem MapOk.touch {es : Array MapEntry} {clock : Nat} {m : MD} (h : MapOk es clock m) {k : List Int} {i : Nat} {u z : Value} (hi : mpIdx m.xs k 0 = some (i, u)) :
    (∃ e, es[i]? = some e ∧ e.key = MD.keyV m.kk k ∧ e.born = i) ∧ MapOk (es.modify i fun e => { e with key := MD.keyV m.kk k }) clock { m with xs := mpTouch m.xs k z } := by
  obtain ⟨h1, h2, h3⟩ := h
  obtain ⟨_, hg⟩ := mpIdx_some hi
  simp only [Nat.sub_zero] at hg
  have hge : es.toList[i]? = some ⟨MD.keyV m.kk k, u, i⟩ := by rw [h1, ents_get, hg]; rfl
  refine ⟨⟨_, by rw [← Array.getElem?_toList]; exact hge, rfl, rfl⟩, ?_, ?_, ?_⟩
  · rw [Array.toList_modify, h1]
    apply List.ext_getElem?
    intro j
    rw [List.getElem?_modify, ents_get, ents_get]
    simp only [mpTouch, hi]
    by_cases e : i = j
    · subst e; simp [hg]
    · simp [e]
  · simp only [mpTouch, hi]; exact h2
  · simp only [mpTouch, hi]; exact h3

theorem MapOk.setAt {es : Array MapEntry} {clock : Nat} {m : MD} (h : MapOk es clock m) {i : Nat} (hi : i < m.xs.length) {v : Value} (hv : v.oneCell' = true) :
    es.findIdx? (fun e => (e.born : Int) == (i : Int)) = some i ∧ MapOk (es.modify i fun e => { e with val := v }) clock { m with xs := mpSetAt m.xs i v } := by
  obtain ⟨h1, h2, h3⟩ := h
  have hsz : es.size = m.xs.length := by rw [← Array.length_toList, h1, ents_length]
  have hget : ∀ j (hj : j < es.size), es[j].born = j := by
    intro j hj
    have : es.toList[j]? = (m.xs[j]?).map fun p => ⟨MD.keyV m.kk p.1, p.2, j⟩ := by rw [h1, ents_get]
    have hj2 : j < m.xs.length := by omega
    rw [List.getElem?_eq_getElem hj2] at this
    simp only [Option.map_some, Array.getElem?_toList] at this
    rw [Array.getElem?_eq_getElem hj] at this
    simp only [Option.some.injEq] at this
    rw [this]
  refine ⟨?_, ?_, ?_, ?_⟩
  · rw [Array.findIdx?_eq_some_iff_getElem]
    refine ⟨by omega, by rw [hget i (by omega)]; simp, fun j hj => ?_⟩
    rw [hget j (by omega)]
    simp only [Bool.not_eq_true]
    have : ¬ ((j : Int) = (i : Int)) := by omega
    simpa using this
  · rw [Array.toList_modify, h1]
    apply List.ext_getElem?
    intro j
    rw [List.getElem?_modify, ents_get, ents_get]
    simp only [mpSetAt, List.getElem?_modify]
    by_cases e : i = j
    · subst e; cases m.xs[i]? <;> simp
    · simp [e]
  · simp only [mpSetAt]; simpa using h2
  · intro p hp
    simp only [mpSetAt] at hp
    obtain ⟨j, hj, rfl⟩ := List.getElem_of_mem hp
    rw [List.getElem_modify]
    have hj2 : j < m.xs.length := by simpa using hj
    split
    · exact ⟨(h3 _ (List.getElem_mem hj2)).1, hv⟩
    · exact h3 _ (List.getElem_mem hj2)

/-! ### the operations -/
theorem run_setObj_any {r : Nat} {o : Obj} (ob : Obj) (h : w.heap[r]? = some o) (hc : ∀ c e f, o ≠ .cells c e f) : (setObj r ob).run P w = .ok () (World.setOb w r ob) := by
  cases o <;> simp [setObj, Sem.run, h, World.setOb]
  exact absurd rfl (hc _ _ _)
theorem run_getObj_any {r : Nat} {o : Obj} (h : w.heap[r]? = some o) (hc : ∀ c e f, o ≠ .cells c e f) : (getObj r).run P w = .ok o w := by
  cases o <;> simp [getObj, Sem.run, h]
  exact absurd rfl (hc _ _ _)

theorem run_lookup {t kt et : TypeId} {ti : TI} {r : Nat} {es : Array MapEntry} {clock : Nat} {m : MD} {k : List Int} {z : Value} (hm : P.underlying t = some (.map kt et)) (he : EqOk P kt m.kn) (ha : ArrTy P kt) (hz : TyOk P et ti)
    (hz1 : ti.zero = [.v z]) (hag : ti.k.agg = false) (hh : w.heap[r]? = some (.map es clock)) (hok : MapOk es clock m) (hk : k.length = m.kn) (co : Bool) :
    (Instr.lookup t (.map (some r)) (MD.keyV m.kk k) co).run P w = .ok (if co then .tuple #[(mpGet m.xs k).getD z, .bool (mpGet m.xs k).isSome] else (mpGet m.xs k).getD z) w := by
  unfold Instr.lookup
  have hes : es.toList = m.ents := hok.1
  simp only [Sem.run_bind, run_underlying hm, Result.andThen_ok, run_getObj_any hh (fun _ _ _ h => by cases h), Sem.run_pure, run_checkKey' he m.kk k hk, hes, run_findKey' he ha m (fun p hp => (hok.2.2 p hp).1) k hk]
  unfold mpGet
  cases hi : mpIdx m.xs k 0 with
  | some q => cases co <;> simp
  | none =>
    have hz2 := hz.zeroVal hag hz1 w
    cases co <;> simp [hz2, Z.val]

theorem run_mapUpdate {t kt et : TypeId} {r : Nat} {es : Array MapEntry} {clock : Nat} {m : MD} {k : List Int} {v : Value} (hm : P.underlying t = some (.map kt et)) (he : EqOk P kt m.kn) (ha : ArrTy P kt)
    (hh : w.heap[r]? = some (.map es clock)) (hok : MapOk es clock m) (hk : k.length = m.kn) (hv : v.oneCell' = true) :
    ∃ es' clock', (Instr.mapUpdate t (.map (some r)) (MD.keyV m.kk k) v).run P w = .ok () (World.setOb w r (.map es' clock')) ∧ MapOk es' clock' { m with xs := mpPut m.xs k v } := by
  obtain ⟨p1, p2⟩ := hok.put hk hv
  have hes : es.toList = m.ents := hok.1
  unfold Instr.mapUpdate
  simp only [Sem.run_bind, run_underlying hm, Result.andThen_ok, run_getObj_any hh (fun _ _ _ h => by cases h), run_checkKey' he m.kk k hk, hes, run_findKey' he ha m (fun p hp => (hok.2.2 p hp).1) k hk]
  cases hi : mpIdx m.xs k 0 with
  | some q =>
    obtain ⟨i, u⟩ := q
    obtain ⟨⟨e, h1, h2⟩, h3⟩ := p1 i u hi
    refine ⟨_, _, ?_, h3⟩
    simp only [h1, Option.map_some, Option.getD_some, h2, Sem.run_bind, run_keyThatStays', Result.andThen_ok]
    exact run_setObj_any _ hh (fun _ _ _ h => by cases h)
  | none => exact ⟨_, _, run_setObj_any _ hh (fun _ _ _ h => by cases h), p2 hi⟩

theorem run_mapEntry {t kt et : TypeId} {ti : TI} {r : Nat} {es : Array MapEntry} {clock : Nat} {m : MD} {k : List Int} {z : Value} (hm : P.underlying t = some (.map kt et)) (he : EqOk P kt m.kn) (ha : ArrTy P kt) (hz : TyOk P et ti)
    (hz1 : ti.zero = [.v z]) (hag : ti.k.agg = false) (hh : w.heap[r]? = some (.map es clock)) (hok : MapOk es clock m) (hk : k.length = m.kn) :
    ∃ es' clock', (Instr.mapEntry t (.map (some r)) (MD.keyV m.kk k)).run P w = .ok (.tuple #[(mpGet m.xs k).getD z, .int .i64 (mpAt m.xs k : Nat)]) (World.setOb w r (.map es' clock')) ∧ MapOk es' clock' { m with xs := mpTouch m.xs k z } := by
  have hes : es.toList = m.ents := hok.1
  unfold Instr.mapEntry
  simp only [Sem.run_bind, run_underlying hm, Result.andThen_ok, run_getObj_any hh (fun _ _ _ h => by cases h), run_checkKey' he m.kk k hk, hes, run_findKey' he ha m (fun p hp => (hok.2.2 p hp).1) k hk]
  have hz2 := hz.zeroVal hag hz1
  have hz3 : z.oneCell' = true := by have := hz.ones; rw [hz1] at this; simpa [Z.val] using this
  cases hi : mpIdx m.xs k 0 with
  | some q =>
    obtain ⟨i, u⟩ := q
    obtain ⟨⟨e, h1, h2, h4⟩, h3⟩ := hok.touch (z := z) hi
    refine ⟨_, _, ?_, h3⟩
    simp only [h1, Option.map_some, Option.getD_some, h2, h4, Sem.run_bind, run_keyThatStays', Result.andThen_ok, run_setObj_any _ hh (fun _ _ _ h => by cases h), mpGet, mpAt, hi]
    rfl
  | none =>
    have p2 := (hok.put hk hz3).2 hi
    refine ⟨es.push { key := MD.keyV m.kk k, val := z, born := clock }, clock + 1, ?_, by simpa only [mpPut, mpTouch, hi] using p2⟩
    simp only [Sem.run_bind, hz2, Z.val, Result.andThen_ok, run_setObj_any _ hh (fun _ _ _ h => by cases h), mpGet, mpAt, hi, Option.map_none, Option.getD_none, hok.2.1]
    rfl

theorem run_entryStore {t : TypeId} {r : Nat} {es : Array MapEntry} {clock : Nat} {m : MD} {i : Int} {v : Value} (kk : IntKind) (hh : w.heap[r]? = some (.map es clock)) (hok : MapOk es clock m) (h0 : 0 ≤ i) (hi : i.toNat < m.xs.length) (hv : v.oneCell' = true) :
    ∃ es', (Instr.entryStore t (.map (some r)) (.int kk i) v).run P w = .ok () (World.setOb w r (.map es' clock)) ∧ MapOk es' clock { m with xs := mpSetAt m.xs i.toNat v } := by
  obtain ⟨h1, h2⟩ := hok.setAt hi hv
  refine ⟨_, ?_, h2⟩
  unfold Instr.entryStore
  have e : (i.toNat : Int) = i := Int.toNat_of_nonneg h0
  rw [e] at h1
  simp only [Sem.run_bind, Result.andThen_ok, run_getObj_any hh (fun _ _ _ h => by cases h), asInt, asIntOf, Sem.run_pure, h1]
  exact run_setObj_any _ hh (fun _ _ _ h => by cases h)

theorem MapOk.born {es : Array MapEntry} {clock : Nat} {m : MD} (h : MapOk es clock m) {i : Nat} {p : List Int × Value} (hi : m.xs[i]? = some p) : es[i]? = some ⟨MD.keyV m.kk p.1, p.2, i⟩ := by
  rw [← Array.getElem?_toList, h.1, ents_get, hi]; rfl

theorem run_range {t kt et : TypeId} {r : Nat} {es : Array MapEntry} {clock : Nat} (hm : P.underlying t = some (.map kt et)) (hh : w.heap[r]? = some (.map es clock)) :
    (Instr.range t (.map (some r))).run P w = .ok (.pointer (some ⟨w.heap.size, 0, none⟩)) (w.alloc (.mapIter (some r) clock #[] clock)) := by
  unfold Instr.range
  simp [run_underlying hm, run_getObj_any hh (fun _ _ _ h => by cases h)]

theorem ItOk.start {es : Array MapEntry} {clock : Nat} {m : MD} (h : MapOk es clock m) : ItOk m clock #[] clock m.xs none := by
  refine ⟨by rw [h.2.1]; exact Nat.le_refl _, h.2.1, ?_, fun e h => by cases h⟩
  rw [List.filter_eq_self.2 (fun p _ => by simp)]
  apply List.ext_getElem?
  intro i
  rw [List.getElem?_map, List.getElem?_zipIdx]
  cases m.xs[i]? <;> simp

theorem filter_erase {α : Type} : ∀ {L : List (α × Nat)} {j : Nat} {q : α × Nat}, (L.map (·.2)).Nodup → L[j]? = some q → L.filter (fun p => p.2 != q.2) = L.eraseIdx j
  | [], j, q, _, h => by simp at h
  | x :: L, 0, q, hn, h => by
    simp only [List.getElem?_cons_zero, Option.some.injEq] at h; subst h
    simp only [List.map_cons, List.nodup_cons] at hn
    simp only [List.eraseIdx_zero, List.tail_cons]
    rw [List.filter_cons_of_neg (by simp)]
    refine List.filter_eq_self.2 fun p hp => ?_
    have : p.2 ≠ x.2 := fun e => hn.1 (by rw [← e]; exact List.mem_map_of_mem hp)
    simpa using this
  | x :: L, j + 1, q, hn, h => by
    simp only [List.getElem?_cons_succ] at h
    simp only [List.map_cons, List.nodup_cons] at hn
    have hq : q ∈ L := List.mem_of_getElem? h
    have : x.2 ≠ q.2 := fun e => hn.1 (by rw [e]; exact List.mem_map_of_mem hq)
    rw [List.filter_cons_of_pos (by simpa using this), List.eraseIdx_cons_succ, filter_erase hn.2 h]

theorem map_erase {α γ : Type} (f : α → γ) : ∀ (L : List α) (j : Nat), (L.map f).eraseIdx j = (L.eraseIdx j).map f
  | [], _ => by simp
  | x :: L, 0 => by simp
  | x :: L, j + 1 => by simp [map_erase f L j]

theorem zipIdx_nodup {α : Type} (xs : List α) : (xs.zipIdx.map (·.2)).Nodup := by
  have : xs.zipIdx.map (·.2) = List.range' 0 xs.length := by
    simp
  rw [this]; exact List.nodup_range'

theorem run_chooseNext (n : Nat) (hn : 0 < n) (w : World) : ∃ j w1, (choose (.mapNext n)).run P w = .ok j w1 ∧ j < n ∧ (w1 = w ∨ w1 = w.drew) := by
  by_cases hf : n ≤ 1
  · exact ⟨0, w, by simp [choose, Sem.run, Question.forced, hf], hn, .inl rfl⟩
  · exact ⟨w.tape w.drawn (.mapNext n) % n, w.drew, by
      simp only [choose, Sem.run, Question.forced, decide_eq_true_eq, hf, if_false, Question.cut]
      rfl, Nat.mod_lt _ hn, .inr rfl⟩

theorem ItOk.lefts {es : Array MapEntry} {clock since st : Nat} {seen : Array Nat} {m : MD} {rem : List (List Int × Value)} {last : Option (List Int × Value)} (hok : MapOk es clock m) (hit : ItOk m since seen st rem last) :
    ∃ L : List ((List Int × Value) × Nat), L = (m.xs.zipIdx.filter fun p => !seen.contains p.2) ∧ (es.filter fun e => !seen.contains e.born).toList = L.map (fun p => ⟨MD.keyV m.kk p.1.1, p.1.2, p.2⟩) ∧ rem = L.map (·.1) ∧
      (es.filter fun e => !seen.contains e.born).filter (·.born < since) = (es.filter fun e => !seen.contains e.born) ∧ (es.filter fun e => !seen.contains e.born).filter (·.born ≥ since) = #[] := by
  have h1 : (es.filter fun e => !seen.contains e.born).toList = (m.xs.zipIdx.filter fun p => !seen.contains p.2).map (fun p => ⟨MD.keyV m.kk p.1.1, p.1.2, p.2⟩) := by
    rw [Array.toList_filter, hok.1, MD.ents, List.filter_map]
    rfl
  have hb : ∀ e ∈ (es.filter fun e => !seen.contains e.born), e.born < since := by
    intro e he
    have he' : e ∈ (es.filter fun e => !seen.contains e.born).toList := by simpa using he
    rw [h1, List.mem_map] at he'
    obtain ⟨p, hp, rfl⟩ := he'
    have hp := (List.mem_filter.1 hp).1
    have := List.snd_lt_of_mem_zipIdx hp
    have := hit.1
    simp only; omega
  refine ⟨_, rfl, h1, hit.2.2.1, ?_, ?_⟩
  · exact Array.filter_eq_self.2 fun e he => by simpa using hb e he
  · exact Array.filter_eq_empty_iff.2 fun e he => by have := hb e he; simp; omega

/-- The next step of a walk: it is over if nothing is left; else whatever is left may come. -/
theorem run_next {ty : TypeId} {g r : Nat} {es : Array MapEntry} {clock since st : Nat} {seen : Array Nat} {m : MD} {rem : List (List Int × Value)} {last : Option (List Int × Value)} (hg : w.heap[g]? = some (.mapIter (some r) since seen st))
    (hh : w.heap[r]? = some (.map es clock)) (hok : MapOk es clock m) (hit : ItOk m since seen st rem last) :
    (rem = [] ∧ (Instr.next (.pointer (some ⟨g, 0, none⟩)) false ty).run P w = .ok (.tuple #[.bool false]) w) ∨
    ∃ i e seen' w1, rem[i]? = some e ∧ ItOk m since seen' clock (rem.eraseIdx i) (some e) ∧ (w1 = w ∨ w1 = w.drew) ∧
      (Instr.next (.pointer (some ⟨g, 0, none⟩)) false ty).run P w = .ok (.tuple #[.bool true, MD.keyV m.kk e.1, e.2]) (World.setOb w1 g (.mapIter (some r) since seen' clock)) := by
  obtain ⟨L, hL, h1, hrem, h2, h3⟩ := hit.lefts hok
  have hst : (!seen.isEmpty && !es.isEmpty && es.all (·.born ≥ st)) = false := by
    cases hs : es.isEmpty with
    | true => simp
    | false =>
      have : es.all (·.born ≥ st) = false := by
        have h0 : 0 < es.size := Nat.pos_of_ne_zero fun e => by
          rw [Array.eq_empty_of_size_eq_zero e] at hs; simp at hs
        rw [Array.all_eq_false]
        refine ⟨0, h0, ?_⟩
        have hx : 0 < m.xs.length := by rw [← ents_length, ← hok.1, Array.length_toList]; exact h0
        have := hok.born (i := 0) (p := m.xs[0]) (by simp [hx])
        rw [Array.getElem?_eq_getElem h0] at this
        simp only [Option.some.injEq] at this
        rw [this, hit.2.1]
        simp only [decide_eq_true_eq, ge_iff_le]
        omega
      simp [this]
  unfold Instr.next
  simp only [Sem.run_bind, run_getObj_any hg (fun _ _ _ h => by cases h), Result.andThen_ok, run_getObj_any hh (fun _ _ _ h => by cases h), hst, Bool.false_eq_true, if_false, h2, h3]
  generalize hA : (es.filter fun e => !seen.contains e.born) = A at h1
  cases hLc : L with
  | nil =>
    left
    have he : A = #[] := by
      apply Array.ext'; rw [h1, hLc]; rfl
    subst he
    refine ⟨by rw [hrem, hLc]; rfl, ?_⟩
    simp [choose, Sem.run, Question.forced]
  | cons q L' =>
    right
    have hne : A.isEmpty = false := by
      cases hz : A.isEmpty with
      | false => rfl
      | true =>
        have : A = #[] := by simpa using hz
        rw [this, hLc] at h1; simp at h1
    have hsz : A.size = L.length := by rw [← Array.length_toList, h1]; simp
    have hpos : 0 < A.size := by rw [hsz, hLc]; simp
    obtain ⟨j, w1, hc, hj, hw1⟩ := run_chooseNext (P := P) A.size hpos w
    have hjL : j < L.length := by omega
    have hAj : A[j]? = some ⟨MD.keyV m.kk (L[j]).1.1, (L[j]).1.2, (L[j]).2⟩ := by
      rw [← Array.getElem?_toList, h1, List.getElem?_map, List.getElem?_eq_getElem hjL]; rfl
    have hLj : L[j]? = some (L[j]) := List.getElem?_eq_getElem hjL
    have hmem : (L[j]) ∈ m.xs.zipIdx := (List.mem_filter.1 (by rw [← hL]; exact List.getElem_mem hjL)).1
    refine ⟨j, (L[j]).1, seen.push (L[j]).2, w1, by rw [hrem, List.getElem?_map, hLj]; rfl, ⟨hit.1, hok.2.1, ?_, ?_⟩, hw1, ?_⟩
    · have : (fun p : (List Int × Value) × Nat => !(seen.push (L[j]).2).contains p.2) = fun p => (!seen.contains p.2) && (p.2 != (L[j]).2) := by
        funext p
        simp only [Array.contains_push]
        cases seen.contains p.2 <;> simp [bne]
      rw [this, hrem, map_erase, ← filter_erase (by rw [hL]; exact (zipIdx_nodup m.xs).sublist (List.filter_sublist.map _)) hLj]
      congr 1
      generalize (L[j]).2 = b
      rw [hL, List.filter_filter]
      congr 1
      funext p
      exact Bool.and_comm _ _
    · intro e he
      simp only [Option.some.injEq] at he; subst he
      refine ⟨(L[j]).2, by simp, ?_⟩
      have := List.mk_mem_zipIdx_iff_getElem? (l := m.xs) (x := (L[j]).1) (i := (L[j]).2)
      exact this.1 hmem
    · have hgw : w1.heap[g]? = some (.mapIter (some r) since seen st) := by rcases hw1 with rfl | rfl <;> exact hg
      simp only [hne, Bool.false_eq_true, if_false, Array.empty_append, Array.append_empty, Array.size_map, hc, Result.andThen_ok]
      simp only [Array.getElem?_map, hAj, Option.map_some, Sem.run_bind, run_setObj_any _ hgw (fun _ _ _ h => by cases h), Result.andThen_ok, Sem.run_pure]

/-- The entry that a walk has come to. -/
theorem run_entry {g r : Nat} {es : Array MapEntry} {clock since st : Nat} {seen : Array Nat} {m : MD} {rem : List (List Int × Value)} {e : List Int × Value} (hg : w.heap[g]? = some (.mapIter (some r) since seen st))
    (hh : w.heap[r]? = some (.map es clock)) (hok : MapOk es clock m) (hit : ItOk m since seen st rem (some e)) :
    (Instr.entry (.pointer (some ⟨g, 0, none⟩))).run P w = .ok (.tuple #[MD.keyV m.kk e.1, e.2]) w := by
  obtain ⟨i, hi, hx⟩ := hit.2.2.2 e rfl
  have hb := hok.born hx
  have hlt := (List.getElem?_eq_some_iff.1 hx).1
  have hsz : es.size = m.xs.length := by rw [← Array.length_toList, hok.1, ents_length]
  have hborn : ∀ j (hj : j < es.size), es[j].born = j := by
    intro j hj
    have hj2 : j < m.xs.length := by omega
    have := hok.born (i := j) (p := m.xs[j]) (by simp [hj2])
    rw [Array.getElem?_eq_getElem hj] at this
    simp only [Option.some.injEq] at this
    rw [this]
  have hf : es.find? (fun x => x.born == i) = some ⟨MD.keyV m.kk e.1, e.2, i⟩ := by
    rw [Array.find?_eq_some_iff_getElem]
    refine ⟨by simp, i, by omega, ?_, fun j hj => ?_⟩
    · rw [Array.getElem?_eq_getElem (by omega)] at hb
      exact Option.some.inj hb
    · rw [hborn j (by omega)]
      have : j ≠ i := by omega
      simpa using this
  unfold Instr.entry
  simp only [Sem.run_bind, run_getObj_any hg (fun _ _ _ h => by cases h), Result.andThen_ok, run_getObj_any hh (fun _ _ _ h => by cases h), hi, hok.2.1, hit.2.1, if_false, hf, bne_self_eq_false, Bool.false_eq_true, Sem.run_pure]

/-! ### what the symbolic state makes of them -/
def mapF (ob : Nat → Option Ob) : FV → Option MD
  | .c (.d (.mp m)) => some m
  | .c (.ob k) => match ob k with
    | some (.mp m) => some m
    | _ => none
  | _ => none
def ownMap (ob : Nat → Option Ob) : FV → Option (Nat × MD)
  | .c (.ob k) => match ob k with
    | some (.mp m) => some (k, m)
    | _ => none
  | _ => none
/-- A map's type: its keys' type, and the zero value of its elements. -/
def mapTy (T : Tab) (E : List (Nat × Nat)) (t : Nat) : Option (Nat × Nat × Nat × Value) :=
  match lk T t with
  | some ti => match ti.k with
    | .mp kt et => match lk T kt, lk E kt, lk T et with
      | some tk, some kn, some te => match tk.k, te.k.agg, te.zero with
        | .ar _ _, false, [.v z] => some (kt, et, kn, z)
        | _, _, _ => none
      | _, _, _ => none
    | _ => none
  | none => none
def evLk (T : Tab) (E : List (Nat × Nat)) (ob : Nat → Option Ob) (t : Nat) (x i : FV) (co : Bool) : Option FV :=
  match mapTy T E t, mapF ob x with
  | some (_, _, kn, z), some m => match Nat.beq m.kn kn, keyF m.kk m.kn i with
    | true, some k => match co with
      | true => some (.t [.c (.d (.v ((mpGet m.xs k).getD z))), .c (.d (.v (.bool (mpGet m.xs k).isSome)))])
      | false => some (.c (.d (.v ((mpGet m.xs k).getD z))))
    | _, _ => none
  | _, _ => none
def evMU (T : Tab) (E : List (Nat × Nat)) (ob : Nat → Option Ob) (t : Nat) (x i v : FV) : Option (Nat × Ob) :=
  match mapTy T E t, ownMap ob x with
  | some (_, _, kn, _), some (k', m) => match Nat.beq m.kn kn, keyF m.kk m.kn i, scF v with
    | true, some k, some u => some (k', .mp { m with xs := mpPut m.xs k u })
    | _, _, _ => none
  | _, _ => none
def evME (T : Tab) (E : List (Nat × Nat)) (ob : Nat → Option Ob) (t : Nat) (x i : FV) : Option (FV × Nat × Ob) :=
  match mapTy T E t, ownMap ob x with
  | some (_, _, kn, z), some (k', m) => match Nat.beq m.kn kn, keyF m.kk m.kn i with
    | true, some k => some (.t [.c (.d (.v ((mpGet m.xs k).getD z))), .c (.d (.v (.int .i64 (mpAt m.xs k : Nat))))], k', .mp { m with xs := mpTouch m.xs k z })
    | _, _ => none
  | _, _ => none
def evES (ob : Nat → Option Ob) (x i v : FV) : Option (Prop × Nat × Ob) :=
  match ownMap ob x, i, scF v with
  | some (k', m), .c (.d (.v (.int _ n))), some u => some (0 ≤ n ∧ n.toNat < m.xs.length, k', .mp { m with xs := mpSetAt m.xs n.toNat u })
  | _, _, _ => none
def evEn (ob : Nat → Option Ob) : FV → Option FV
  | .c (.ref k 0) => match ob k with
    | some (.it m _ (some e)) => some (.t [keyFV m.kk e.1, .c (.d (.v e.2))])
    | _ => none
  | _ => none
/-- The kind of a map's keys, by their type. -/
def keyKind (T : Tab) : Nat → Nat → Option IntKind
  | 0, _ => none
  | n + 1, t => match lk T t with
    | some ti => match ti.k with
      | .ar _ e => keyKind T n e
      | .int k => some k
      | _ => none
    | none => none
def evMM' (T : Tab) (E : List (Nat × Nat)) (t : Nat) : Option MD :=
  match mapTy T E t with
  | some (kt, _, kn, _) => match keyKind T 4 kt with
    | some kk => some ⟨kk, kn, []⟩
    | none => none
  | none => none
def evRg (T : Tab) (E : List (Nat × Nat)) (t : Nat) : FV → Option MD
  | .c (.d (.mp m)) => match mapTy T E t with
    | some _ => some m
    | none => none
  | _ => none

theorem mapTy_ok {T : Tab} {E : List (Nat × Nat)} (hT : TabOk P T) (hE : ∀ t n, lk E t = some n → EqOk P t n) {t kt et kn : Nat} {z : Value} (h : mapTy T E t = some (kt, et, kn, z)) :
    P.underlying t = some (.map kt et) ∧ EqOk P kt kn ∧ ArrTy P kt ∧ ∃ te, TyOk P et te ∧ te.k.agg = false ∧ te.zero = [.v z] := by
  unfold mapTy at h
  split at h
  · rename_i ti hti
    split at h
    · rename_i kt' et' hk
      split at h
      · rename_i tk kn' te h1 h2 h3
        split at h
        · rename_i n e z' q1 q2 q3
          simp only [Option.some.injEq, Prod.mk.injEq] at h
          obtain ⟨rfl, rfl, rfl, rfl⟩ := h
          exact ⟨(hT _ _ hti).mp hk, hE _ _ h2, ⟨n, e, (hT _ _ h1).ar q1⟩, te, hT _ _ h3, q2, q3⟩
        · cases h
      · cases h
    · cases h
  · cases h
theorem mapF_rel (R : Rel N w0 s a w β) {x : FV} {m : MD} {v : Value} (h : mapF (lk s.ob) x = some m) (hv : FVRel (s.en w w0.arg β) x v) : ∃ r es clock, v = .map (some r) ∧ w.heap[r]? = some (.map es clock) ∧ MapOk es clock m := by
  unfold mapF at h
  split at h
  · simp only [Option.some.injEq] at h; subst h
    simp only [FVRel, CRel, Rd] at hv
    obtain ⟨_, _, r, es, clock, h1, _, h2, h3⟩ := hv
    exact ⟨r, es, clock, h1, h2, h3⟩
  · rename_i k
    split at h
    · rename_i m' hk
      simp only [Option.some.injEq] at h; subst h
      simp only [FVRel, CRel] at hv
      obtain ⟨r, es, clock, h1, h2, h3⟩ := R.ob k _ hk
      exact ⟨r, es, clock, hv.2.1.trans h1, h2, h3⟩
    · cases h
  · cases h
theorem ownMap_rel (R : Rel N w0 s a w β) {x : FV} {k : Nat} {m : MD} {v : Value} (h : ownMap (lk s.ob) x = some (k, m)) (hv : FVRel (s.en w w0.arg β) x v) :
    lk s.ob k = some (.mp m) ∧ ∃ r es clock, v = .map (some r) ∧ β k = .map (some r) ∧ w.heap[r]? = some (.map es clock) ∧ MapOk es clock m := by
  unfold ownMap at h
  split at h
  · rename_i k'
    split at h
    · rename_i m' hk
      simp only [Option.some.injEq, Prod.mk.injEq] at h
      obtain ⟨rfl, rfl⟩ := h
      simp only [FVRel, CRel] at hv
      obtain ⟨r, es, clock, h1, h2, h3⟩ := R.ob k' _ hk
      exact ⟨hk, r, es, clock, hv.2.1.trans h1, h1, h2, h3⟩
    · cases h
  · cases h
theorem mpGet_one {es : Array MapEntry} {clock : Nat} {m : MD} (h : MapOk es clock m) {k : List Int} {z : Value} (hz : z.oneCell' = true) : ((mpGet m.xs k).getD z).oneCell' = true := by
  unfold mpGet
  cases hi : mpIdx m.xs k 0 with
  | none => simpa using hz
  | some q =>
    obtain ⟨_, hg⟩ := mpIdx_some (j := q.1) (v := q.2) hi
    exact (h.2.2 _ (List.mem_of_getElem? hg)).2

theorem evLk_sound {T : Tab} {E : List (Nat × Nat)} (hT : TabOk P T) (hE : ∀ t n, lk E t = some n → EqOk P t n) (R : Rel N w0 s a w β) {t : Nat} {x i f : FV} {co : Bool} {u v : Value} (h : evLk T E (lk s.ob) t x i co = some f)
    (hx : FVRel (s.en w w0.arg β) x u) (hi : FVRel (s.en w w0.arg β) i v) : ∃ val, (Instr.lookup t u v co).run P w = .ok val w ∧ FVRel (s.en w w0.arg β) f val := by
  unfold evLk at h
  split at h
  · rename_i kt et kn z m h1 h2
    split at h
    · rename_i k hb hk
      obtain ⟨q1, q2, q3, te, q4, q5, q6⟩ := mapTy_ok hT hE h1
      obtain ⟨r, es, clock, rfl, q7, q8⟩ := mapF_rel R h2 hx
      obtain ⟨rfl, q9⟩ := keyF_rel hk hi
      have hb := nat_beq hb
      have hz : z.oneCell' = true := by have := q4.ones; rw [q6] at this; simpa [Z.val] using this
      refine ⟨_, run_lookup q1 (by rw [hb]; exact q2) q3 q4 q6 q5 q7 q8 q9 co, ?_⟩
      cases co with
      | true =>
        simp only [Option.some.injEq] at h; subst h
        simp only [if_true, FVRel, FVsRel]
        exact ⟨_, rfl, _, _, rfl, rel_val (mpGet_one q8 hz), _, _, rfl, rel_bool _, rfl⟩
      | false =>
        simp only [Option.some.injEq] at h; subst h
        exact rel_val (mpGet_one q8 hz)
    · cases h
  · cases h

theorem evMU_sound {T : Tab} {E : List (Nat × Nat)} (hT : TabOk P T) (hE : ∀ t n, lk E t = some n → EqOk P t n) (R : Rel N w0 s a w β) {t k' : Nat} {x i f : FV} {o : Ob} {u v y : Value} (h : evMU T E (lk s.ob) t x i f = some (k', o))
    (hx : FVRel (s.en w w0.arg β) x u) (hi : FVRel (s.en w w0.arg β) i v) (hf : FVRel (s.en w w0.arg β) f y) : ∃ w', (Instr.mapUpdate t u v y).run P w = .ok () w' ∧ Rel N w0 ⟨s.tm, (k', o) :: s.ob⟩ a w' β := by
  unfold evMU at h
  split at h
  · rename_i kt et kn z k0 m h1 h2
    split at h
    · rename_i k y' hb hk hs
      simp only [Option.some.injEq, Prod.mk.injEq] at h
      obtain ⟨rfl, rfl⟩ := h
      obtain ⟨q1, q2, q3, te, q4, q5, q6⟩ := mapTy_ok hT hE h1
      obtain ⟨q0, r, es, clock, rfl, qβ, q7, q8⟩ := ownMap_rel R h2 hx
      obtain ⟨rfl, q9⟩ := keyF_rel hk hi
      obtain ⟨rfl, q10⟩ := scF_rel hs hf
      have hb := nat_beq hb
      obtain ⟨es', clock', r1, r2⟩ := run_mapUpdate q1 (by rw [hb]; exact q2) q3 q7 q8 q9 q10
      exact ⟨_, r1, R.setMap q0 qβ (lt_of_heap q7) r2⟩
    · cases h
  · cases h

theorem evME_sound {T : Tab} {E : List (Nat × Nat)} (hT : TabOk P T) (hE : ∀ t n, lk E t = some n → EqOk P t n) (R : Rel N w0 s a w β) {t k' : Nat} {x i f : FV} {o : Ob} {u v : Value} (h : evME T E (lk s.ob) t x i = some (f, k', o))
    (hx : FVRel (s.en w w0.arg β) x u) (hi : FVRel (s.en w w0.arg β) i v) :
    ∃ val w', (Instr.mapEntry t u v).run P w = .ok val w' ∧ Rel N w0 ⟨s.tm, (k', o) :: s.ob⟩ a w' β ∧ FVRel (St.en ⟨s.tm, (k', o) :: s.ob⟩ w' w0.arg β) f val := by
  unfold evME at h
  split at h
  · rename_i kt et kn z k0 m h1 h2
    split at h
    · rename_i k hb hk
      simp only [Option.some.injEq, Prod.mk.injEq] at h
      obtain ⟨rfl, rfl, rfl⟩ := h
      obtain ⟨q1, q2, q3, te, q4, q5, q6⟩ := mapTy_ok hT hE h1
      obtain ⟨q0, r, es, clock, rfl, qβ, q7, q8⟩ := ownMap_rel R h2 hx
      obtain ⟨rfl, q9⟩ := keyF_rel hk hi
      have hb := nat_beq hb
      have hz : z.oneCell' = true := by have := q4.ones; rw [q6] at this; simpa [Z.val] using this
      obtain ⟨es', clock', r1, r2⟩ := run_mapEntry q1 (by rw [hb]; exact q2) q3 q4 q6 q5 q7 q8 q9
      refine ⟨_, _, r1, R.setMap q0 qβ (lt_of_heap q7) r2, ?_⟩
      simp only [FVRel, FVsRel]
      exact ⟨_, rfl, _, _, rfl, rel_val (mpGet_one q8 hz), _, _, rfl, rel_int _ _, rfl⟩
    · cases h
  · cases h

theorem evES_sound (R : Rel N w0 s a w β) {t k' : Nat} {x i f : FV} {o : Ob} {p : Prop} {u v y : Value} (h : evES (lk s.ob) x i f = some (p, k', o)) (hp : p)
    (hx : FVRel (s.en w w0.arg β) x u) (hi : FVRel (s.en w w0.arg β) i v) (hf : FVRel (s.en w w0.arg β) f y) : ∃ w', (Instr.entryStore t u v y).run P w = .ok () w' ∧ Rel N w0 ⟨s.tm, (k', o) :: s.ob⟩ a w' β := by
  unfold evES at h
  split at h
  · rename_i k0 m kk n y' h2 hs
    simp only [Option.some.injEq, Prod.mk.injEq] at h
    obtain ⟨rfl, rfl, rfl⟩ := h
    obtain ⟨q0, r, es, clock, rfl, qβ, q7, q8⟩ := ownMap_rel R h2 hx
    obtain rfl := int_rel hi
    obtain ⟨rfl, q10⟩ := scF_rel hs hf
    obtain ⟨es', r1, r2⟩ := run_entryStore (P := P) (t := t) kk q7 q8 hp.1 hp.2 q10
    exact ⟨_, r1, R.setMap q0 qβ (lt_of_heap q7) r2⟩
  · cases h

theorem evEn_sound (R : Rel N w0 s a w β) {x f : FV} {u : Value} (h : evEn (lk s.ob) x = some f) (hx : FVRel (s.en w w0.arg β) x u) : ∃ val, (Instr.entry u).run P w = .ok val w ∧ FVRel (s.en w w0.arg β) f val := by
  unfold evEn at h
  split at h
  · rename_i k
    split at h
    · rename_i m rem e hk
      simp only [Option.some.injEq] at h; subst h
      simp only [FVRel, CRel] at hx
      obtain ⟨_, g', hg, rfl⟩ := hx
      obtain ⟨g, r, since, seen, st, h1, h2, h3, h4⟩ := R.ob k _ hk
      have hg' : β k = .pointer (some ⟨g', 0, none⟩) := hg
      have h1' : β k = .pointer (some ⟨g, 0, none⟩) := h1
      rw [hg'] at h1'
      simp only [Value.pointer.injEq, Option.some.injEq, Addr.mk.injEq, and_true] at h1'
      subst h1'
      simp only [Rd, Value.map.injEq, Option.some.injEq] at h3
      obtain ⟨r', es, clock, rfl, _, h5, h6⟩ := h3
      refine ⟨_, run_entry h2 h5 h6 h4, ?_⟩
      obtain ⟨i, _, hx⟩ := h4.2.2.2 e rfl
      simp only [FVRel, FVsRel]
      exact ⟨_, rfl, _, _, rfl, keyFV_rel _ _ _, _, _, rfl, rel_val (h6.2.2 _ (List.mem_of_getElem? hx)).2, rfl⟩
    · cases h
  · cases h

theorem makeMap_sound (R : Rel N w0 s a w β) {k : Nat} {m : MD} (hm : m.xs = []) (hk : lk s.ob k = none) (t : Nat) :
    ∃ val w' β', (Instr.makeMap t none).run P w = .ok val w' ∧ Rel N w0 ⟨s.tm, (k, .mp m) :: s.ob⟩ a w' β' ∧ FVRel (St.en ⟨s.tm, (k, .mp m) :: s.ob⟩ w' w0.arg β') (.c (.ob k)) val := by
  have hfp : obFp (St.en ⟨s.tm, (k, .mp m) :: s.ob⟩ (w.alloc (.map #[] 0)) w0.arg (upd β k (.map (some w.heap.size)))) k = [w.heap.size] := by
    rw [obFp_mp (lk_cons_self _ _ _)]
    show (blk (upd β k _ k)).toList = _
    rw [upd_self]; rfl
  have R' := R.addOb (o := .mp m) (ob := .map #[] 0) (v := .map (some w.heap.size)) hk rfl hfp fun _ =>
    ⟨w.heap.size, #[], 0, by simp [St.en, upd_self], heap_alloc_new w _, by simp [MD.ents, hm], by simp [hm], by simp [hm]⟩
  refine ⟨.map (some w.heap.size), w.alloc (.map #[] 0), _, by simp [Instr.makeMap], R', ?_⟩
  simp only [FVRel, CRel]
  exact ⟨by simp [St.en, lk_cons_self], by simp [St.en, upd_self], rfl⟩

theorem evRg_sound {T : Tab} {E : List (Nat × Nat)} (hT : TabOk P T) (hE : ∀ t n, lk E t = some n → EqOk P t n) (R : Rel N w0 s a w β) {k t : Nat} {x : FV} {m : MD} {u : Value} (h : evRg T E t x = some m) (hx : FVRel (s.en w w0.arg β) x u) (hk : lk s.ob k = none) :
    ∃ val w' β', (Instr.range t u).run P w = .ok val w' ∧ Rel N w0 ⟨s.tm, (k, .it m m.xs none) :: s.ob⟩ a w' β' ∧ FVRel (St.en ⟨s.tm, (k, .it m m.xs none) :: s.ob⟩ w' w0.arg β') (.c (.ref k 0)) val := by
  unfold evRg at h
  split at h
  · rename_i m0
    split at h
    · rename_i q hq
      simp only [Option.some.injEq] at h; subst h
      obtain ⟨q1, _⟩ := mapTy_ok hT hE (kt := q.1) (et := q.2.1) (kn := q.2.2.1) (z := q.2.2.2) hq
      simp only [FVRel, CRel] at hx
      have hr := hx.2.2
      simp only [Rd] at hr
      obtain ⟨r, es, clock, rfl, h1, h2, h3⟩ := hr
      have hfp : obFp (St.en ⟨s.tm, (k, .it m0 m0.xs none) :: s.ob⟩ (w.alloc (.mapIter (some r) clock #[] clock)) w0.arg (upd β k (.pointer (some ⟨w.heap.size, 0, none⟩)))) k = [w.heap.size] := by
        rw [obFp_it (lk_cons_self _ _ _)]
        show (blk (upd β k _ k)).toList = _
        rw [upd_self]; rfl
      have R' := R.addOb (ob := .mapIter (some r) clock #[] clock) (v := .pointer (some ⟨w.heap.size, 0, none⟩)) hk rfl hfp fun S =>
        ⟨w.heap.size, r, clock, #[], clock, by simp [St.en, upd_self], heap_alloc_new w _, Rd.keep S.K _ _ hx.2.2, ItOk.start h3⟩
      refine ⟨_, _, _, run_range q1 h2, R', ?_⟩
      simp only [FVRel, CRel]
      exact ⟨by simp [St.en, lk_cons_self], w.heap.size, by simp [St.en, upd_self], rfl⟩
    · cases h
  · cases h

end Go.Sm
