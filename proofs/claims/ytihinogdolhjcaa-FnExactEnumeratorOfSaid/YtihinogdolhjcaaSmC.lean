/- What adds to a symbolic state: a slot, an object without a block, a variable, an array of one's own; what writes to one. -/
import Derived.Test.YtihinogdolhjcaaSmB
namespace Go.Sm
open Go.RowKit

def upd (β : Nat → Value) (k : Nat) (v : Value) : Nat → Value := fun j => if j = k then v else β j
theorem upd_self (β : Nat → Value) (k : Nat) (v : Value) : upd β k v k = v := by simp [upd]
theorem upd_ne (β : Nat → Value) {k j : Nat} (v : Value) (h : j ≠ k) : upd β k v j = β j := by simp [upd, h]

variable {N : Nat} {w0 : Base} {s : St} {a : Act} {w : World} {β : Nat → Value}

theorem put_size (a : Act) (d : Option Tmp) (v : Value) : (a.put d v).tmps.size = a.tmps.size := by cases d <;> simp [Act.put]
theorem put_defers' (a : Act) (d : Option Tmp) (v : Value) : (a.put d v).defers = a.defers := by cases d <;> rfl
theorem put_get_self {a : Act} {t : Nat} (v : Value) (h : t < a.tmps.size) : (a.put (some t) v).tmps.getD t undef = v := by simp [Act.put, h]
theorem put_get_ne {a : Act} {t j : Nat} (v : Value) (h : t ≠ j) : (a.put (some t) v).tmps.getD j undef = a.tmps.getD j undef := by
  simp [Act.put, Array.getElem?_setIfInBounds_ne h]

theorem Step.refl (en : En) : Step en en := ⟨rfl, ⟨Nat.le_refl _, fun _ _ _ => rfl, fun _ h => .inl h⟩, fun _ h => ⟨h, rfl⟩⟩

theorem Rel.setTm (R : Rel N w0 s a w β) {t : Nat} {f : FV} {v : Value} (ht : t < N) (h : FVRel (s.en w w0.arg β) f v) :
    Rel N w0 ⟨(t, f) :: s.tm, s.ob⟩ (a.put (some t) v) w β := by
  refine ⟨by rw [put_size]; exact R.sz, by rw [put_defers']; exact R.df, ?_, R.ob, R.nd, R.dj, R.ge, R.low, R.fx⟩
  intro j g hj
  rw [lk_cons] at hj
  split at hj
  · rename_i e; subst e
    simp only [Option.some.injEq] at hj; subst hj
    rw [put_get_self v (by rw [R.sz]; exact ht)]; exact h
  · rename_i e
    rw [put_get_ne v e]; exact R.tm j g hj

/-- More objects, all slots as they were. -/
theorem Rel.tm_step {s' : St} {w' : World} {β' : Nat → Value} (R : Rel N w0 s a w β) (ht : s'.tm = s.tm)
    (S : Step (s.en w w0.arg β) (s'.en w' w0.arg β')) : ∀ t f, lk s'.tm t = some f → FVRel (s'.en w' w0.arg β') f (a.tmps.getD t undef) := by
  intro t f h
  rw [ht] at h
  exact FVRel.step S f _ (R.tm t f h)

theorem Rel.addNil (R : Rel N w0 s a w β) {k e z : Nat} (hk : lk s.ob k = none) : Rel N w0 ⟨s.tm, (k, .arr e z []) :: s.ob⟩ a w (upd β k nilV) := by
  have S : Step (s.en w w0.arg β) (St.en ⟨s.tm, (k, .arr e z []) :: s.ob⟩ w w0.arg (upd β k nilV)) := by
    refine ⟨rfl, ⟨Nat.le_refl _, fun _ _ _ => rfl, ?_⟩, ?_⟩
    · rintro b ⟨j, o, ho, hl, hb⟩
      simp only [St.en, lk_cons] at ho hb
      split at ho
      · rename_i e; subst e; rw [upd_self] at hb; simp [blk] at hb
      · rename_i e; rw [upd_ne _ _ (Ne.symm e)] at hb; exact .inl ⟨j, o, ho, hl, hb⟩
    · intro j hj
      simp only [St.en, lk_cons] at hj ⊢
      have : j ≠ k := fun e => by subst e; simp [hk] at hj
      rw [if_neg (Ne.symm this), upd_ne _ _ this]
      exact ⟨hj, rfl⟩
  have hz : obFp (St.en ⟨s.tm, (k, .arr e z []) :: s.ob⟩ w w0.arg (upd β k nilV)) k = [] := by
    rw [obFp_arr (lk_cons_self _ _ _)]
    show fp w (.own e z []) (upd β k nilV k) = []
    rw [upd_self, fp_own_nil]
  refine R.update S (Low.refl _ _) [k] ?_ ?_ ?_ ?_ R.sz R.df (R.tm_step rfl S)
  · intro j hj
    simp only [List.mem_singleton] at hj
    refine ⟨by simp only [lk_cons]; rw [if_neg (Ne.symm hj)], fun _ _ _ _ _ => rfl⟩
  · intro j hj o ho
    simp only [List.mem_singleton] at hj; subst hj
    simp only [lk_cons_self, Option.some.injEq] at ho; subst ho
    exact .inl ⟨rfl, by simp [St.en, upd_self]⟩
  · intro j hj
    simp only [List.mem_singleton] at hj; subst hj
    rw [hz]; exact List.nodup_nil
  · intro j hj b hb
    simp only [List.mem_singleton] at hj; subst hj
    rw [hz] at hb; cases hb

/-- A step that lays one new block, for one new object. -/
theorem stepAlloc {o : Ob} {k : Nat} (_ : Rel N w0 s a w β) (hk : lk s.ob k = none) (ob : Obj) (v : Value) (hv : ∀ b, blk v = some b → b = w.heap.size) :
    Step (s.en w w0.arg β) (St.en ⟨s.tm, (k, o) :: s.ob⟩ (w.alloc ob) w0.arg (upd β k v)) := by
  refine ⟨rfl, ⟨by simp [St.en], fun b hb _ => heap_alloc_old w ob b hb, ?_⟩, ?_⟩
  · rintro b ⟨j, o', ho, hl, hb⟩
    simp only [St.en, lk_cons] at ho hb
    split at ho
    · rename_i e; subst e; rw [upd_self] at hb; exact .inr (by rw [hv b hb]; exact Nat.le_refl _)
    · rename_i e; rw [upd_ne _ _ (Ne.symm e)] at hb; exact .inl ⟨j, o', ho, hl, hb⟩
  · intro j hj
    simp only [St.en, lk_cons] at hj ⊢
    have : j ≠ k := fun e => by subst e; simp [hk] at hj
    rw [if_neg (Ne.symm this), upd_ne _ _ this]
    exact ⟨hj, rfl⟩

theorem Rel.base_le (R : Rel N w0 s a w β) : w0.heap.size ≤ w.heap.size := R.low.size

theorem Rel.addVar (R : Rel N w0 s a w β) {k : Nat} {cs : List C} {cur : Array Value} {T : TypeId} (hk : lk s.ob k = none)
    (hc : CsRel (s.en w w0.arg β) cs cur.toList) :
    Rel N w0 ⟨s.tm, (k, .var cs) :: s.ob⟩ a (w.alloc (.cells cur T)) (upd β k (.pointer (some ⟨w.heap.size, 0, none⟩))) := by
  have S := stepAlloc (o := .var cs) R hk (.cells cur T) (.pointer (some ⟨w.heap.size, 0, none⟩)) (by simp [blk])
  have hz : obFp (St.en ⟨s.tm, (k, .var cs) :: s.ob⟩ (w.alloc (.cells cur T)) w0.arg (upd β k (.pointer (some ⟨w.heap.size, 0, none⟩)))) k = [w.heap.size] := by
    rw [obFp_var (lk_cons_self _ _ _)]
    show (blk (upd β k _ k)).toList = _
    rw [upd_self]; rfl
  refine R.update S (Low.of ((Bel.refl _ _).alloc R.base_le _)) [k] ?_ ?_ ?_ ?_ R.sz R.df (R.tm_step rfl S)
  · intro j hj
    simp only [List.mem_singleton] at hj
    refine ⟨by simp only [lk_cons]; rw [if_neg (Ne.symm hj)], fun o ho hl b hb => heap_alloc_old w _ b ?_⟩
    exact obFp_lt (en := s.en w w0.arg β) (fun o ho => R.ob j o ho) b (R.live_block ho hl hb)
  · intro j hj o ho
    simp only [List.mem_singleton] at hj; subst hj
    simp only [lk_cons_self, Option.some.injEq] at ho; subst ho
    exact ⟨w.heap.size, cur, T, by simp [St.en, upd_self], heap_alloc_new w _, hc.step S⟩
  · intro j hj
    simp only [List.mem_singleton] at hj; subst hj
    rw [hz]; simp
  · intro j hj b hb
    simp only [List.mem_singleton] at hj; subst hj
    rw [hz] at hb; simp only [List.mem_singleton] at hb; subst hb
    refine ⟨.inl R.base_le, fun j' _ hm => ?_, fun j' hj' hne => ?_⟩
    · have := obFp_lt (en := s.en w w0.arg β) (fun o ho => R.ob j' o ho) _ hm
      simp [St.en] at this
    · simp only [List.mem_singleton] at hj'; exact absurd hj' hne

/-- A new array of one's own in a new block. What it holds of one's own must be given up by the others ('give'), which die. -/
theorem Rel.addArr (R : Rel N w0 s a w β) {k e z : Nat} {xs : List (List D)} {cur : Array Value} {cap : Nat} (hk : lk s.ob k = none)
    (h1 : xs.length ≤ cap) (h2 : cap ≤ maxLen) (h3 : cur.size = cap * z) (hflat : fpEs (w.alloc (.cells cur e)) z xs w.heap.size 0 = [])
    (hr : ∀ M', (∀ b, M' b → (s.en w w0.arg β).M b ∨ w.heap.size ≤ b) → RdEs (w.alloc (.cells cur e)) w0.arg M' z xs w.heap.size 0) :
    Rel N w0 ⟨s.tm, (k, .arr e z xs) :: s.ob⟩ a (w.alloc (.cells cur e)) (upd β k (.slice (some ⟨w.heap.size, 0, none⟩) xs.length cap)) := by
  have S := stepAlloc (o := .arr e z xs) R hk (.cells cur e) (.slice (some ⟨w.heap.size, 0, none⟩) xs.length cap) (by simp [blk])
  have hz : obFp (St.en ⟨s.tm, (k, .arr e z xs) :: s.ob⟩ (w.alloc (.cells cur e)) w0.arg (upd β k (.slice (some ⟨w.heap.size, 0, none⟩) xs.length cap))) k = [w.heap.size] := by
    rw [obFp_arr (lk_cons_self _ _ _)]
    show fp (w.alloc (.cells cur e)) (.own e z xs) (upd β k _ k) = _
    rw [upd_self, fp_own_some, hflat]
  refine R.update S (Low.of ((Bel.refl _ _).alloc R.base_le _)) [k] ?_ ?_ ?_ ?_ R.sz R.df (R.tm_step rfl S)
  · intro j hj
    simp only [List.mem_singleton] at hj
    refine ⟨by simp only [lk_cons]; rw [if_neg (Ne.symm hj)], fun o ho hl b hb => heap_alloc_old w _ b ?_⟩
    exact obFp_lt (en := s.en w w0.arg β) (fun o ho => R.ob j o ho) b (R.live_block ho hl hb)
  · intro j hj o ho
    simp only [List.mem_singleton] at hj; subst hj
    simp only [lk_cons_self, Option.some.injEq] at ho; subst ho
    exact .inr ⟨w.heap.size, cap, cur, by simp [St.en, upd_self], h1, heap_alloc_new w _, h2, h3, hr _ S.K.mem⟩
  · intro j hj
    simp only [List.mem_singleton] at hj; subst hj
    rw [hz]; simp
  · intro j hj b hb
    simp only [List.mem_singleton] at hj; subst hj
    rw [hz] at hb; simp only [List.mem_singleton] at hb; subst hb
    refine ⟨.inl R.base_le, fun j' _ hm => ?_, fun j' hj' hne => ?_⟩
    · have := obFp_lt (en := s.en w w0.arg β) (fun o ho => R.ob j' o ho) _ hm
      simp [St.en] at this
    · simp only [List.mem_singleton] at hj'; exact absurd hj' hne

/-- The contents of one live object's block are written anew; its other parts stay. -/
theorem Rel.setBlock (R : Rel N w0 s a w β) {k g : Nat} {o o' : Ob} {cur cur' : Array Value} {T : TypeId} (ho : lk s.ob k = some o) (hl : o.live = true) (_ : o'.live = true)
    (hβ : blk (β k) = some g) (hg : w.heap[g]? = some (.cells cur T (0, 0)))
    (hsub : Step (s.en w w0.arg β) (St.en ⟨s.tm, (k, o') :: s.ob⟩ (w.setRow g cur') w0.arg β) → List.Sublist (obFp (St.en ⟨s.tm, (k, o') :: s.ob⟩ (w.setRow g cur') w0.arg β) k) (obFp (s.en w w0.arg β) k))
    (hrel : Step (s.en w w0.arg β) (St.en ⟨s.tm, (k, o') :: s.ob⟩ (w.setRow g cur') w0.arg β) → ObRel (St.en ⟨s.tm, (k, o') :: s.ob⟩ (w.setRow g cur') w0.arg β) k o') :
    Rel N w0 ⟨s.tm, (k, o') :: s.ob⟩ a (w.setRow g cur') β := by
  have hgk := R.live_block ho hl hβ
  have S : Step (s.en w w0.arg β) (St.en ⟨s.tm, (k, o') :: s.ob⟩ (w.setRow g cur') w0.arg β) := by
    refine ⟨rfl, ⟨by simp [St.en], fun b hb hm => ?_, ?_⟩, ?_⟩
    · refine setRow_other w g b cur' ?_
      intro e; subst e; exact hm ⟨k, o, ho, hl, hβ⟩
    · rintro b ⟨j, o'', hj, hl'', hb⟩
      simp only [St.en, lk_cons] at hj hb
      split at hj
      · rename_i e; subst e; exact .inl ⟨k, o, ho, hl, hb⟩
      · exact .inl ⟨j, o'', hj, hl'', hb⟩
    · intro j hj
      simp only [St.en, lk_cons] at hj ⊢
      split
      · exact ⟨rfl, trivial⟩
      · exact ⟨hj, trivial⟩
  have hlow : w0.mine g := R.ge k g hgk
  refine R.update S ?_ [k] ?_ ?_ ?_ ?_ R.sz R.df (R.tm_step rfl S)
  · exact ⟨rfl, rfl, rfl, by simp, fun b hb => setRow_other w g b cur' (by rintro rfl; exact hlow.elim (fun h => Nat.lt_irrefl _ (Nat.lt_of_lt_of_le hb.1 h)) hb.2), Nat.le_refl _⟩
  · intro j hj
    simp only [List.mem_singleton] at hj
    refine ⟨by simp only [lk_cons]; rw [if_neg (Ne.symm hj)], fun o'' ho'' hl'' b hb => setRow_other w g b cur' ?_⟩
    intro e; subst e
    exact R.dj k j (Ne.symm hj) b hgk (R.live_block ho'' hl'' hb)
  · intro j hj o'' ho''
    simp only [List.mem_singleton] at hj; subst hj
    simp only [lk_cons_self, Option.some.injEq] at ho''; subst ho''
    exact hrel S
  · intro j hj
    simp only [List.mem_singleton] at hj; subst hj
    exact (R.nd j).sublist (hsub S)
  · intro j hj b hb
    simp only [List.mem_singleton] at hj; subst hj
    have hb' := (hsub S).subset hb
    refine ⟨R.ge j b hb', fun j' hj' => R.dj j j' (fun e => hj' (by simp [e])) b hb', fun j' hj' hne => ?_⟩
    simp only [List.mem_singleton] at hj'; exact absurd hj' hne

end Go.Sm
