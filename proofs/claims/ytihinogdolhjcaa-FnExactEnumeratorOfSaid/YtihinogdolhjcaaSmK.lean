/- What a call is given and what it gives back: the contract of a function over pure data. -/
import Derived.Test.YtihinogdolhjcaaSmJ
namespace Go.Sm
open Go.RowKit

variable {P : Program} {N : Nat} {w0 : Base} {s : St} {a : Act} {w : World} {β : Nat → Value}

/-- A value as pure data: one cell, a struct or an array, several results. -/
inductive RV where
  | one (x : D)
  | agg (xs : List D)
  | tup (ps : List (Bool × List D))
  deriving Inhabited

def cellsR : RV → List D
  | .one x => [x]
  | .agg xs => xs
  | .tup ps => ps.flatMap (·.2)

def CompShape : List (Bool × List D) → List Value → List Value → Prop
  | [], us, vs => us = [] ∧ vs = []
  | (b, ds) :: ps, us, vs => ∃ u r x c, us = u :: r ∧ vs = x ++ c ∧ x.length = ds.length ∧ (match b with | true => u = .agg x.toArray | false => x = [u]) ∧ CompShape ps r c

def RShape : RV → Value → List Value → Prop
  | .one _, v, vs => vs = [v]
  | .agg _, v, vs => v = .agg vs.toArray
  | .tup ps, v, vs => ∃ us : List Value, v = .tuple us.toArray ∧ CompShape ps us vs

/-- A value that is an argument of a call that begins in w. -/
def AV (w : World) (r : RV) (v : Value) : Prop :=
  ∃ vs, RShape r v vs ∧ (cellsR r).all noOwn = true ∧ DsV (Rd w (Old w) fun _ => False) (cellsR r) vs

/-- A value that a call has made: all its memory is new since block B0, and no two parts share. -/
def OwnV (w : World) (own : Nat → Prop) (r : RV) (v : Value) : Prop :=
  ∃ vs, RShape r v vs ∧ freshCs (cellsR r) = true ∧ DsV (Rd w (fun _ => False) fun _ => False) (cellsR r) vs ∧ (fpDs w (cellsR r) vs).Nodup ∧ ∀ b ∈ fpDs w (cellsR r) vs, own b

def AVs (w : World) : List RV → List Value → Prop
  | [], vs => vs = []
  | r :: rs, vs => ∃ v q, vs = v :: q ∧ AV w r v ∧ AVs w rs q

/-- THE CONTRACT: called with these data, in whatever world, the function returns that. -/
def Entered (P : Program) (f : FuncId) : Prop := ∃ fn, P.funcs[f]? = some fn ∧ (fn.name == "runtime.NumGoroutine") = false ∧ fn.body.isNone = false
def CallOK (P : Program) (f : FuncId) (args : List RV) (r : RV) : Prop :=
  Entered P f ∧ ∀ (w : World) (vs : List Value), AVs w args vs → Calls P f vs.toArray w fun e w' => ∃ v, e = .returned v ∧ OwnV w' (fun b => w.heap.size ≤ b) r v ∧ Bel w.heap.size w w'

/-! ### arguments -/

def argC (ob : Nat → Option Ob) : C → Option D
  | .d x => some x.arg
  | .ob k => match ob k with
    | some (.arr _ z xs) => some (.vw true z (argEs xs))
    | some (.mp es) => some (.mp es)
    | _ => none
  | .win k z lo n => match ob k with
    | some (.arr _ z' xs) => match Nat.beq z z' with
      | true => some (.vw true z (argEs ((xs.drop lo).take n)))
      | false => none
    | _ => none
  | _ => none

def argCs' (ob : Nat → Option Ob) : List C → Option (List D)
  | [] => some []
  | c :: cs => match argC ob c, argCs' ob cs with
    | some d, some ds => some (d :: ds)
    | _, _ => none

def argF (ob : Nat → Option Ob) : FV → Option RV
  | .c x => match argC ob x with
    | some d => some (.one d)
    | none => none
  | .g xs => match argCs' ob xs with
    | some ds => some (.agg ds)
    | none => none
  | _ => none

theorem RdEs.dropE {w : World} {B : Nat → Prop} {M : Nat → Prop} {b k : Nat} : ∀ (n : Nat) (xs : List (List D)) (off : Nat), RdEs w B M k xs b off → RdEs w B M k (xs.drop n) b (off + n * k)
  | 0, xs, off, h => by simpa using h
  | n + 1, [], off, h => by simp [RdEs]
  | n + 1, x :: xs, off, h => by
    simp only [RdEs] at h
    have := RdEs.dropE n xs (off + k) h.2.2
    rw [show off + (n + 1) * k = off + k + n * k by rw [Nat.add_mul]; omega]
    simpa using this
theorem RdEs.takeE {w : World} {B : Nat → Prop} {M : Nat → Prop} {b k : Nat} : ∀ (n : Nat) (xs : List (List D)) (off : Nat), RdEs w B M k xs b off → RdEs w B M k (xs.take n) b off
  | 0, xs, off, h => by simp [RdEs]
  | n + 1, [], off, h => by simp [RdEs]
  | n + 1, x :: xs, off, h => by
    simp only [RdEs, List.take_succ_cons] at h ⊢
    exact ⟨h.1, h.2.1, RdEs.takeE n xs (off + k) h.2.2⟩

theorem argC_sound (R : Rel N w0 s a w β) {c : C} {d : D} {v : Value} (h : argC (lk s.ob) c = some d) (hv : CRel (s.en w w0.arg β) c v) :
    noOwn d = true ∧ Rd w (Old w) (fun _ => False) d v := by
  unfold argC at h
  split at h
  · rename_i x
    simp only [Option.some.injEq] at h; subst h
    exact ⟨by simp [noOwn, arg_isOwn], Rd.arg x v hv.2.2⟩
  · rename_i k
    split at h
    · rename_i e z xs hob
      simp only [Option.some.injEq] at h; subst h
      refine ⟨rfl, ?_⟩
      obtain ⟨_, rfl, _⟩ := hv
      have hr : OwnRel w w0.arg (s.en w w0.arg β).M e z xs (β k) := R.ob k _ hob
      show Rd w (Old w) _ _ (β k)
      simp only [Rd, length_argEs]
      rcases hr with ⟨rfl, h⟩ | ⟨b, cap, cur, h1, h2, h3, h4, h5, h6⟩
      · exact .inl ⟨rfl, h⟩
      · exact .inr ⟨b, 0, cap, h1, h2, not_false, lt_of_heap h3, fun _ => lt_of_heap h3, RdEs.arg xs 0 h6⟩
    · rename_i es hob
      simp only [Option.some.injEq] at h; subst h
      refine ⟨rfl, ?_⟩
      obtain ⟨_, rfl, _⟩ := hv
      obtain ⟨r, ents, clock, h1, h2, h3⟩ := R.ob k _ hob
      simp only [Rd]
      exact ⟨r, ents, clock, h1, not_false, h2, h3⟩
    · cases h
  · rename_i k z lo n
    split at h
    · rename_i e z' xs hob
      split at h
      · rename_i hz
        obtain rfl := nat_beq hz
        simp only [Option.some.injEq] at h; subst h
        refine ⟨rfl, ?_⟩
        obtain ⟨_, hv⟩ := hv
        have hr : OwnRel w w0.arg (s.en w w0.arg β).M e z xs (β k) := R.ob k _ hob
        simp only [Rd, length_argEs]
        rcases hv with ⟨_, rfl, rfl⟩ | ⟨g, L, cap, off, c', hβ, rfl, hoff, hle, hle'⟩
        · exact .inl ⟨by simp [argEs], rfl⟩
        · rcases hr with ⟨rfl, h⟩ | ⟨b, cap', cur, h1, h2, h3, h4, h5, h6⟩
          · have hβ' : β k = _ := hβ
            rw [h] at hβ'; simp at hβ'
          · have hβ' : β k = _ := hβ
            rw [h1] at hβ'
            simp only [Value.slice.injEq, Option.some.injEq, Addr.mk.injEq, and_true] at hβ'
            obtain ⟨rfl, rfl, rfl⟩ := hβ'
            refine .inr ⟨b, off, c', ?_, ?_, not_false, lt_of_heap h3, fun _ => lt_of_heap h3, ?_⟩
            · congr 1; simp; omega
            · simp; omega
            · rcases hoff with rfl | rfl
              · simp [argEs, RdEs]
              · have := (h6.dropE lo).takeE n
                rw [Nat.zero_add] at this
                exact RdEs.arg _ _ this
      · cases h
    · cases h
  · cases h

theorem argCs_sound (R : Rel N w0 s a w β) : ∀ {cs : List C} {ds : List D} {vs : List Value}, argCs' (lk s.ob) cs = some ds → CsRel (s.en w w0.arg β) cs vs →
    ds.all noOwn = true ∧ DsV (Rd w (Old w) fun _ => False) ds vs
  | [], ds, [], h, _ => by simp [argCs'] at h; subst h; exact ⟨rfl, rfl⟩
  | [], _, _ :: _, _, h => h.elim
  | _ :: _, _, [], _, h => h.elim
  | c :: cs, ds, v :: vs, h, hv => by
    simp only [argCs'] at h
    split at h
    · rename_i d ds' h1 h2
      simp only [Option.some.injEq] at h; subst h
      obtain ⟨a1, a2⟩ := argC_sound R h1 hv.1
      obtain ⟨b1, b2⟩ := argCs_sound R h2 hv.2
      exact ⟨by rw [List.all_cons, a1, b1]; rfl, v, vs, rfl, a2, b2⟩
    · cases h

theorem argF_sound (R : Rel N w0 s a w β) {f : FV} {r : RV} {v : Value} (h : argF (lk s.ob) f = some r) (hv : FVRel (s.en w w0.arg β) f v) : AV w r v := by
  unfold argF at h
  split at h
  · split at h
    · rename_i d hd
      simp only [Option.some.injEq] at h; subst h
      simp only [FVRel] at hv
      obtain ⟨a1, a2⟩ := argC_sound R hd hv
      exact ⟨[v], rfl, by simpa [cellsR] using a1, ⟨v, [], rfl, a2, rfl⟩⟩
    · cases h
  · split at h
    · rename_i ds hd
      simp only [Option.some.injEq] at h; subst h
      simp only [FVRel] at hv
      obtain ⟨vs, rfl, hv⟩ := hv
      obtain ⟨a1, a2⟩ := argCs_sound R hd hv
      exact ⟨vs, rfl, a1, a2⟩
    · cases h
  · cases h

/-! ### results that come back: new objects -/

def impCs : Nat → List D → List C
  | _, [] => []
  | k, .own _ _ _ :: r => .ob k :: impCs (k + 1) r
  | k, x :: r => .d x :: impCs (k + 1) r
def impOs : Nat → List D → List (Nat × Ob)
  | _, [] => []
  | k, .own e z xs :: r => (k, .arr e z xs) :: impOs (k + 1) r
  | k, _ :: r => impOs (k + 1) r
def impPs : Nat → List (Bool × List D) → List FV
  | _, [] => []
  | k, (true, ds) :: r => .g (impCs k ds) :: impPs (k + ds.length) r
  | k, (false, [d]) :: r => (match impCs k [d] with | [c] => .c c | _ => .und) :: impPs (k + 1) r
  | k, (false, ds) :: r => .und :: impPs (k + ds.length) r
def impF (k : Nat) : RV → FV
  | .one x => match impCs k [x] with | [c] => .c c | _ => .und
  | .agg xs => .g (impCs k xs)
  | .tup ps => .t (impPs k ps)

/-- The world behind a call: what was there stands. -/
theorem Rel.world (R : Rel N w0 s a w β) {w' : World} (h : Bel w.heap.size w w') : Rel N w0 s a w' β := by
  have S : Step (s.en w w0.arg β) (s.en w' w0.arg β) := ⟨rfl, ⟨h.size, fun b hb _ => h.block b hb, fun b hb => .inl hb⟩, fun k hk => ⟨hk, rfl⟩⟩
  refine R.update S (Low.of (h.mono R.base_le)) [] (fun k _ => ⟨rfl, fun o ho hl b hb => h.block b ?_⟩) (fun k hk => by cases hk) (fun k hk => by cases hk) (fun k hk => by cases hk) R.sz R.df (R.tm_step rfl S)
  exact obFp_lt (en := s.en w w0.arg β) (fun o ho => R.ob k o ho) b (R.live_block ho hl hb)

def ownAt (ds : List D) (key k : Nat) : Option (Nat × Nat × List (List D)) :=
  if key ≤ k then match ds[k - key]? with
    | some (.own e z xs) => some (e, z, xs)
    | _ => none
  else none

theorem ownAt_cons_succ {d : D} {ds : List D} {key k : Nat} (h : k ≠ key) : ownAt (d :: ds) key k = ownAt ds (key + 1) k := by
  unfold ownAt
  by_cases hk : key ≤ k
  · rw [if_pos hk, if_pos (by omega : key + 1 ≤ k), show k - key = (k - (key + 1)) + 1 by omega, List.getElem?_cons_succ]
  · rw [if_neg hk, if_neg (by omega)]
theorem ownAt_self {d : D} {ds : List D} {key : Nat} : ownAt (d :: ds) key key = match d with | .own e z xs => some (e, z, xs) | _ => none := by
  unfold ownAt
  cases d <;> simp
theorem ownAt_lt {ds : List D} {key k : Nat} (h : k < key) : ownAt ds key k = none := by
  unfold ownAt; rw [if_neg (by omega)]

theorem impOs_lk (ob : List (Nat × Ob)) (k : Nat) : ∀ (ds : List D) (key : Nat), lk (impOs key ds ++ ob) k = match ownAt ds key k with
    | some (e, z, xs) => some (.arr e z xs)
    | none => lk ob k
  | [], key => by simp [impOs, ownAt]
  | d :: ds, key => by
    by_cases hk : k = key
    · subst hk
      rw [ownAt_self]
      cases d <;> simp only [impOs, List.cons_append]
      case own => rw [lk_cons_self]
      all_goals rw [impOs_lk ob k ds (k + 1), ownAt_lt (by omega)]
    · rw [ownAt_cons_succ hk]
      cases d <;> simp only [impOs, List.cons_append]
      case own => rw [lk_cons_ne _ _ (Ne.symm hk)]; exact impOs_lk ob k ds (key + 1)
      all_goals exact impOs_lk ob k ds (key + 1)

theorem impOs_mem (k : Nat) : ∀ (ds : List D) (key : Nat), k ∈ (impOs key ds).map (·.1) ↔ ∃ q, ownAt ds key k = some q
  | [], key => by simp [impOs, ownAt]
  | d :: ds, key => by
    by_cases hk : k = key
    · subst hk
      rw [ownAt_self]
      have hno : ¬ k ∈ (impOs (k + 1) ds).map (·.1) := by rw [impOs_mem k ds (k + 1), ownAt_lt (by omega)]; simp
      cases d <;> simp [impOs] <;> simpa using hno
    · rw [ownAt_cons_succ hk, ← impOs_mem k ds (key + 1)]
      cases d <;> simp [impOs, hk]

theorem fresh_lk (ob : List (Nat × Ob)) : ∀ (os : List (Nat × Ob)), freshOs ob os = true → ∀ k ∈ os.map (·.1), lk ob k = none
  | [], _, k, h => by simp at h
  | (j, o) :: r, hf, k, h => by
    simp only [freshOs, Bool.and_eq_true, Option.isNone_iff_eq_none] at hf
    rcases List.mem_cons.1 h with h | h
    · simp only at h; subst h
      have : ∀ (r : List (Nat × Ob)), lk (r ++ ob) k = none → lk ob k = none := by
        intro r
        induction r with
        | nil => intro h; simpa using h
        | cons x r ih =>
          obtain ⟨y, z⟩ := x
          intro h
          rw [List.cons_append, lk_cons] at h
          split at h
          · cases h
          · exact ih h
      exact this r hf.2
    · exact fresh_lk ob r hf.1 k h

def impB (β : Nat → Value) (key : Nat) (ds : List D) (vs : List Value) : Nat → Value := fun k => match ownAt ds key k with
  | some _ => (vs[k - key]?).getD undef
  | none => β k

theorem fpDs_mem {w : World} {Q : D → Value → Prop} {b : Nat} : ∀ {ds : List D} {vs : List Value}, DsV Q ds vs → ∀ (i : Nat) (d : D) (v : Value), ds[i]? = some d → vs[i]? = some v → b ∈ fp w d v → b ∈ fpDs w ds vs
  | [], _, _, i, d, v, h, _, _ => by simp at h
  | x :: xs, vs, h, i, d, v, hd, hv, hb => by
    obtain ⟨u, r, rfl, _, h⟩ := h
    simp only [fpDs, List.headD_cons, List.tail_cons, List.mem_append]
    cases i with
    | zero => simp at hd hv; subst hd; subst hv; exact .inl hb
    | succ i => exact .inr (fpDs_mem h i d v (by simpa using hd) (by simpa using hv) hb)
theorem fpDs_nd {w : World} {Q : D → Value → Prop} : ∀ {ds : List D} {vs : List Value}, DsV Q ds vs → (fpDs w ds vs).Nodup → ∀ (i : Nat) (d : D) (v : Value), ds[i]? = some d → vs[i]? = some v →
    (fp w d v).Nodup ∧ ∀ (j : Nat) (d' : D) (v' : Value), j ≠ i → ds[j]? = some d' → vs[j]? = some v' → ∀ b ∈ fp w d v, b ∉ fp w d' v'
  | [], _, _, _, i, d, v, h, _ => by simp at h
  | x :: xs, vs, h, hn, i, d, v, hd, hv => by
    obtain ⟨u, r, rfl, _, h⟩ := h
    simp only [fpDs, List.headD_cons, List.tail_cons] at hn
    obtain ⟨n1, n2, n3⟩ := List.nodup_append.1 hn
    cases i with
    | zero =>
      simp at hd hv; subst hd; subst hv
      refine ⟨n1, fun j d' v' hj hd' hv' b hb hb' => ?_⟩
      cases j with
      | zero => exact absurd rfl hj
      | succ j => exact n3 b hb b (fpDs_mem h j d' v' (by simpa using hd') (by simpa using hv') hb') rfl
    | succ i =>
      obtain ⟨m1, m2⟩ := fpDs_nd h n2 i d v (by simpa using hd) (by simpa using hv)
      refine ⟨m1, fun j d' v' hj hd' hv' b hb hb' => ?_⟩
      cases j with
      | zero =>
        simp at hd' hv'; subst hd'; subst hv'
        exact n3 b hb' b (fpDs_mem h i d v (by simpa using hd) (by simpa using hv) hb) rfl
      | succ j => exact m2 j d' v' (by omega) (by simpa using hd') (by simpa using hv') b hb hb'

theorem DsV.get {Q : D → Value → Prop} : ∀ {ds : List D} {vs : List Value}, DsV Q ds vs → ∀ (i : Nat) (d : D), ds[i]? = some d → ∃ v, vs[i]? = some v ∧ Q d v
  | [], _, _, i, d, h => by simp at h
  | x :: xs, vs, h, i, d, hd => by
    obtain ⟨u, r, rfl, h1, h⟩ := h
    cases i with
    | zero => simp at hd; subst hd; exact ⟨u, rfl, h1⟩
    | succ i => simpa using h.get i d (by simpa using hd)

theorem freshCs_get : ∀ {ds : List D}, freshCs ds = true → ∀ (i : Nat) (d : D), ds[i]? = some d → d.fresh = true
  | [], _, i, d, h => by simp at h
  | x :: xs, hf, i, d, hd => by
    simp only [freshCs, Bool.and_eq_true] at hf
    cases i with
    | zero => simp at hd; subst hd; exact hf.1
    | succ i => exact freshCs_get hf.2 i d (by simpa using hd)

theorem impCs_rel {en : En} {key0 : Nat} : ∀ (ds : List D) (vs : List Value) (key : Nat), DsV (fun _ _ => True) ds vs →
    (∀ (i : Nat) (d : D) (v : Value), ds[i]? = some d → vs[i]? = some v → match d with
      | .own _ _ _ => CRel en (.ob (key + i)) v
      | d => CRel en (.d d) v) → CsRel en (impCs key ds) vs
  | [], vs, key, h, _ => by simp only [DsV] at h; subst h; trivial
  | d :: ds, vs, key, h, hq => by
    obtain ⟨v, r, rfl, _, h⟩ := h
    have h0 := hq 0 d v rfl rfl
    have hr := impCs_rel (key0 := key0) ds r (key + 1) h fun i d v hd hv => by
      have := hq (i + 1) d v (by simpa using hd) (by simpa using hv)
      rw [show key + (i + 1) = key + 1 + i by omega] at this
      exact this
    cases d <;> exact ⟨h0, hr⟩

theorem Rel.import (R : Rel N w0 s a w β) {w' : World} (h : Bel w.heap.size w w') {key : Nat} {ds : List D} {vs : List Value} (hfr : freshOs s.ob (impOs key ds) = true)
    (hf : freshCs ds = true) (hd : DsV (Rd w' (fun _ => False) fun _ => False) ds vs) (hnd : (fpDs w' ds vs).Nodup) (hge : ∀ b ∈ fpDs w' ds vs, w.heap.size ≤ b) :
    ∃ β', Rel N w0 ⟨s.tm, impOs key ds ++ s.ob⟩ a w' β' ∧ CsRel (St.en ⟨s.tm, impOs key ds ++ s.ob⟩ w' w0.arg β') (impCs key ds) vs := by
  have hkey : ∀ k q, ownAt ds key k = some q → lk s.ob k = none := fun k q hq => fresh_lk s.ob _ hfr k ((impOs_mem k ds key).2 ⟨q, hq⟩)
  have hown : ∀ k e z xs, ownAt ds key k = some (e, z, xs) → ∃ i v, k = key + i ∧ ds[i]? = some (.own e z xs) ∧ vs[i]? = some v ∧ impB β key ds vs k = v ∧ Rd w' (fun _ => False) (fun _ => False) (.own e z xs) v := by
    intro k e z xs hq
    have hq' := hq
    unfold ownAt at hq'
    split at hq'
    · rename_i hle
      split at hq'
      · rename_i e' z' xs' hdi
        simp only [Option.some.injEq, Prod.mk.injEq] at hq'
        obtain ⟨rfl, rfl, rfl⟩ := hq'
        obtain ⟨v, hv, hr⟩ := hd.get (k - key) _ hdi
        exact ⟨k - key, v, by omega, hdi, hv, by simp [impB, hq, hv], hr⟩
      · cases hq'
    · cases hq'
  have hlk := fun k => impOs_lk s.ob k ds key
  have hblk : ∀ k e z xs b, ownAt ds key k = some (e, z, xs) → blk (impB β key ds vs k) = some b → w.heap.size ≤ b := by
    intro k e z xs b hq hb
    obtain ⟨i, v, rfl, hdi, hvi, hβ, hr⟩ := hown k e z xs hq
    rw [hβ] at hb
    refine hge b (fpDs_mem hd i _ v hdi hvi ?_)
    simp only [Rd] at hr
    rcases hr with ⟨_, rfl⟩ | ⟨g, cap, cur, rfl, _⟩
    · simp [blk] at hb
    · simp [blk] at hb; subst hb; rw [fp_own_some]; simp
  have S : Step (s.en w w0.arg β) (St.en ⟨s.tm, impOs key ds ++ s.ob⟩ w' w0.arg (impB β key ds vs)) := by
    refine ⟨rfl, ⟨h.size, fun b hb _ => h.block b hb, ?_⟩, ?_⟩
    · rintro b ⟨k, o, ho, hl, hb⟩
      have ho' : lk (impOs key ds ++ s.ob) k = some o := ho
      rw [hlk] at ho'
      cases hq : ownAt ds key k with
      | some q => obtain ⟨e, z, xs⟩ := q; exact .inr (hblk k e z xs b hq hb)
      | none =>
        rw [hq] at ho'
        have hb' : blk (impB β key ds vs k) = some b := hb
        simp only [impB, hq] at hb'
        exact .inl ⟨k, o, ho', hl, hb'⟩
    · intro k hk
      have hq : ownAt ds key k = none := by
        cases hq : ownAt ds key k with
        | none => rfl
        | some q => have := hkey k q hq; have hk' : (lk s.ob k).isSome = true := hk; rw [this] at hk'; simp at hk'
      refine ⟨?_, by show impB β key ds vs k = β k; simp [impB, hq]⟩
      show (lk (impOs key ds ++ s.ob) k).isSome = true
      rw [hlk, hq]; exact hk
  -- each new object
  have hnew : ∀ k e z xs, ownAt ds key k = some (e, z, xs) → ObRel (St.en ⟨s.tm, impOs key ds ++ s.ob⟩ w' w0.arg (impB β key ds vs)) k (.arr e z xs) ∧
      ∃ i v, k = key + i ∧ ds[i]? = some (.own e z xs) ∧ vs[i]? = some v ∧ obFp (St.en ⟨s.tm, impOs key ds ++ s.ob⟩ w' w0.arg (impB β key ds vs)) k = fp w' (.own e z xs) v := by
    intro k e z xs hq
    obtain ⟨i, v, rfl, hdi, hvi, hβ, hr⟩ := hown k e z xs hq
    have hlkk : lk (impOs key ds ++ s.ob) (key + i) = some (.arr e z xs) := by rw [hlk, hq]
    refine ⟨?_, i, v, rfl, hdi, hvi, by rw [obFp_arr (en := St.en ⟨s.tm, impOs key ds ++ s.ob⟩ w' w0.arg (impB β key ds vs)) hlkk]; show fp w' _ (impB β key ds vs (key + i)) = _; rw [hβ]⟩
    show OwnRel w' w0.arg _ e z xs (impB β key ds vs (key + i))
    rw [hβ]
    have hfi : freshEs xs = true := freshCs_get hf i _ hdi
    simp only [Rd] at hr
    rcases hr with hr | ⟨g, cap, cur, rfl, h1, h2, h3, h4, h5, h6⟩
    · exact .inl hr
    · refine .inr ⟨g, cap, cur, rfl, h1, h3, h4, h5, RdEs.free xs 0 hfi h6 fun b hb hM => ?_⟩
      have hbF : b ∈ fp w' (.own e z xs) (.slice (some ⟨g, 0, none⟩) xs.length cap) := by rw [fp_own_some]; exact List.mem_cons_of_mem _ hb
      obtain ⟨k', o, ho, hl, hbk⟩ := hM
      have ho' : lk (impOs key ds ++ s.ob) k' = some o := ho
      rw [hlk] at ho'
      cases hq' : ownAt ds key k' with
      | none =>
        rw [hq'] at ho'
        have hbk' : blk (impB β key ds vs k') = some b := hbk
        simp only [impB, hq'] at hbk'
        have h7 := obFp_lt (en := s.en w w0.arg β) (fun o ho => R.ob k' o ho) b (R.live_block ho' hl hbk')
        have h8 := hge b (fpDs_mem hd i _ _ hdi hvi hbF)
        have h7' : b < w.heap.size := h7
        omega
      | some q =>
        obtain ⟨e', z', xs'⟩ := q
        obtain ⟨i', v', rfl, hdi', hvi', hβ', hr'⟩ := hown k' e' z' xs' hq'
        have hbk' : blk (impB β key ds vs (key + i')) = some b := hbk
        rw [hβ'] at hbk'
        have hb' : b ∈ fp w' (.own e' z' xs') v' := by
          simp only [Rd] at hr'
          rcases hr' with ⟨_, rfl⟩ | ⟨g', cap', cur', rfl, _⟩
          · simp [blk] at hbk'
          · simp [blk] at hbk'; subst hbk'; rw [fp_own_some]; simp
        by_cases hii : i' = i
        · subst hii
          rw [hdi] at hdi'; rw [hvi] at hvi'
          simp only [Option.some.injEq, D.own.injEq] at hdi' hvi'
          obtain ⟨rfl, rfl, rfl⟩ := hdi'
          subst hvi'
          simp [blk] at hbk'
          subst hbk'
          have := (fpDs_nd hd hnd i' _ _ hdi hvi).1
          rw [fp_own_some] at this
          exact (List.nodup_cons.1 this).1 hb
        · exact (fpDs_nd hd hnd i _ _ hdi hvi).2 i' _ _ hii hdi' hvi' b hbF hb'
  refine ⟨impB β key ds vs, R.update S (Low.of (h.mono R.base_le)) ((impOs key ds).map (·.1)) ?_ ?_ ?_ ?_ R.sz R.df (R.tm_step rfl S), ?_⟩
  · intro k hk
    have hq : ownAt ds key k = none := by
      cases hq : ownAt ds key k with
      | none => rfl
      | some q => exact absurd ((impOs_mem k ds key).2 ⟨q, hq⟩) hk
    refine ⟨by show lk (impOs key ds ++ s.ob) k = _; rw [hlk, hq], fun o ho hl b hb => h.block b ?_⟩
    exact obFp_lt (en := s.en w w0.arg β) (fun o ho => R.ob k o ho) b (R.live_block ho hl hb)
  · intro k hk o ho
    obtain ⟨⟨e, z, xs⟩, hq⟩ := (impOs_mem k ds key).1 hk
    have ho' : lk (impOs key ds ++ s.ob) k = some o := ho
    rw [hlk, hq] at ho'
    simp only [Option.some.injEq] at ho'; subst ho'
    exact (hnew k e z xs hq).1
  · intro k hk
    obtain ⟨⟨e, z, xs⟩, hq⟩ := (impOs_mem k ds key).1 hk
    obtain ⟨i, v, _, hdi, hvi, hfp⟩ := (hnew k e z xs hq).2
    rw [hfp]
    exact (fpDs_nd hd hnd i _ v hdi hvi).1
  · intro k hk b hb
    obtain ⟨⟨e, z, xs⟩, hq⟩ := (impOs_mem k ds key).1 hk
    obtain ⟨i, v, hki, hdi, hvi, hfp⟩ := (hnew k e z xs hq).2
    rw [hfp] at hb
    have hbge := hge b (fpDs_mem hd i _ v hdi hvi hb)
    refine ⟨.inl (Nat.le_trans R.base_le hbge), fun k' _ hm => ?_, fun k' hk' hne hm => ?_⟩
    · have h7 : b < w.heap.size := obFp_lt (en := s.en w w0.arg β) (fun o ho => R.ob k' o ho) b hm
      omega
    · obtain ⟨⟨e', z', xs'⟩, hq'⟩ := (impOs_mem k' ds key).1 hk'
      obtain ⟨i', v', hki', hdi', hvi', hfp'⟩ := (hnew k' e' z' xs' hq').2
      rw [hfp'] at hm
      exact (fpDs_nd hd hnd i _ v hdi hvi).2 i' _ v' (by omega) hdi' hvi' b hb hm
  · refine impCs_rel (key0 := 0) ds vs key (hd.mono fun _ _ _ => trivial) fun i d v hdi hvi => ?_
    obtain ⟨v', hv', hr⟩ := hd.get i d hdi
    rw [hvi] at hv'
    simp only [Option.some.injEq] at hv'; subst hv'
    have hone := hr.one
    have hfr := freshCs_get hf i d hdi
    cases d with
    | own e z xs =>
      have hq : ownAt ds key (key + i) = some (e, z, xs) := by
        unfold ownAt
        rw [if_pos (by omega), show key + i - key = i by omega, hdi]
      refine ⟨?_, ?_, hone⟩
      · show (lk (impOs key ds ++ s.ob) (key + i)).isSome = true
        rw [hlk, hq]; rfl
      · show v = impB β key ds vs (key + i)
        simp only [impB, hq, show key + i - key = i by omega, hvi, Option.getD_some]
    | v x => exact ⟨rfl, hone, by simpa only [Rd] using hr⟩
    | vw aa z xs => simp [D.fresh] at hfr
    | mp es => simp [D.fresh] at hfr

end Go.Sm
