/- Regions whose order is drawn: quiet operations in any order, and then the rest in a row. -/
import Derived.Test.YtihinogdolhjcaaSmV
namespace Go.Sm
open Go.RowKit

variable {P : Program} {N : Nat} {w0 : Base} {s : St} {a : Act} {w : World} {β : Nat → Value}

/-! ### states that know the same -/

theorem FVRel.envTm {s s' : St} (h : ∀ k, lk s.ob k = lk s'.ob k) (w : World) (B : Nat → Prop) (β : Nat → Value) : s.en w B β = s'.en w B β := by
  unfold St.en
  congr 1
  funext k; exact h k

theorem Rel.ext (R : Rel N w0 s a w β) {s' : St} (ht : ∀ t, lk s'.tm t = lk s.tm t) (ho : ∀ k, lk s.ob k = lk s'.ob k) : Rel N w0 s' a w β := by
  have e := FVRel.envTm ho w w0.arg β
  refine ⟨R.sz, R.df, ?_, ?_, ?_, ?_, ?_, R.low, ?_⟩
  · intro t f h; rw [← e]; exact R.tm t f (by rw [← ht]; exact h)
  · intro k o h; rw [← e]; exact R.ob k o (by rw [ho]; exact h)
  · intro k; rw [← e]; exact R.nd k
  · intro k k'; rw [← e]; exact R.dj k k'
  · intro k; rw [← e]; exact R.ge k
  · intro k c h; rw [← ho]; exact R.fx k c h

theorem lk_append {α : Type} : ∀ (l r : List (Nat × α)) (t : Nat), lk (l ++ r) t = (lk l t).or (lk r t)
  | [], r, t => by simp [lk]
  | (a, b) :: l, r, t => by
    simp only [List.cons_append, lk_cons]
    split
    · simp
    · exact lk_append l r t

theorem lk_filter {α : Type} (p : Nat → Bool) : ∀ (l : List (Nat × α)) (t : Nat), lk (l.filter fun x => p x.1) t = if p t = true then lk l t else none
  | [], t => by simp [lk]
  | (a, b) :: l, t => by
    simp only [List.filter_cons]
    split
    · rename_i h
      simp only [lk_cons, lk_filter p l t]
      by_cases e : a = t
      · subst e; simp [h]
      · simp [e]
    · rename_i h
      rw [lk_filter p l t]
      by_cases e : a = t
      · subst e; simp [h]
      · simp [lk_cons, e]

theorem freshOs_iff {ob : List (Nat × Ob)} : ∀ {ns : List (Nat × Ob)}, freshOs ob ns = true ↔ (∀ k ∈ ns.map (·.1), lk ob k = none) ∧ (ns.map (·.1)).Nodup
  | [] => by simp [freshOs]
  | (k, o) :: ns => by
    have hl : ∀ {l : List (Nat × Ob)} {k : Nat}, lk l k = none ↔ k ∉ l.map (·.1) := by
      intro l k
      induction l with
      | nil => simp [lk]
      | cons p l ih =>
        obtain ⟨a, b⟩ := p
        simp only [lk_cons, List.map_cons, List.mem_cons, not_or]
        by_cases e : a = k
        · subst e; simp
        · simp only [if_neg e, ih]
          exact ⟨fun h => ⟨fun e' => e e'.symm, h⟩, fun h => h.2⟩
    simp only [freshOs, Bool.and_eq_true, freshOs_iff (ns := ns), Option.isNone_iff_eq_none, lk_append, List.map_cons, List.mem_cons, List.nodup_cons]
    constructor
    · rintro ⟨⟨h1, h2⟩, h3⟩
      have h4 : lk ns k = none := by
        cases hk : lk ns k with
        | none => rfl
        | some o => rw [hk] at h3; simp at h3
      rw [h4] at h3
      refine ⟨?_, hl.1 h4, h2⟩
      rintro k' (rfl | hk')
      · simpa using h3
      · exact h1 k' hk'
    · rintro ⟨h1, h2, h3⟩
      refine ⟨⟨fun k' hk' => h1 k' (.inr hk'), h3⟩, ?_⟩
      rw [hl.2 h2, h1 k (.inl rfl)]; rfl

theorem lk_none_iff {α : Type} {l : List (Nat × α)} {k : Nat} : lk l k = none ↔ k ∉ l.map (·.1) := by
  induction l with
  | nil => simp [lk]
  | cons p l ih =>
    obtain ⟨a, b⟩ := p
    simp only [lk_cons, List.map_cons, List.mem_cons, not_or]
    by_cases e : a = k
    · subst e; simp
    · simp only [if_neg e, ih]
      exact ⟨fun h => ⟨fun e' => e e'.symm, h⟩, fun h => h.2⟩

/-! ### what stands after what -/

def aft (o : Oper) : List Nat := (o.after.toList.filter fun e => Region.binds .any e).map (·.on)
def dstOf (o : Oper) : Nat := o.dst.getD 0
def aftI (ops : List Oper) (i : Nat) : List Nat := (ops[i]?.map aft).getD []
/-- j stands before i. -/
inductive An (ops : List Oper) : Nat → Nat → Prop where
  | d {j i : Nat} : j ∈ aftI ops i → An ops j i
  | t {j k i : Nat} : An ops j k → k ∈ aftI ops i → An ops j i

theorem An.listed {ops : List Oper} {L : Nat → Prop} (hc : ∀ k, L k → ∀ j ∈ aftI ops k, L j) {j i : Nat} (h : An ops j i) (hi : ∀ k ∈ aftI ops i, L k) : L j := by
  induction h with
  | d h => exact hi _ h
  | t _ h2 ih => exact ih fun k hk => hc _ (hi _ h2) k hk

def row (rows : List (List Nat)) (i : Nat) : List Nat := (rows[i]?).getD []
def badR (ops : List Oper) (m : Nat) (rows : List (List Nat)) (i : Nat) : List Nat := ((List.range m).filter fun j => !(row rows i).elem j).map fun j => (ops[j]?.map dstOf).getD 0

def nodupB : List Nat → Bool
  | [] => true
  | x :: xs => !xs.elem x && nodupB xs
theorem nodupB_iff : ∀ {l : List Nat}, nodupB l = true → l.Nodup
  | [], _ => List.nodup_nil
  | x :: xs, h => by
    simp only [nodupB, Bool.and_eq_true, Bool.not_eq_true'] at h
    refine List.nodup_cons.2 ⟨fun hx => ?_, nodupB_iff h.2⟩
    have := List.elem_eq_true_of_mem hx
    rw [this] at h; exact absurd h.1 (by simp)

/-- The first m operations have places of their own; 'rows' tells what stands before each; each of the others stands after all before it; 'bs' are the places that each of the first may not read. -/
def drawOk (ops : List Oper) (m : Nat) (rows bs : List (List Nat)) : Bool :=
  Nat.ble m ops.length && ((ops.take m).all fun o => o.dst.isSome) && nodupB ((ops.take m).map dstOf) &&
  ((List.range ops.length).all fun i => (aftI ops i).all fun j => Nat.blt j i) &&
  ((List.range ops.length).all fun j => Nat.blt j m || (List.range j).all fun i => (row rows j).elem i) &&
  ((List.range ops.length).all fun i => (row rows i).all fun j => (aftI ops i).elem j || (aftI ops i).any fun k => (row rows k).elem j) &&
  (bs == (List.range m).map (badR ops m rows))

def cut (bad : List Nat) (s : St) : St := ⟨s.tm.filter (fun p => !bad.elem p.1), s.ob.filter (fun p => !bad.elem (p.1 / 64))⟩
def nsOk (d : Nat) (ns : List (Nat × Ob)) : Bool := ns.all fun p => Nat.beq (p.1 / 64) d

/-- One operation, wherever no less is known than in t. -/
def GoodOp (F : Fn) (w0 : Base) (Q : Exit → Act → World → Prop) (all : Array Oper) (i : Nat) (t : St) (d : Nat) (v : FV) (ns : List (Nat × Ob)) : Prop :=
  ∀ s a w β (K : Act → World → Prop), Rel F.N w0 s a w β → Le (lk t.tm) (lk s.tm) → Le (lk t.ob) (lk s.ob) → freshOs s.ob ns = true →
    (∀ a' w' β', Rel F.N w0 ⟨(d, v) :: s.tm, ns ++ s.ob⟩ a' w' β' → K a' w') → wpOp F.P all Q i K a w

/-- The quiet operations in the order of the list, and what comes then. -/
def DrS (F : Fn) (w0 : Base) (Q : Exit → Act → World → Prop) (all : Array Oper) (k : List It) (m : Nat) : List (List Nat) → Nat → List Oper → St → Prop
  | _, _, [], s => J F.P F.N w0 (cont F.P F.N w0 Q k) [.ops all (all.toList.drop m)] s
  | [], _, _ :: _, _ => False
  | b :: bs, i, o :: os, s => ∃ d v ns, o.dst = some d ∧ d < F.N ∧ freshOs s.ob ns = true ∧ nsOk d ns = true ∧ GoodOp F w0 (cont F.P F.N w0 Q k) all i (cut b s) d v ns ∧
      DrS F w0 Q all k m bs (i + 1) os ⟨(d, v) :: s.tm, ns ++ s.ob⟩

/-! ### the order that is drawn -/

theorem ready_iff {md : Region.Mode} {ops : Array Oper} {listed : Array Bool} {i : Nat} : i ∈ Region.ready md ops listed ↔ i < ops.size ∧ listed.getD i true = false ∧
    ∃ o, ops[i]? = some o ∧ ∀ e ∈ o.after, Region.binds md e = true → listed.getD e.on false = true := by
  unfold Region.ready
  simp only [List.mem_filter, List.mem_range, Bool.and_eq_true, Bool.not_eq_true']
  constructor
  · rintro ⟨h1, h2, h3⟩
    refine ⟨h1, h2, ?_⟩
    cases ho : ops[i]? with
    | none => simp [ho] at h3
    | some o =>
      refine ⟨o, rfl, fun e he hb => ?_⟩
      simp only [ho, Option.map_some, Option.getD_some, Array.all_eq_true_iff_forall_mem] at h3
      have := h3 e he
      simpa [hb] using this
  · rintro ⟨h1, h2, o, ho, h3⟩
    refine ⟨h1, h2, ?_⟩
    simp only [ho, Option.map_some, Option.getD_some, Array.all_eq_true_iff_forall_mem]
    intro e he
    cases hb : Region.binds md e with
    | false => rfl
    | true => simpa using h3 e he hb

theorem getD_set {listed : Array Bool} {i j : Nat} (hi : i < listed.size) (b : Bool) : (listed.setIfInBounds i true).getD j b = if i = j then true else listed.getD j b := by
  rw [Array.getD_eq_getD_getElem?, Array.getElem?_setIfInBounds, Array.getD_eq_getD_getElem?]
  by_cases e : i = j
  · subst e; simp [hi]
  · simp [e]

/-- How many are not listed yet. -/
def left (n : Nat) (listed : Array Bool) : Nat := (List.range n).countP fun i => !listed.getD i true

theorem left_set {n : Nat} {listed : Array Bool} {i : Nat} (hn : listed.size = n) (hi : i < n) (hl : listed.getD i true = false) : left n (listed.setIfInBounds i true) + 1 = left n listed := by
  unfold left
  have hf : (fun j => !(listed.setIfInBounds i true).getD j true) = fun j => !(if i = j then true else listed.getD j true) := funext fun j => by rw [getD_set (by rw [hn]; exact hi)]
  rw [hf]
  have key : ∀ (l : List Nat), l.Nodup → (if i ∈ l then 1 else 0) + l.countP (fun j => !(if i = j then true else listed.getD j true)) = l.countP fun j => !listed.getD j true := by
    intro l
    induction l with
    | nil => simp
    | cons j l ih =>
      intro hnd
      obtain ⟨h1, h2⟩ := List.nodup_cons.1 hnd
      have := ih h2
      rw [List.countP_cons, List.countP_cons]
      by_cases e : i = j
      · subst e
        rw [if_neg h1] at this
        rw [if_pos (List.mem_cons_self ..), if_pos rfl, hl]
        simp only [Bool.not_true, Bool.not_false, if_true, Bool.false_eq_true, if_false]
        omega
      · rw [if_neg e]
        by_cases hil : i ∈ l
        · rw [if_pos hil] at this; rw [if_pos (List.mem_cons_of_mem _ hil)]; omega
        · rw [if_neg hil] at this; rw [if_neg (by simp [e, hil])]; omega
  have := key (List.range n) List.nodup_range
  simp only [List.mem_range, hi, if_true] at this
  omega

theorem left_pos {n : Nat} {listed : Array Bool} {i : Nat} (hi : i < n) (hl : listed.getD i true = false) : 0 < left n listed := by
  unfold left
  rw [List.countP_pos_iff]
  exact ⟨i, List.mem_range.2 hi, by simp [hl]⟩

/-- The rest in a row. -/
theorem wpAny_row {Q : Exit → Act → World → Prop} {ops : Array Oper} {m : Nat} (hrow : ∀ j, m ≤ j → j < ops.size → ∀ i < j, An ops.toList i j)
    (hpre : ∀ j o, ops[j]? = some o → ∀ e ∈ o.after, Region.binds .any e = true → e.on < j) :
    ∀ (r j : Nat) (fuel : Nat) (listed : Array Bool) (a : Act) (w : World), j + r = ops.size → m ≤ j → listed.size = ops.size → left ops.size listed ≤ fuel →
    (∀ i < j, listed.getD i false = true) → (∀ i, j ≤ i → i < ops.size → listed.getD i true = false) → wpList P ops Q (ops.toList.drop j) a w → wpAny P .any ops Q fuel listed a w
  | r, j, fuel, listed, a, w, hr, hm, hsz, hfu, hdone, hun, h => by
    have hready : ∀ i, i ∈ Region.ready .any ops listed → i = j := by
      intro i hi
      obtain ⟨h1, h2, o, ho, h3⟩ := ready_iff.1 hi
      rcases Nat.lt_trichotomy i j with hlt | rfl | hgt
      · have := hdone i hlt
        rw [Array.getD_eq_getD_getElem?] at this h2
        cases hx : listed[i]? with
        | none => simp [hx] at this
        | some b => simp [hx] at this h2; rw [this] at h2; cases h2
      · rfl
      · have hinv : ∀ {x : Nat} {o : Oper}, ops[x]? = some o → ∀ y ∈ aftI ops.toList x, ∃ e ∈ o.after, Region.binds .any e = true ∧ e.on = y := by
          intro x o ho y hy
          simp only [aftI, Array.getElem?_toList, ho, Option.map_some, Option.getD_some, aft, List.mem_map, List.mem_filter] at hy
          obtain ⟨e, ⟨h1, h2⟩, h3⟩ := hy
          exact ⟨e, by simpa using h1, h2, h3⟩
        have h4 := (hrow i (Nat.le_trans hm (Nat.le_of_lt hgt)) h1 j hgt).listed (L := fun x => listed.getD x false = true) (fun k hk y hy => by
          have hkj : k < j := by
            refine Nat.lt_of_not_le fun hge => ?_
            rcases Nat.lt_or_ge k ops.size with hlt | hge'
            · have := hun k hge hlt
              rw [Array.getD_eq_getD_getElem?] at this hk
              have hs : k < listed.size := by omega
              simp [hs] at this hk
              rw [this] at hk; cases hk
            · rw [Array.getD_eq_getD_getElem?] at hk
              have hs : listed.size ≤ k := by omega
              simp [hs] at hk
          cases ho : ops[k]? with
          | none => simp [aftI, ho] at hy
          | some o =>
            obtain ⟨e, he, hb, rfl⟩ := hinv ho y hy
            exact hdone _ (Nat.lt_trans (hpre k o ho e he hb) hkj)) (fun y hy => by
          obtain ⟨e, he, hb, rfl⟩ := hinv ho y hy
          exact h3 e he hb)
        have h5 := hun j (Nat.le_refl _) (Nat.lt_trans hgt h1)
        rw [Array.getD_eq_getD_getElem?] at h4 h5
        cases hx : listed[j]? with
        | none => simp [hx] at h4
        | some b => simp [hx] at h4 h5; rw [h4] at h5; cases h5
    cases r with
    | zero =>
      have hj : j = ops.size := by omega
      have hnil : Region.ready .any ops listed = [] := by
        rw [List.eq_nil_iff_forall_not_mem]
        intro i hi
        have := hready i hi
        have := (ready_iff.1 hi).1
        omega
      have hd : ops.toList.drop j = [] := by rw [List.drop_eq_nil_iff]; simp [hj]
      rw [hd] at h
      cases fuel with
      | zero => exact ⟨hnil, h⟩
      | succ fuel => exact ⟨fun _ => h, fun i hi => by rw [hnil] at hi; cases hi⟩
    | succ r =>
      have hjl : j < ops.size := by omega
      have hpos := left_pos hjl (hun j (Nat.le_refl _) hjl)
      cases fuel with
      | zero => omega
      | succ fuel =>
        have hmem : j ∈ Region.ready .any ops listed := by
          refine ready_iff.2 ⟨hjl, hun j (Nat.le_refl _) hjl, ops[j], by simp [hjl], fun e he hb => hdone _ (hpre j _ (by simp [hjl]) e he hb)⟩
        refine ⟨fun hn => (by rw [hn] at hmem; cases hmem), fun i hi => ?_⟩
        obtain rfl := hready i hi
        rw [List.drop_eq_getElem_cons (by simpa using hjl)] at h
        simp only [wpList, Array.getElem_toList] at h
        unfold wpOp
        simp only [Array.getElem?_eq_getElem hjl]
        have next : ∀ a w, wpList P ops Q (ops.toList.drop (i + 1)) a w → wpAny P .any ops Q fuel (listed.setIfInBounds i true) a w := fun a w h =>
          wpAny_row hrow hpre r (i + 1) fuel _ a w (by omega) (by omega) (by simp [hsz]) (by have := left_set (listed := listed) hsz hjl (hun i (Nat.le_refl _) hjl); omega)
            (fun j hj => by
              rw [getD_set (by rw [hsz]; exact hjl)]
              split
              · rfl
              · exact hdone j (by omega))
            (fun j hj hjs => by
              rw [getD_set (by rw [hsz]; exact hjl), if_neg (by omega)]
              exact hun j (by omega) hjs) h
        split at h
        · rename_i hw
          rw [if_pos hw]
          exact h.imp (Oper.wp_mono next) id
        · rename_i hw
          rw [if_neg hw]
          exact next _ _ h

end Go.Sm
