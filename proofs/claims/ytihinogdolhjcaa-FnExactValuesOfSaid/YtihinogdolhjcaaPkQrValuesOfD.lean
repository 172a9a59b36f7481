/- Towards FnExactValuesOfSaid: the program's function returns what the reference's returns. Part 4 of 7. -/
import Derived.Test.YtihinogdolhjcaaPkQrValuesOfA
import Derived.Test.YtihinogdolhjcaaPkQrValuesOfB
import Derived.Test.YtihinogdolhjcaaPkQrValuesOfC
namespace Go.Sm
open Go.RowKit

variable {P : Program} {N : Nat} {w0 : Base} {s : St} {a : Act} {w : World} {β : Nat → Value}

def tkAt (tk : List (List Nat)) (i : Nat) : List Nat := (tk[i]?).getD []
def badR3 (ops : List Oper) (m : Nat) (rows : List (List Nat)) (i : Nat) : List Nat := ((List.range m).filter fun j => !(row rows i).elem j).filterMap fun j => (ops[j]?).bind (·.dst)
def hidR (m : Nat) (rows tk : List (List Nat)) (alts : List (Nat × Nat × Nat)) (i : Nat) : List Nat := ((List.range m).filter fun j => !(row rows i).elem j && !(row rows j).elem i && !Nat.beq j i).flatMap fun j => (tkAt tk j).filter fun x => !(lk alts i == some (j, x))

def cut2 (bad hid : List Nat) (s : St) : St := ⟨s.tm.filter (fun p => !bad.elem p.1), s.ob.filter (fun p => !bad.elem (p.1 / 64) && !hid.elem p.1)⟩
def nsOk3 (d : Option Nat) (tk : List Nat) (ns : List (Nat × Ob)) : Bool := ns.all fun p => d == some (p.1 / 64) || tk.elem p.1
/-- What op i writes, if it was told ahead. -/
def noOk (no : List (Nat × Ob)) (tk : List Nat) (i : Nat) (ns : List (Nat × Ob)) : Prop := match lk no i with
  | none => True
  | some ob => ∀ x ∈ tk, lk ns x = some ob

/-- One operation, wherever no less is known than in t. -/
def GoodOp3 (F : Fn) (w0 : Base) (Q : Exit → Act → World → Prop) (all : Array Oper) (i : Nat) (t : St) (d : Option Nat) (v : FV) (ns : List (Nat × Ob)) (fk : List Nat) : Prop :=
  ∀ s a w β (K : Act → World → Prop), Rel F.N w0 s a w β → Le (lk t.tm) (lk s.tm) → Le (lk t.ob) (lk s.ob) → (∀ x ∈ fk, lk s.ob x = none) →
    (∀ a' w' β', Rel F.N w0 ((⟨s.tm, ns ++ s.ob⟩ : St).put d v) a' w' β' → K a' w') → wpOp F.P all Q i K a w

/-- The same where another operation, of no known order, may have written. -/
def AltOp (F : Fn) (w0 : Base) (Q : Exit → Act → World → Prop) (all : Array Oper) (alts : List (Nat × Nat × Nat)) (no : List (Nat × Ob)) (i : Nat) (b h : List Nat) (s : St) (d : Option Nat) (v : FV) (ns : List (Nat × Ob)) (fk : List Nat) : Prop :=
  match lk alts i with
  | none => True
  | some (j, x) => match lk no j with
    | some ob => GoodOp3 F w0 Q all i (cut2 b h ⟨s.tm, (x, ob) :: s.ob⟩) d v ns fk
    | none => False

/-- The quiet operations in the order of the list, and what comes then. -/
def DrS3 (F : Fn) (w0 : Base) (Q : Exit → Act → World → Prop) (all : Array Oper) (k : List It) (m : Nat) (tk : List (List Nat)) (alts : List (Nat × Nat × Nat)) (no : List (Nat × Ob)) : List (List Nat) → List (List Nat) → Nat → List Oper → St → Prop
  | _, _, _, [], s => J F.P F.N w0 (cont F.P F.N w0 Q k) [.ops all (all.toList.drop m)] s
  | b :: bs, h :: hs, i, o :: os, s => ∃ v ns fk, (∀ x ∈ fk, o.dst = some (x / 64) ∧ lk s.ob x = none) ∧ nsOk3 o.dst (tkAt tk i) ns = true ∧ GoodOp3 F w0 (cont F.P F.N w0 Q k) all i (cut2 b h s) o.dst v ns fk ∧
      AltOp F w0 (cont F.P F.N w0 Q k) all alts no i b h s o.dst v ns fk ∧ noOk no (tkAt tk i) i ns ∧ DrS3 F w0 Q all k m tk alts no bs hs (i + 1) os ((⟨s.tm, ns ++ s.ob⟩ : St).put o.dst v)
  | _, _, _, _ :: _, _ => False

def drawOk3 (ops : List Oper) (m : Nat) (rows bs tk hs : List (List Nat)) (alts : List (Nat × Nat × Nat)) : Bool :=
  Nat.ble m ops.length && nodupB ((ops.take m).filterMap (·.dst)) &&
  ((List.range ops.length).all fun i => (aftI ops i).all fun j => Nat.blt j i) &&
  ((List.range ops.length).all fun j => Nat.blt j m || (List.range j).all fun i => (row rows j).elem i) &&
  ((List.range ops.length).all fun i => (row rows i).all fun j => (aftI ops i).elem j || (aftI ops i).any fun k => (row rows k).elem j) &&
  (bs == (List.range m).map (badR3 ops m rows)) && (hs == (List.range m).map (hidR m rows tk alts)) &&
  ((List.range m).all fun j => (tkAt tk j).all fun x => (List.range m).all fun i => (!((ops[i]?).bind (·.dst) == some (x / 64)) || (row rows j).elem i)) &&
  ((List.range m).all fun j => (tkAt tk j).all fun x => (List.range j).all fun i => (!(tkAt tk i).elem x || (row rows j).elem i)) &&
  (alts.all fun q => Nat.blt q.1 q.2.1 && Nat.blt q.2.1 m && (tkAt tk q.2.1).elem q.2.2 && !(tkAt tk q.1).elem q.2.2 && ((List.range m).all fun j => (!(tkAt tk j).elem q.2.2 || Nat.ble j q.2.1)))

/-- The state s is s0 with the outcomes of the operations in D. -/
structure Kn3 (m : Nat) (d : Nat → Option Nat) (v : Nat → FV) (ns : Nat → List (Nat × Ob)) (s0 : St) (D : Nat → Prop) (s : St) : Prop where
  t1 : ∀ i < m, D i → ∀ x, d i = some x → lk s.tm x = some (v i)
  t2 : ∀ x, (∀ i < m, D i → d i ≠ some x) → lk s.tm x = lk s0.tm x
  o1 : ∀ x, ∀ i < m, D i → x ∈ (ns i).map (·.1) → (∀ j < m, D j → x ∈ (ns j).map (·.1) → j ≤ i) → lk s.ob x = lk (ns i) x
  o2 : ∀ x, (∀ i < m, D i → x ∉ (ns i).map (·.1)) → lk s.ob x = lk s0.ob x

theorem greatest {p : Nat → Prop} : ∀ (m : Nat), (∃ i, i < m ∧ p i) → ∃ i, i < m ∧ p i ∧ ∀ j < m, p j → j ≤ i
  | 0, ⟨i, h, _⟩ => absurd h (Nat.not_lt_zero _)
  | m + 1, ⟨i, h, hp⟩ => by
    by_cases hm : p m
    · exact ⟨m, Nat.lt_succ_self m, hm, fun j hj _ => Nat.le_of_lt_succ hj⟩
    · have hi : i < m := by
        rcases Nat.lt_or_ge i m with h' | h'
        · exact h'
        · exact absurd (by rwa [show i = m by omega] at hp) hm
      obtain ⟨g, g1, g2, g3⟩ := greatest m ⟨i, hi, hp⟩
      refine ⟨g, Nat.lt_succ_of_lt g1, g2, fun j hj hpj => ?_⟩
      rcases Nat.lt_or_ge j m with h' | h'
      · exact g3 j h' hpj
      · exact absurd (by rwa [show j = m by omega] at hpj) hm

variable {m : Nat} {d : Nat → Option Nat} {v : Nat → FV} {ns : Nat → List (Nat × Ob)} {s0 : St} {D D' : Nat → Prop}

theorem Kn3.step (K : Kn3 m d v ns s0 D s) (hd : ∀ i < m, ∀ j < m, ∀ x, d i = some x → d j = some x → i = j) {i : Nat} (hi : i < m)
    (hord : ∀ j < m, D j → ∀ x, x ∈ (ns j).map (·.1) → x ∈ (ns i).map (·.1) → j ≤ i) (hD' : ∀ j < m, D' j ↔ D j ∨ j = i) :
    Kn3 m d v ns s0 D' ((⟨s.tm, ns i ++ s.ob⟩ : St).put (d i) (v i)) := by
  have hob : ((⟨s.tm, ns i ++ s.ob⟩ : St).put (d i) (v i)).ob = ns i ++ s.ob := by cases d i <;> rfl
  have htm : ∀ x, lk ((⟨s.tm, ns i ++ s.ob⟩ : St).put (d i) (v i)).tm x = if d i = some x then some (v i) else lk s.tm x := by
    intro x
    cases hdi : d i with
    | none => simp [St.put]
    | some y =>
      simp only [St.put, lk_cons, Option.some.injEq]
  have hself : D' i := (hD' i hi).2 (.inr rfl)
  refine ⟨?_, ?_, ?_, ?_⟩
  · intro j hj hDj x hx
    rw [htm]
    by_cases e : j = i
    · subst e; rw [if_pos hx]
    · have : D j := ((hD' j hj).1 hDj).resolve_right e
      rw [if_neg (fun h => e (hd j hj i hi x hx h))]
      exact K.t1 j hj this x hx
  · intro x hx
    rw [htm, if_neg (hx i hi hself)]
    exact K.t2 x fun j hj hDj => hx j hj ((hD' j hj).2 (.inl hDj))
  · intro x j hj hDj hxj hgr
    rw [hob, lk_append]
    by_cases e : j = i
    · subst e
      cases hl : lk (ns j) x with
      | none => exact absurd hxj (lk_none_iff.1 hl)
      | some o => rfl
    · have hDj' : D j := ((hD' j hj).1 hDj).resolve_right e
      have hxi : x ∉ (ns i).map (·.1) := by
        intro hxi
        have h1 := hgr i hi hself hxi
        have h2 := hord j hj hDj' x hxj hxi
        exact e (by omega)
      rw [lk_none_iff.2 hxi]
      exact K.o1 x j hj hDj' hxj fun j' hj' hD hx' => hgr j' hj' ((hD' j' hj').2 (.inl hD)) hx'
  · intro x hx
    rw [hob, lk_append, lk_none_iff.2 (hx i hi hself)]
    exact K.o2 x fun j hj hDj => hx j hj ((hD' j hj).2 (.inl hDj))

theorem Kn3.tm_eq {s' : St} (K : Kn3 m d v ns s0 D s) (K' : Kn3 m d v ns s0 D' s') (h : ∀ i < m, D i ↔ D' i) (x : Nat) : lk s'.tm x = lk s.tm x := by
  by_cases hx : ∃ i, i < m ∧ D i ∧ d i = some x
  · obtain ⟨i, hi, hD, hd⟩ := hx
    rw [K.t1 i hi hD x hd, K'.t1 i hi ((h i hi).1 hD) x hd]
  · rw [K.t2 x fun i hi hD e => hx ⟨i, hi, hD, e⟩, K'.t2 x fun i hi hD e => hx ⟨i, hi, (h i hi).2 hD, e⟩]

/-- Two states of which the same operations have written at x know the same of x. -/
theorem Kn3.ob_at {s' : St} {x : Nat} (K : Kn3 m d v ns s0 D s) (K' : Kn3 m d v ns s0 D' s') (h : ∀ i < m, x ∈ (ns i).map (·.1) → (D i ↔ D' i)) : lk s.ob x = lk s'.ob x := by
  by_cases hx : ∃ i, i < m ∧ (D i ∧ x ∈ (ns i).map (·.1))
  · obtain ⟨g, g1, ⟨g2, g3⟩, g4⟩ := greatest m hx
    rw [K.o1 x g g1 g2 g3 fun j hj hD hk => g4 j hj ⟨hD, hk⟩, K'.o1 x g g1 ((h g g1 g3).1 g2) g3 fun j hj hD hk => g4 j hj ⟨(h j hj hk).2 hD, hk⟩]
  · rw [K.o2 x fun i hi hD e => hx ⟨i, hi, hD, e⟩, K'.o2 x fun i hi hD e => hx ⟨i, hi, (h i hi e).2 hD, e⟩]

theorem DrS3.get {F : Fn} {Q : Exit → Act → World → Prop} {all : Array Oper} {k : List It} {m : Nat} {tk : List (List Nat)} {alts : List (Nat × Nat × Nat)} {no : List (Nat × Ob)} : ∀ {os : List Oper} {bs hs : List (List Nat)} {i : Nat} {s : St}, DrS3 F w0 Q all k m tk alts no bs hs i os s →
    ∃ (d : Nat → Option Nat) (v : Nat → FV) (ns : Nat → List (Nat × Ob)) (fk : Nat → List Nat) (st : Nat → St), st i = s ∧
      (∀ j, i ≤ j → j < i + os.length → (∀ o, os[j - i]? = some o → o.dst = d j) ∧ (∀ x ∈ fk j, d j = some (x / 64) ∧ lk (st j).ob x = none) ∧ nsOk3 (d j) (tkAt tk j) (ns j) = true ∧
        (∀ b h, bs[j - i]? = some b → hs[j - i]? = some h → GoodOp3 F w0 (cont F.P F.N w0 Q k) all j (cut2 b h (st j)) (d j) (v j) (ns j) (fk j) ∧ AltOp F w0 (cont F.P F.N w0 Q k) all alts no j b h (st j) (d j) (v j) (ns j) (fk j)) ∧
        noOk no (tkAt tk j) j (ns j) ∧ st (j + 1) = (⟨(st j).tm, ns j ++ (st j).ob⟩ : St).put (d j) (v j)) ∧
      J F.P F.N w0 (cont F.P F.N w0 Q k) [.ops all (all.toList.drop m)] (st (i + os.length))
  | [], bs, hs, i, s, h => by
    have h : J F.P F.N w0 (cont F.P F.N w0 Q k) [.ops all (all.toList.drop m)] s := by cases bs <;> cases hs <;> simpa only [DrS3] using h
    exact ⟨fun _ => none, fun _ => .und, fun _ => [], fun _ => [], fun _ => s, rfl, fun j h1 h2 => by simp at h2; omega, h⟩
  | o :: os, [], hs, i, s, h => by simp only [DrS3] at h
  | o :: os, _ :: _, [], i, s, h => by simp only [DrS3] at h
  | o :: os, b :: bs, h' :: hs, i, s, h => by
    simp only [DrS3] at h
    obtain ⟨v0, ns0, fk0, h3, h4, h5, ha, hn, h6⟩ := h
    obtain ⟨d, v, ns, fk, st, g1, g2, g3⟩ := DrS3.get h6
    refine ⟨fun j => if j = i then o.dst else d j, fun j => if j = i then v0 else v j, fun j => if j = i then ns0 else ns j, fun j => if j = i then fk0 else fk j, fun j => if j = i then s else st j, by simp, ?_, ?_⟩
    · intro j hj1 hj2
      by_cases e : j = i
      · subst e
        simp only [if_true, Nat.sub_self]
        refine ⟨fun o' ho' => by simp at ho'; subst ho'; rfl, h3, h4, fun b' h'' hb' hh' => by simp at hb' hh'; subst hb'; subst hh'; exact ⟨h5, ha⟩, hn, ?_⟩
        rw [if_neg (by omega)]; exact g1
      · simp only [if_neg e]
        rw [if_neg (by omega)]
        have := g2 j (by omega) (by simp at hj2; omega)
        have hs : j - i = (j - (i + 1)) + 1 := by omega
        rw [hs]
        simpa using this
    · have e : i + (o :: os).length = i + 1 + os.length := by simp; omega
      have hne : ¬ i + (o :: os).length = i := by simp
      show J _ _ _ _ _ (if i + (o :: os).length = i then s else st (i + (o :: os).length))
      rw [if_neg hne, e]; exact g3

theorem getD_flip {listed : Array Bool} {i : Nat} (hi : i < listed.size) (b c : Bool) : listed.getD i b = listed.getD i c := by
  rw [Array.getD_eq_getD_getElem?, Array.getD_eq_getD_getElem?]; simp [hi]

theorem lk_mem2 {α : Type} : ∀ {l : List (Nat × α)} {i : Nat} {q : α}, lk l i = some q → (i, q) ∈ l
  | [], _, _, h => by simp [lk] at h
  | (y, z) :: l, i, q, h => by
    rw [lk_cons] at h
    split at h
    · rename_i e; subst e
      simp only [Option.some.injEq] at h; subst h
      exact List.mem_cons_self ..
    · exact List.mem_cons_of_mem _ (lk_mem2 h)

/-- THE DRAWN ORDER: operations that may write, in the order of the list; then the rest. -/
theorem J.draw3 {F : Fn} {Q : Exit → Act → World → Prop} {id : Nat} {ops : Array Oper} {k : List It} (hmix : F.P.follows .mixedOrders = true) (m : Nat) (rows bs tk hs : List (List Nat)) (alts : List (Nat × Nat × Nat)) (no : List (Nat × Ob))
    (hok : drawOk3 ops.toList m rows bs tk hs alts = true)
    (h : DrS3 F w0 Q ops k m tk alts no bs hs 0 (ops.toList.take m) s) : J F.P F.N w0 Q (.code (.region id ops true) :: k) s := by
  simp only [drawOk3, Bool.and_eq_true, List.all_eq_true, List.mem_range, Bool.or_eq_true] at hok
  obtain ⟨⟨⟨⟨⟨⟨⟨⟨⟨hm, hnd⟩, hpre⟩, hrow⟩, hrows⟩, hbs⟩, hhs⟩, htd⟩, htt⟩, hal⟩ := hok
  have hbs : bs = (List.range m).map (badR3 ops.toList m rows) := by simpa using hbs
  have hhs : hs = (List.range m).map (hidR m rows tk alts) := by simpa using hhs
  have hm : m ≤ ops.size := by simpa using Nat.le_of_ble_eq_true hm
  have hlen : (ops.toList.take m).length = m := by simp; omega
  obtain ⟨d, v, ns, fk, st, g1, g2, g3⟩ := DrS3.get h
  simp only [Nat.zero_add, hlen] at g2 g3
  have hop : ∀ i < m, ∃ o, ops[i]? = some o ∧ o.dst = d i ∧ (ops.toList.take m)[i]? = some o := by
    intro i hi
    have hs : i < ops.size := by omega
    refine ⟨ops[i], by simp [hs], ?_, by simp [hi, hs]⟩
    exact (g2 i (Nat.zero_le _) hi).1 _ (by simp [hi, hs])
  have hdst : ∀ i < m, (ops.toList[i]?).bind (·.dst) = d i := by
    intro i hi
    obtain ⟨o, h1, h2, _⟩ := hop i hi
    simp [h1, h2]
  have hd : ∀ i < m, ∀ j < m, ∀ x, d i = some x → d j = some x → i = j := by
    have hnd' := nodupB_iff hnd
    have key : ∀ i < m, ∀ j < m, i < j → ∀ x, d i = some x → d j = some x → False := by
      intro i hi j hj hij x hx hx'
      have hp := (List.pairwise_filterMap.1 hnd')
      have := List.pairwise_iff_getElem.1 hp i j (by rw [hlen]; exact hi) (by rw [hlen]; exact hj) hij
      obtain ⟨o, h1, h2, h3⟩ := hop i hi
      obtain ⟨o', h1', h2', h3'⟩ := hop j hj
      have e1 := (List.getElem?_eq_some_iff.1 h3).2
      have e2 := (List.getElem?_eq_some_iff.1 h3').2
      rw [e1, e2] at this
      exact this x (h2.trans hx) x (h2'.trans hx') rfl
    intro i hi j hj x hx hx'
    rcases Nat.lt_trichotomy i j with hlt | he | hgt
    · exact (key i hi j hj hlt x hx hx').elim
    · exact he
    · exact (key j hj i hi hgt x hx' hx).elim
  have hn : ∀ i < m, ∀ x ∈ (ns i).map (·.1), d i = some (x / 64) ∨ x ∈ tkAt tk i := by
    intro i hi x hx
    obtain ⟨p, hp, rfl⟩ := List.mem_map.1 hx
    have := (List.all_eq_true.1 (g2 i (Nat.zero_le _) hi).2.2.1) p hp
    simp only [Bool.or_eq_true] at this
    exact this.imp (fun h => by simpa using h) elem_iff.1
  have htd' : ∀ j < m, ∀ x ∈ tkAt tk j, ∀ i < m, d i = some (x / 64) → i ∈ row rows j := by
    intro j hj x hx i hi e
    have := htd j hj x hx i hi
    rw [hdst i hi, e] at this
    simpa using this
  have htt' : ∀ j < m, ∀ x ∈ tkAt tk j, ∀ i < j, x ∈ tkAt tk i → i ∈ row rows j := by
    intro j hj x hx i hi hx'
    have := htt j hj x hx i hi
    rw [elem_iff.2 hx'] at this
    simpa using this
  have hpre' : ∀ i < ops.size, ∀ j ∈ aftI ops.toList i, j < i := by
    intro i hi j hj
    have := hpre i (by simpa using hi) j hj
    simpa [Nat.blt_eq] using this
  have hinv : ∀ {x : Nat} {o : Oper}, ops[x]? = some o → ∀ y, y ∈ aftI ops.toList x ↔ ∃ e ∈ o.after, Region.binds .any e = true ∧ e.on = y := by
    intro x o ho y
    simp only [aftI, Array.getElem?_toList, ho, Option.map_some, Option.getD_some, aft, List.mem_map, List.mem_filter]
    constructor
    · rintro ⟨e, ⟨h1, h2⟩, h3⟩; exact ⟨e, by simpa using h1, h2, h3⟩
    · rintro ⟨e, h1, h2, h3⟩; exact ⟨e, ⟨by simpa using h1, h2⟩, h3⟩
  have haft : ∀ j o, ops[j]? = some o → ∀ e ∈ o.after, Region.binds .any e = true → e.on < j := by
    intro j o ho e he hb
    have hj : j < ops.size := (Array.getElem?_eq_some_iff.1 ho).1
    exact hpre' j hj e.on ((hinv ho _).2 ⟨e, he, hb, rfl⟩)
  have hAn : ∀ i, i < ops.size → ∀ j ∈ row rows i, An ops.toList j i := by
    intro i
    induction i using Nat.strongRecOn with
    | _ i ih =>
      intro hi j hj
      rcases hrows i (by simpa using hi) j hj with hd' | hex
      · exact .d (elem_iff.1 hd')
      · obtain ⟨k, hk, hjk⟩ := List.any_eq_true.1 hex
        have hki := hpre' i hi k hk
        exact .t (ih k hki (by omega) j (elem_iff.1 hjk)) hk
  have hrow' : ∀ j, m ≤ j → j < ops.size → ∀ i < j, An ops.toList i j := by
    intro j hmj hj i hi
    rcases hrow j (by simpa using hj) with hb | hall
    · have : j < m := by simpa [Nat.blt_eq] using hb
      omega
    · exact hAn j hj i (elem_iff.1 (hall i hi))
  have hAnlt : ∀ {x y : Nat}, An ops.toList x y → y < ops.size → x < y := by
    intro x y h
    induction h with
    | @d i' h => intro hy; exact hpre' i' hy x h
    | @t k i' _ h2 ih =>
      intro hy
      have := hpre' i' hy k h2
      have := ih (by omega)
      omega
  have hrowlt : ∀ i < m, ∀ j ∈ row rows i, j < i := fun i hi j hj => hAnlt (hAn i (by omega) j hj) (by omega)
  have hnslt : ∀ i < m, ∀ j < m, ∀ x, x ∈ (ns j).map (·.1) → x ∈ (ns i).map (·.1) → i < j → i ∈ row rows j := by
    intro i hi j hj x hxj hxi hij
    rcases hn j hj x hxj with h1 | h1
    · rcases hn i hi x hxi with h2 | h2
      · exact absurd (hd i hi j hj _ h2 h1) (by omega)
      · have := hrowlt i hi j (htd' i hi x h2 j hj h1); omega
    · rcases hn i hi x hxi with h2 | h2
      · exact htd' j hj x h1 i hi h2
      · exact htt' j hj x h1 i hij h2
  have hst : ∀ j, j ≤ m → Kn3 m d v ns s (fun i => i < j) (st j) := by
    intro j
    induction j with
    | zero =>
      intro _
      rw [g1]
      exact ⟨fun i _ h => absurd h (Nat.not_lt_zero _), fun _ _ => rfl, fun _ i _ h => absurd h (Nat.not_lt_zero _), fun _ _ => rfl⟩
    | succ j ih =>
      intro hj
      rw [(g2 j (Nat.zero_le _) hj).2.2.2.2.2]
      exact (ih (Nat.le_of_succ_le hj)).step hd hj (fun j' _ hlt _ _ _ => Nat.le_of_lt hlt) fun i _ => by omega
  intro a w β R
  simp only [cont]
  refine wp_region_any hmix ?_
  have R' : Rel F.N w0 s a { w with drawn := w.drawn + 1 } β := R.world ⟨⟨rfl, rfl, rfl, Nat.le_refl _, fun _ _ => rfl⟩, Nat.le_succ _⟩
  generalize ({ w with drawn := w.drawn + 1 } : World) = w at R'
  clear R
  have fin : ∀ (fuel : Nat) (listed : Array Bool) (s' : St) (a : Act) (w : World) (β : Nat → Value), listed.size = ops.size → left ops.size listed ≤ fuel → (∀ j, m ≤ j → j < ops.size → listed.getD j true = false) →
      Kn3 m d v ns s (fun i => listed.getD i false = true) s' → Rel F.N w0 s' a w β → (∀ i < m, listed.getD i false = true) → wpAny F.P .any ops (cont F.P F.N w0 Q k) fuel listed a w := by
    intro fuel listed s' a w β hsz hle hun K R hdone
    have hiff : ∀ i < m, (i < m ↔ listed.getD i false = true) := fun i hi => ⟨fun _ => hdone i hi, fun _ => hi⟩
    have R2 := R.ext (s' := st m) (fun t => K.tm_eq (hst m (Nat.le_refl _)) (fun i hi => (hiff i hi).symm) t) (fun t => K.ob_at (hst m (Nat.le_refl _)) (fun i hi _ => (hiff i hi).symm))
    have := g3 a w β R2
    simp only [cont] at this
    exact wpAny_row hrow' haft (ops.size - m) m _ listed a w (by omega) (Nat.le_refl _) hsz hle hdone hun this
  have main : ∀ (fuel : Nat) (listed : Array Bool) (s' : St) (a : Act) (w : World) (β : Nat → Value), listed.size = ops.size → left ops.size listed ≤ fuel →
      (∀ j, m ≤ j → j < ops.size → listed.getD j true = false) → (∀ x, listed.getD x false = true → ∀ y ∈ aftI ops.toList x, listed.getD y false = true) → Kn3 m d v ns s (fun i => listed.getD i false = true) s' → Rel F.N w0 s' a w β → wpAny F.P .any ops (cont F.P F.N w0 Q k) fuel listed a w := by
    intro fuel
    induction fuel with
    | zero =>
      intro listed s' a w β hsz hle hun hcl K R
      refine fin 0 listed s' a w β hsz hle hun K R fun i hi => ?_
      have hs : i < listed.size := by omega
      cases hb : listed.getD i true with
      | true => rw [getD_flip hs false true]; exact hb
      | false => have := left_pos (by omega : i < ops.size) hb; omega
    | succ fuel ih =>
      intro listed s' a w β hsz hle hun hcl K R
      by_cases hdone : ∀ i < m, listed.getD i false = true
      · exact fin _ listed s' a w β hsz hle hun K R hdone
      · have hex : ∃ i, i < m ∧ listed.getD i false = false := by
          refine Classical.byContradiction fun hc => hdone fun i hi => ?_
          cases hb : listed.getD i false with
          | true => rfl
          | false => exact absurd ⟨i, hi, hb⟩ hc
        have hleast : ∃ i, i < m ∧ listed.getD i false = false ∧ ∀ j < i, listed.getD j false = true := by
          obtain ⟨i, hi⟩ := hex
          induction i using Nat.strongRecOn with
          | _ i ihi =>
            by_cases hj : ∃ j, j < i ∧ listed.getD j false = false
            · obtain ⟨j, hj1, hj2⟩ := hj
              exact ihi j hj1 ⟨by omega, hj2⟩
            · refine ⟨i, hi.1, hi.2, fun j hj' => ?_⟩
              cases hb : listed.getD j false with
              | true => rfl
              | false => exact absurd ⟨j, hj', hb⟩ hj
        obtain ⟨i0, hi0, hu0, hb0⟩ := hleast
        refine ⟨fun hnil => ?_, fun i hi => ?_⟩
        · have : i0 ∈ Region.ready .any ops listed := by
            obtain ⟨o, ho, _⟩ := hop i0 hi0
            exact ready_iff.2 ⟨by omega, by rw [getD_flip (by omega) true false]; exact hu0, o, ho, fun e he hb => hb0 _ (haft i0 o ho e he hb)⟩
          rw [hnil] at this; cases this
        · obtain ⟨r1, r2, o, ho, r3⟩ := ready_iff.1 hi
          have him : i < m := by
            refine Nat.lt_of_not_le fun hge => ?_
            have := (hrow' i hge r1 i0 (by omega)).listed (L := fun x => listed.getD x false = true) hcl (fun y hy => by
              obtain ⟨e, he, hb, rfl⟩ := (hinv ho y).1 hy
              exact r3 e he hb)
            rw [hu0] at this; cases this
          have g := g2 i (Nat.zero_le _) him
          have hbsi : bs[i - 0]? = some (badR3 ops.toList m rows i) := by
            rw [hbs, Nat.sub_zero, List.getElem?_map, List.getElem?_range him]; rfl
          have hhsi : hs[i - 0]? = some (hidR m rows tk alts i) := by
            rw [hhs, Nat.sub_zero, List.getElem?_map, List.getElem?_range him]; rfl
          obtain ⟨good, alt⟩ := g.2.2.2.1 _ _ hbsi hhsi
          have Ki := hst i (Nat.le_of_lt him)
          have hbad : ∀ j < m, ∀ x, d j = some x → x ∉ badR3 ops.toList m rows i → j ∈ row rows i := by
            intro j hj x hx hnb
            refine Classical.byContradiction fun hc => hnb ?_
            simp only [badR3, List.mem_filterMap, List.mem_filter, List.mem_range]
            refine ⟨j, ⟨hj, ?_⟩, (hdst j hj).trans hx⟩
            have : ¬ (row rows i).elem j = true := fun h => hc (elem_iff.1 h)
            simpa using this
          have hhid : ∀ j < m, j ≠ i → ∀ x ∈ tkAt tk j, x ∉ hidR m rows tk alts i → j ∈ row rows i ∨ i ∈ row rows j ∨ lk alts i = some (j, x) := by
            intro j hj hne x hx hnh
            refine Classical.byContradiction fun hc => hnh ?_
            simp only [not_or] at hc
            simp only [hidR, List.mem_flatMap, List.mem_filter, List.mem_range]
            refine ⟨j, ⟨hj, ?_⟩, hx, ?_⟩
            · have h1 : ¬ (row rows i).elem j = true := fun h => hc.1 (elem_iff.1 h)
              have h3 : ¬ (row rows j).elem i = true := fun h => hc.2.1 (elem_iff.1 h)
              have h2 : Nat.beq j i = false := by
                cases hb : Nat.beq j i with
                | false => rfl
                | true => exact absurd (nat_beq hb) hne
              rw [h2]
              simpa using And.intro h1 h3
            · simpa using hc.2.2
          have hdir : ∀ y ∈ aftI ops.toList i, listed.getD y false = true := fun y hy => by
            obtain ⟨e, he, hb, rfl⟩ := (hinv ho y).1 hy
            exact r3 e he hb
          have haftD : ∀ j, j ∈ row rows i → j < i ∧ listed.getD j false = true := by
            intro j hj
            have hA := hAn i r1 j hj
            exact ⟨hAnlt hA r1, hA.listed (L := fun x => listed.getD x false = true) hcl hdir⟩
          have hul : ¬ listed.getD i false = true := by rw [getD_flip (by omega) false true, r2]; simp
          -- what is done before i when something before j is
          have hbef : ∀ j < m, i ∈ row rows j → ¬ listed.getD j false = true := by
            intro j hj hij hl
            exact hul ((hAn j (by omega) i hij).listed (L := fun x => listed.getD x false = true) hcl (fun y hy => hcl j hl y hy))
          have hLt : Le (lk (st i).tm) (lk (st i).tm) := fun _ _ h => h
          have htmLe : ∀ x f, ¬ x ∈ badR3 ops.toList m rows i → lk (st i).tm x = some f → lk s'.tm x = some f := by
            intro x f hnb hx
            by_cases hxi : ∃ j, j < m ∧ d j = some x
            · obtain ⟨j, hj, hdj⟩ := hxi
              obtain ⟨hji, hjl⟩ := haftD j (hbad j hj x hdj hnb)
              rw [Ki.t1 j hj hji x hdj] at hx
              rw [K.t1 j hj hjl x hdj]; exact hx
            · have hno : ∀ j < m, d j ≠ some x := fun j hj e => hxi ⟨j, hj, e⟩
              rw [Ki.t2 x fun j hj _ => hno j hj] at hx
              rw [K.t2 x fun j hj _ => hno j hj]; exact hx
          have hobEq : ∀ x, ¬ x / 64 ∈ badR3 ops.toList m rows i → ¬ x ∈ hidR m rows tk alts i → (∀ j, lk alts i = some (j, x) → ¬ listed.getD j false = true) → (∀ j, lk alts i = some (j, x) → i < j) → lk (st i).ob x = lk s'.ob x := by
            intro x hnb hnh hal1 hal2
            refine Ki.ob_at K fun j hj hk => ?_
            have hcase : j = i ∨ j ∈ row rows i ∨ i ∈ row rows j ∨ lk alts i = some (j, x) := by
              by_cases e : j = i
              · exact .inl e
              · rcases hn j hj x hk with h1 | h1
                · exact .inr (.inl (hbad j hj _ h1 hnb))
                · exact .inr (hhid j hj e x h1 hnh)
            rcases hcase with rfl | h1 | h1 | h1
            · exact ⟨fun h => absurd h (Nat.lt_irrefl _), fun h => absurd h hul⟩
            · obtain ⟨q1, q2⟩ := haftD j h1
              exact ⟨fun _ => q2, fun _ => q1⟩
            · have := hrowlt j hj i h1
              exact ⟨fun h => absurd h (by omega), fun h => absurd h (hbef j hj h1)⟩
            · have q1 := hal1 j h1
              have q2 := hal2 j h1
              exact ⟨fun h => absurd h (by omega), fun h => absurd h q1⟩
          have hfr : ∀ x ∈ fk i, lk s'.ob x = none := by
            intro x hx
            obtain ⟨hxd, hxn⟩ := g.2.1 x hx
            rw [← hxn]
            refine (Ki.ob_at K fun j hj hk => ?_).symm
            rcases hn j hj x hk with h1 | h1
            · have e := hd j hj i him _ h1 hxd
              subst e
              exact ⟨fun h => absurd h (Nat.lt_irrefl _), fun h => absurd h hul⟩
            · have hij := htd' j hj x h1 i him hxd
              have := hrowlt j hj i hij
              exact ⟨fun h => absurd h (by omega), fun h => absurd h (hbef j hj hij)⟩
          have hnext : ∀ a' w' β', Rel F.N w0 ((⟨s'.tm, ns i ++ s'.ob⟩ : St).put (d i) (v i)) a' w' β' → wpAny F.P .any ops (cont F.P F.N w0 Q k) fuel (listed.setIfInBounds i true) a' w' := by
            intro a' w' β' R'
            have hsi : i < listed.size := by omega
            refine ih _ _ a' w' β' (by simp [hsz]) (by have := left_set hsz r1 r2; omega) (fun j hj hjs => ?_) (fun x hx y hy => ?_) (K.step hd him (fun j hj hl x hxj hxi => ?_) fun j hj => ?_) R'
            · rw [getD_set hsi, if_neg (by omega)]; exact hun j hj hjs
            · rw [getD_set hsi] at hx ⊢
              split
              · rfl
              · by_cases e : i = x
                · subst e; exact hdir y hy
                · rw [if_neg e] at hx; exact hcl x hx y hy
            · refine Nat.le_of_not_lt fun hlt => ?_
              exact hbef j hj (hnslt i him j hj x hxj hxi hlt) hl
            · rw [getD_set hsi]
              by_cases e : i = j
              · simp [e]
              · simp [e, Ne.symm e]
          have htmcut : ∀ (ob : List (Nat × Ob)), Le (lk (cut2 (badR3 ops.toList m rows i) (hidR m rows tk alts i) ⟨(st i).tm, ob⟩).tm) (lk s'.tm) := by
            intro ob x f hx
            simp only [cut2] at hx
            rw [lk_filter (fun y => !(badR3 ops.toList m rows i).elem y)] at hx
            split at hx
            · rename_i hnb
              exact htmLe x f (fun h => by rw [elem_iff.2 h] at hnb; simp at hnb) hx
            · cases hx
          have hobcut : ∀ (ob : List (Nat × Ob)), (∀ x f, ¬ x / 64 ∈ badR3 ops.toList m rows i → ¬ x ∈ hidR m rows tk alts i → lk ob x = some f → lk s'.ob x = some f) →
              Le (lk (cut2 (badR3 ops.toList m rows i) (hidR m rows tk alts i) ⟨(st i).tm, ob⟩).ob) (lk s'.ob) := by
            intro ob hq x f hx
            simp only [cut2] at hx
            rw [lk_filter (fun y => !(badR3 ops.toList m rows i).elem (y / 64) && !(hidR m rows tk alts i).elem y)] at hx
            split at hx
            · rename_i hnb
              simp only [Bool.and_eq_true, Bool.not_eq_true'] at hnb
              exact hq x f (fun h => by rw [elem_iff.2 h] at hnb; simp at hnb) (fun h => by rw [elem_iff.2 h] at hnb; simp at hnb) hx
            · cases hx
          cases hlka : lk alts i with
          | none =>
            refine good s' a w β _ R (htmcut _) (hobcut _ fun x f h1 h2 hx => ?_) hfr hnext
            rw [← hobEq x h1 h2 (fun j h => by rw [hlka] at h; cases h) (fun j h => by rw [hlka] at h; cases h)]; exact hx
          | some q =>
            obtain ⟨j0, x0⟩ := q
            unfold AltOp at alt
            rw [hlka] at alt
            simp only at alt
            have hmem : (i, j0, x0) ∈ alts := lk_mem2 hlka
            have hq := hal _ hmem
            obtain ⟨⟨⟨⟨hq1, hq2⟩, hq3⟩, hq4⟩, hq5⟩ := hq
            have hq1 : i < j0 := by simpa [Nat.blt_eq] using hq1
            have hq2 : j0 < m := by simpa [Nat.blt_eq] using hq2
            have hq3 : x0 ∈ tkAt tk j0 := elem_iff.1 hq3
            have hq5 : ∀ j < m, x0 ∈ tkAt tk j → j ≤ j0 := by
              intro j hj hx
              have := hq5 j hj
              rw [elem_iff.2 hx] at this
              simpa [Nat.ble_eq] using this
            have hgt : ∀ x j, lk alts i = some (j, x) → i < j := by
              intro x j h
              rw [hlka] at h
              simp only [Option.some.injEq, Prod.mk.injEq] at h
              omega
            cases hno : lk no j0 with
            | none => rw [hno] at alt; exact alt.elim
            | some ob =>
              rw [hno] at alt
              by_cases hl0 : listed.getD j0 false = true
              · refine alt s' a w β _ R (htmcut _) (hobcut _ fun x f h1 h2 hx => ?_) hfr hnext
                rw [lk_cons] at hx
                split at hx
                · rename_i e; subst e
                  simp only [Option.some.injEq] at hx; subst hx
                  have hw := (g2 j0 (Nat.zero_le _) hq2).2.2.2.2.1
                  unfold noOk at hw
                  rw [hno] at hw
                  have hw := hw x0 hq3
                  rw [K.o1 x0 j0 hq2 hl0 ?_ ?_, hw]
                  · refine Classical.byContradiction fun hc => ?_
                    rw [lk_none_iff.2 hc] at hw; cases hw
                  · intro j hj hjl hk
                    rcases hn j hj x0 hk with h3 | h3
                    · exact Nat.le_of_lt (hrowlt j0 hq2 j (htd' j0 hq2 x0 hq3 j hj h3))
                    · exact hq5 j hj h3
                · rename_i e
                  rw [← hobEq x h1 h2 (fun j h => by rw [hlka] at h; simp only [Option.some.injEq, Prod.mk.injEq] at h; exact absurd h.2 e) (hgt x)]; exact hx
              · refine good s' a w β _ R (htmcut _) (hobcut _ fun x f h1 h2 hx => ?_) hfr hnext
                rw [← hobEq x h1 h2 (fun j h => by rw [hlka] at h; simp only [Option.some.injEq, Prod.mk.injEq] at h; rw [← h.1]; exact hl0) (hgt x)]; exact hx
  have hf0 : ∀ i, (Array.replicate ops.size false).getD i false = false := by
    intro i
    rw [Array.getD_eq_getD_getElem?]
    by_cases hi : i < ops.size <;> simp [hi]
  refine main ops.size _ s a w β (by simp) ?_ (fun j _ hj => by simp [hj]) (fun x hx => by rw [hf0] at hx; cases hx) ?_ R'
  · unfold left
    refine Nat.le_trans List.countP_le_length (by simp)
  · exact ⟨fun i _ h => absurd ((hf0 i).symm.trans h) (by simp), fun _ _ => rfl, fun _ i _ h => absurd ((hf0 i).symm.trans h) (by simp), fun _ _ => rfl⟩

end Go.Sm

namespace Go.Sm
open Go.RowKit

variable {w0 : Base} {s : St} {a : Act} {w : World} {β : Nat → Value}

theorem lk_cut2_tm (b h : List Nat) (s : St) (x : Nat) : lk (cut2 b h s).tm x = if (!b.elem x) = true then lk s.tm x else none := lk_filter (fun y => !b.elem y) s.tm x
theorem lk_cut2_ob (b h : List Nat) (s : St) (x : Nat) : lk (cut2 b h s).ob x = if (!b.elem (x / 64) && !h.elem x) = true then lk s.ob x else none := lk_filter (fun y => !b.elem (y / 64) && !h.elem y) s.ob x

/-- What may be read of the objects. -/
def obB2 (b h : List Nat) (s : St) (k : Nat) : Option Ob := match b.elem (k / 64) with
  | true => none
  | false => match h.elem k with
    | true => none
    | false => lk s.ob k
theorem tmB2_eq (b h : List Nat) (s : St) : lk (cut2 b h s).tm = tmB b s := by
  funext t
  rw [lk_cut2_tm, tmB]
  cases b.elem t <;> rfl
theorem obB2_eq (b h : List Nat) (s : St) : lk (cut2 b h s).ob = obB2 b h s := by
  funext t
  rw [lk_cut2_ob, obB2]
  cases b.elem (t / 64) <;> cases h.elem t <;> rfl
theorem opdB2_eq (b h : List Nat) (s : St) : (cut2 b h s).opd = opdB b s := by
  funext x
  cases x with
  | tmp t => show lk (cut2 b h s).tm t = tmB b s t; rw [tmB2_eq]
  | _ => rfl

theorem DrS3.ext {F : Fn} {Q : Exit → Act → World → Prop} {all : Array Oper} {k : List It} {m : Nat} {tk : List (List Nat)} {alts : List (Nat × Nat × Nat)} {no : List (Nat × Ob)} : ∀ {os : List Oper} {bs hs : List (List Nat)} {i : Nat} {s s' : St}, (∀ t, lk s'.tm t = lk s.tm t) → s'.ob = s.ob →
    DrS3 F w0 Q all k m tk alts no bs hs i os s → DrS3 F w0 Q all k m tk alts no bs hs i os s'
  | [], bs, hs, i, s, s', ht, ho, h => by
    have h : J F.P F.N w0 (cont F.P F.N w0 Q k) [.ops all (all.toList.drop m)] s := by cases bs <;> cases hs <;> simpa only [DrS3] using h
    have h' : J F.P F.N w0 (cont F.P F.N w0 Q k) [.ops all (all.toList.drop m)] s' := fun a w β R => h a w β (R.ext (fun t => (ht t).symm) fun k => by rw [ho])
    cases bs <;> cases hs <;> simpa only [DrS3] using h'
  | o :: os, [], hs, i, s, s', ht, ho, h => by simp only [DrS3] at h
  | o :: os, _ :: _, [], i, s, s', ht, ho, h => by simp only [DrS3] at h
  | o :: os, b :: bs, h0 :: hs, i, s, s', ht, ho, h => by
    simp only [DrS3] at h ⊢
    obtain ⟨v, ns, fk, h3, h4, h5, ha, hn, h6⟩ := h
    have good : ∀ (ob : List (Nat × Ob)), GoodOp3 F w0 (cont F.P F.N w0 Q k) all i (cut2 b h0 ⟨s.tm, ob⟩) o.dst v ns fk → GoodOp3 F w0 (cont F.P F.N w0 Q k) all i (cut2 b h0 ⟨s'.tm, ob⟩) o.dst v ns fk := by
      intro ob hg s2 a w β K R l1 l2 fr nx
      refine hg s2 a w β K R (fun x f hx => l1 x f ?_) l2 fr nx
      rw [lk_cut2_tm] at hx ⊢; rw [ht]; exact hx
    refine ⟨v, ns, fk, fun x hx => ⟨(h3 x hx).1, by rw [ho]; exact (h3 x hx).2⟩, h4, ?_, ?_, hn, DrS3.ext ?_ ?_ h6⟩
    · have := good s.ob h5
      rw [← ho] at this; exact this
    · unfold AltOp at ha ⊢
      split at ha
      · trivial
      · rename_i j x hl
        split at ha
        · rename_i ob hno
          rw [ho]; exact good _ ha
        · exact ha.elim
    · intro t
      cases o.dst with
      | none => exact ht t
      | some d => simp only [St.put, lk_cons, ht]
    · rw [ho]; cases o.dst <;> rfl

/-- A call in the quiet part. -/
def DrC3 (F : Fn) (w0 : Base) (Q : Exit → Act → World → Prop) (all : Array Oper) (k : List It) (m : Nat) (tk : List (List Nat)) (alts : List (Nat × Nat × Nat)) (no : List (Nat × Ob)) (bs hs : List (List Nat)) (i : Nat) (os : List Oper) (s : St) (b h : List Nat) (d f : Nat) (fs : List FV) : Prop :=
  ∃ args q, argsR (obB2 b h s) fs = some args ∧ CallOK F.P f args q ∧ freshOs s.ob (impOs (d * 64) (cellsR q)) = true ∧ nsOk d (impOs (d * 64) (cellsR q)) = true ∧
    DrS3 F w0 Q all k m tk alts no bs hs i os ⟨(d, impF (d * 64) q) :: s.tm, impOs (d * 64) (cellsR q) ++ s.ob⟩

/-- A literal that takes arrays of one's own in, in the quiet part. -/
def DrB3 (F : Fn) (w0 : Base) (Q : Exit → Act → World → Prop) (all : Array Oper) (k : List It) (m : Nat) (tk : List (List Nat)) (alts : List (Nat × Nat × Nat)) (no : List (Nat × Ob)) (bs hs : List (List Nat)) (i : Nat) (os : List Oper) (s : St) (b h tki : List Nat) (d t len : Nat) (qs : List (Nat × List C)) : Prop :=
  ∃ (v : FV) (ns : List (Nat × Ob)) (fk : List Nat), (∀ x ∈ fk, some d = some (x / 64) ∧ lk s.ob x = none) ∧ nsOk3 (some d) tki ns = true ∧
    (∀ s2 a w β, Rel F.N w0 s2 a w β → Le (lk (cut2 b h s).tm) (lk s2.tm) → Le (lk (cut2 b h s).ob) (lk s2.ob) → (∀ x ∈ fk, lk s2.ob x = none) → ∀ vs, PartsRel (s2.en w w0.arg β) qs vs →
      ∃ val w' β', (Instr.buildSlice t len vs.toArray).run F.P w = .ok val w' ∧ Rel F.N w0 ((⟨s2.tm, ns ++ s2.ob⟩ : St).put (some d) v) (a.put (some d) val) w' β') ∧
    DrS3 F w0 Q all k m tk alts no bs hs i os ((⟨s.tm, ns ++ s.ob⟩ : St).put (some d) v)

def none' {α : Type} : Option α → Bool
  | none => true
  | some _ => false
def inTk (tk : List Nat) (ns : List (Nat × Ob)) : Bool := ns.all fun p => tk.elem p.1

def dr3 (F : Fn) (w0 : Base) (Q : Exit → Act → World → Prop) (all : Array Oper) (k : List It) (m : Nat) (tk : List (List Nat)) (alts : List (Nat × Nat × Nat)) (no : List (Nat × Ob)) : List (List Nat) → List (List Nat) → Nat → List Oper → St → Prop
  | _, _, _, [], s => J F.P F.N w0 Q (.ops all (all.toList.drop m) :: k) s
  | b :: bs, h :: hs, i, o :: os, s =>
    let go (s : St) : Prop := match o.dst with
      | some d => Nat.blt d F.N = true ∧ match ev F.T F.E (opdB b s) (obB2 b h s) (d * 64) o.type o.op with
        | .q p v ns => p ∧ freshOs s.ob ns = true ∧ nsOk d ns = true ∧
            (match lk alts i with
              | none => True
              | some (j, x) => match lk no j with
                | some ob => (match ev F.T F.E (opdB b s) (obB2 b h ⟨s.tm, (x, ob) :: s.ob⟩) (d * 64) o.type o.op with
                  | .q p' v' ns' => p' ∧ v' = v ∧ ns' = ns
                  | _ => False)
                | none => False) ∧ noOk no (tkAt tk i) i ns ∧
            dr3 F w0 Q all k m tk alts no bs hs (i + 1) os ⟨(d, v) :: s.tm, ns ++ s.ob⟩
        | .el xs j => none' (lk alts i) = true ∧ none' (lk no i) = true ∧ (0 ≤ j ∧ j < xs.length) ∧ Later (∀ e, xs[j.toNat]? = some e → dr3 F w0 Q all k m tk alts no bs hs (i + 1) os ⟨(d, .c (.rd e)) :: s.tm, s.ob⟩)
        | .ld xs j j' size agg => none' (lk alts i) = true ∧ none' (lk no i) = true ∧ j < xs.length ∧ Later (∀ e, xs[j]? = some e → dr3 F w0 Q all k m tk alts no bs hs (i + 1) os ⟨(d, ldV e j' size agg) :: s.tm, s.ob⟩)
        | .call f fs => none' (lk alts i) = true ∧ none' (lk no i) = true ∧ DrC3 F w0 Q all k m tk alts no bs hs (i + 1) os s b h d f fs
        | .bs t len qs => none' (lk alts i) = true ∧ none' (lk no i) = true ∧ DrB3 F w0 Q all k m tk alts no bs hs (i + 1) os s b h (tkAt tk i) d t len qs
        | .ef p v ns => none' (lk alts i) = true ∧ p ∧ (lk s.ob (d * 64)).isNone = true ∧ inTk (tkAt tk i) ns = true ∧ noOk no (tkAt tk i) i ns ∧
            dr3 F w0 Q all k m tk alts no bs hs (i + 1) os ⟨(d, v) :: s.tm, ns ++ s.ob⟩
        | _ => False
      | none => match ev F.T F.E (opdB b s) (obB2 b h s) 0 o.type o.op with
        | .ef p .und ns => none' (lk alts i) = true ∧ p ∧ inTk (tkAt tk i) ns = true ∧ noOk no (tkAt tk i) i ns ∧ dr3 F w0 Q all k m tk alts no bs hs (i + 1) os ⟨s.tm, ns ++ s.ob⟩
        | _ => False
    match o.guard with
    | none => go s
    | some (j, want) => match (all[j]?).bind (·.dst), o.dst with
      | some d, some d' => Nat.blt d' F.N = true ∧ none' (lk alts i) = true ∧ none' (lk no i) = true ∧ match tmB b s d with
        | some (.c (.d (.v (.bool x)))) => br x want (go ⟨(d, .c (.d (.v (.bool want)))) :: s.tm, s.ob⟩)
            (dr3 F w0 Q all k m tk alts no bs hs (i + 1) os ⟨(d', .und) :: (d, .c (.d (.v (.bool (!want))))) :: s.tm, s.ob⟩)
        | some .und => dr3 F w0 Q all k m tk alts no bs hs (i + 1) os ⟨(d', .und) :: s.tm, s.ob⟩
        | _ => False
      | _, _ => False
  | _, _, _, _ :: _, _ => False

/-- One operation that writes. -/
theorem core_ef {F : Fn} (hF : FnOk F) {o : Oper} {k : Nat} {t : St} {p : Prop} {v : FV} {ns : List (Nat × Ob)} (he : ev F.T F.E t.opd (lk t.ob) k o.type o.op = .ef p v ns) (hp : p)
    (hd : ∀ d, o.dst = some d → d < F.N) (hv : o.dst = none → v = .und) {K : Act → World → Prop} {Q : Exit → Act → World → Prop} (R : Rel F.N w0 s a w β) (h1 : Le (lk t.tm) (lk s.tm)) (h2 : Le (lk t.ob) (lk s.ob))
    (hfr : ∀ d, o.dst = some d → lk s.ob k = none) (hK : ∀ a' w' β', Rel F.N w0 ((⟨s.tm, ns ++ s.ob⟩ : St).put o.dst v) a' w' β' → K a' w') : o.wp F.P a w K Q := by
  have he' : ev F.T F.E s.opd (lk s.ob) k o.type o.op = .ef p v ns := ev_mono (opd_mono h1) h2 he (by simp)
  unfold Oper.wp
  rcases ev_ef hF.T hF.E R he' hp with ⟨w', β', r1, rfl, r2⟩ | ⟨hne, hval⟩
  · rw [r1, Oper.upon_skip]
    refine hK _ _ β' ?_
    cases hod : o.dst with
    | none => simpa [St.put, Act.put] using r2
    | some d => exact r2.setTm (hd d hod) (by simp only [FVRel])
  · cases hod : o.dst with
    | none => exact absurd (hv hod) hne
    | some d =>
      obtain ⟨val, w', β', r1, r2, r3⟩ := hval (hfr d hod)
      rw [r1, Oper.upon_value, hod]
      refine hK _ _ β' ?_
      rw [hod]
      exact r2.setTm (hd d hod) r3

theorem nsOk3_of {d : Nat} {tk : List Nat} {ns : List (Nat × Ob)} (h : nsOk d ns = true) : nsOk3 (some d) tk ns = true := by
  unfold nsOk3
  rw [List.all_eq_true]
  intro p hp
  have := nat_beq ((List.all_eq_true.1 h) p hp)
  simp [this]
theorem nsOk3_tk {d : Option Nat} {tk : List Nat} {ns : List (Nat × Ob)} (h : inTk tk ns = true) : nsOk3 d tk ns = true := by
  unfold nsOk3
  rw [List.all_eq_true]
  intro p hp
  have := (List.all_eq_true.1 h) p hp
  rw [this]; simp
theorem noOk_none {no : List (Nat × Ob)} {tk : List Nat} {i : Nat} {ns : List (Nat × Ob)} (h : none' (lk no i) = true) : noOk no tk i ns := by
  unfold noOk
  cases hl : lk no i with
  | none => trivial
  | some x => rw [hl] at h; cases h
theorem altOp_none {F : Fn} {Q : Exit → Act → World → Prop} {all : Array Oper} {alts : List (Nat × Nat × Nat)} {no : List (Nat × Ob)} {i : Nat} {b h : List Nat} {d : Option Nat} {v : FV} {ns : List (Nat × Ob)} {fk : List Nat} (hn : none' (lk alts i) = true) :
    AltOp F w0 Q all alts no i b h s d v ns fk := by
  unfold AltOp
  cases hl : lk alts i with
  | none => trivial
  | some x => rw [hl] at hn; cases hn
theorem freshOs_fk {ob : List (Nat × Ob)} {ns : List (Nat × Ob)} {d : Nat} (hf : freshOs ob ns = true) (hn : nsOk d ns = true) : ∀ x ∈ ns.map (·.1), some d = some (x / 64) ∧ lk ob x = none := fun x hx => ⟨by rw [nsOk_key hn hx], (freshOs_iff.1 hf).1 x hx⟩
theorem freshOs_of {ob ob' : List (Nat × Ob)} {ns : List (Nat × Ob)} (hf : freshOs ob ns = true) (h : ∀ x ∈ ns.map (·.1), lk ob' x = none) : freshOs ob' ns = true := freshOs_iff.2 ⟨h, (freshOs_iff.1 hf).2⟩

theorem dr3_sound {F : Fn} (hF : FnOk F) {Q : Exit → Act → World → Prop} {all : Array Oper} {k : List It} {m : Nat} {tk : List (List Nat)} {alts : List (Nat × Nat × Nat)} {no : List (Nat × Ob)} : ∀ {os : List Oper} {bs hs : List (List Nat)} {i : Nat} {s : St}, (∀ j o, os[j]? = some o → all[i + j]? = some o) →
    dr3 F w0 Q all k m tk alts no bs hs i os s → DrS3 F w0 Q all k m tk alts no bs hs i os s
  | [], bs, hs, i, s, _, h => by
    have h : J F.P F.N w0 Q (.ops all (all.toList.drop m) :: k) s := by cases bs <;> cases hs <;> simpa only [dr3] using h
    have h' : J F.P F.N w0 (cont F.P F.N w0 Q k) [.ops all (all.toList.drop m)] s := by
      intro a w β R
      have := h a w β R
      simp only [cont] at this ⊢
      exact this
    cases bs <;> cases hs <;> simpa only [DrS3] using h'
  | o :: os, [], hs, i, s, _, h => by simp only [dr3] at h
  | o :: os, _ :: _, [], i, s, _, h => by simp only [dr3] at h
  | o :: os, b :: bs, hh :: hs, i, s, hall, h => by
    have hi : all[i]? = some o := by simpa using hall 0 o rfl
    have hall' : ∀ j o, os[j]? = some o → all[i + 1 + j]? = some o := fun j o' h => by
      rw [show i + 1 + j = i + (j + 1) by omega]; exact hall (j + 1) o' (by simpa using h)
    -- one operation that is carried out, in the state s'
    have go : ∀ {s' : St}, (∀ {t : St} {v : FV} {ns : List (Nat × Ob)} {fk : List Nat}, t.tm = s'.tm → (∀ s a w β (K : Act → World → Prop), Rel F.N w0 s a w β → Le (lk (cut2 b hh t).tm) (lk s.tm) → Le (lk (cut2 b hh t).ob) (lk s.ob) → (∀ x ∈ fk, lk s.ob x = none) →
          (∀ a' w' β', Rel F.N w0 ((⟨s.tm, ns ++ s.ob⟩ : St).put o.dst v) a' w' β' → K a' w') → o.wp F.P a w K (cont F.P F.N w0 Q k)) → GoodOp3 F w0 (cont F.P F.N w0 Q k) all i (cut2 b hh t) o.dst v ns fk) →
        (match o.dst with
      | some d => Nat.blt d F.N = true ∧ match ev F.T F.E (cut2 b hh s').opd (lk (cut2 b hh s').ob) (d * 64) o.type o.op with
        | .q p v ns => p ∧ freshOs s'.ob ns = true ∧ nsOk d ns = true ∧
            (match lk alts i with
              | none => True
              | some (j, x) => match lk no j with
                | some ob => (match ev F.T F.E (cut2 b hh s').opd (lk (cut2 b hh ⟨s'.tm, (x, ob) :: s'.ob⟩).ob) (d * 64) o.type o.op with
                  | .q p' v' ns' => p' ∧ v' = v ∧ ns' = ns
                  | _ => False)
                | none => False) ∧ noOk no (tkAt tk i) i ns ∧
            dr3 F w0 Q all k m tk alts no bs hs (i + 1) os ⟨(d, v) :: s'.tm, ns ++ s'.ob⟩
        | .el xs j => none' (lk alts i) = true ∧ none' (lk no i) = true ∧ (0 ≤ j ∧ j < xs.length) ∧ (∀ e, xs[j.toNat]? = some e → dr3 F w0 Q all k m tk alts no bs hs (i + 1) os ⟨(d, .c (.rd e)) :: s'.tm, s'.ob⟩)
        | .ld xs j j' size agg => none' (lk alts i) = true ∧ none' (lk no i) = true ∧ j < xs.length ∧ (∀ e, xs[j]? = some e → dr3 F w0 Q all k m tk alts no bs hs (i + 1) os ⟨(d, ldV e j' size agg) :: s'.tm, s'.ob⟩)
        | .call f fs => none' (lk alts i) = true ∧ none' (lk no i) = true ∧ DrC3 F w0 Q all k m tk alts no bs hs (i + 1) os s' b hh d f fs
        | .bs t len qs => none' (lk alts i) = true ∧ none' (lk no i) = true ∧ DrB3 F w0 Q all k m tk alts no bs hs (i + 1) os s' b hh (tkAt tk i) d t len qs
        | .ef p v ns => none' (lk alts i) = true ∧ p ∧ (lk s'.ob (d * 64)).isNone = true ∧ inTk (tkAt tk i) ns = true ∧ noOk no (tkAt tk i) i ns ∧
            dr3 F w0 Q all k m tk alts no bs hs (i + 1) os ⟨(d, v) :: s'.tm, ns ++ s'.ob⟩
        | _ => False
      | none => match ev F.T F.E (cut2 b hh s').opd (lk (cut2 b hh s').ob) 0 o.type o.op with
        | .ef p .und ns => none' (lk alts i) = true ∧ p ∧ inTk (tkAt tk i) ns = true ∧ noOk no (tkAt tk i) i ns ∧ dr3 F w0 Q all k m tk alts no bs hs (i + 1) os ⟨s'.tm, ns ++ s'.ob⟩
        | _ => False) → DrS3 F w0 Q all k m tk alts no (b :: bs) (hh :: hs) i (o :: os) s' := by
      intro s' hgood h
      simp only [DrS3]
      cases hd : o.dst with
      | none =>
        rw [hd] at h hgood
        simp only at h
        split at h
        · rename_i p ns he
          obtain ⟨q1, q2, q3, q4, q5⟩ := h
          refine ⟨.und, ns, [], fun _ hx => (nomatch hx), nsOk3_tk q3, hgood rfl fun s a w β K R l1 l2 f n => ?_, altOp_none q1, q4, dr3_sound hF hall' q5⟩
          exact core_ef hF he q2 (fun d h => absurd (hd.symm.trans h) (by simp)) (fun _ => rfl) R l1 l2 (fun d h => absurd (hd.symm.trans h) (by simp)) (by rw [hd]; exact n)
        · exact h.elim
      | some d =>
        rw [hd] at h hgood
        obtain ⟨hlt, h⟩ := h
        have hlt : d < F.N := by simpa [Nat.blt_eq] using hlt
        split at h
        · rename_i p v ns he
          obtain ⟨hp, hf, hn, ha, hno, h⟩ := h
          refine ⟨v, ns, ns.map (·.1), freshOs_fk hf hn, nsOk3_of hn, hgood rfl fun s a w β K R l1 l2 f n => core hF hd hlt he (.inl ⟨p, rfl, hp⟩) R l1 l2 (freshOs_of hf f) n, ?_, hno, dr3_sound hF hall' h⟩
          unfold AltOp
          split
          · trivial
          · rename_i j x hl
            rw [hl] at ha
            simp only at ha
            split
            · rename_i ob hob
              rw [hob] at ha
              simp only at ha
              split at ha
              · rename_i p' v' ns' he'
                obtain ⟨a1, rfl, rfl⟩ := ha
                refine hgood rfl fun s a w β K R l1 l2 f n => core hF hd hlt (t := cut2 b hh ⟨s'.tm, (x, ob) :: s'.ob⟩) (by rw [opdB2_eq] at he' ⊢; exact he') (.inl ⟨p', rfl, a1⟩) R l1 l2 (freshOs_of hf f) n
              · exact ha.elim
            · rename_i hob
              rw [hob] at ha; exact ha.elim
        · rename_i xs j he
          obtain ⟨n1, n2, hj, h⟩ := h
          have hx : xs[j.toNat]? = some (xs[j.toNat]'(by omega)) := by simp
          exact ⟨_, [], [], fun _ hx => (nomatch hx), rfl, hgood rfl fun s a w β K R l1 l2 f n => core hF hd hlt he (.inr (.inl ⟨xs, j, _, rfl, hj, hx, rfl, rfl⟩)) R l1 l2 rfl n, altOp_none n1, noOk_none n2, dr3_sound hF hall' (h _ hx)⟩
        · rename_i xs j j' size agg he
          obtain ⟨n1, n2, hj, h⟩ := h
          have hx : xs[j]? = some (xs[j]'hj) := by simp
          exact ⟨_, [], [], fun _ hx => (nomatch hx), rfl, hgood rfl fun s a w β K R l1 l2 f n => core hF hd hlt he (.inr (.inr (.inl ⟨xs, j, j', size, agg, _, rfl, hx, rfl, rfl⟩))) R l1 l2 rfl n, altOp_none n1, noOk_none n2, dr3_sound hF hall' (h _ hx)⟩
        · rename_i f fs he
          obtain ⟨n1, n2, args, q, g1, g2, g3, g4, g5⟩ := h
          rw [← obB2_eq] at g1
          exact ⟨_, _, _, freshOs_fk g3 g4, nsOk3_of g4, hgood rfl fun s a w β K R l1 l2 f n => core hF hd hlt he (.inr (.inr (.inr ⟨_, _, args, q, rfl, g1, g2, rfl, rfl⟩))) R l1 l2 (freshOs_of g3 f) n, altOp_none n1, noOk_none n2, g5⟩
        · rename_i t len qs he
          obtain ⟨n1, n2, v, ns, fk, g1, g2, g3, g4⟩ := h
          refine ⟨v, ns, fk, fun x hx => g1 x hx, g2, hgood rfl fun s2 a w β K R l1 l2 f n => ?_, altOp_none n1, noOk_none n2, g4⟩
          have he' := ev_mono (opd_mono l1) l2 he (by simp)
          obtain ⟨vs, r1, r2⟩ := ev_bs (P := F.P) R he'
          obtain ⟨val, w', β', q1, q2⟩ := g3 s2 a w β R l1 l2 f vs r1
          unfold Oper.wp
          rw [r2 val w' q1, Oper.upon_value, hd]
          exact n _ _ _ q2
        · rename_i p v ns he
          obtain ⟨n1, hp, hfr, htk, hno, h⟩ := h
          simp only [Option.isNone_iff_eq_none] at hfr
          refine ⟨v, ns, [d * 64], fun x hx => ?_, nsOk3_tk htk, hgood rfl fun s a w β K R l1 l2 f n => ?_, altOp_none n1, hno, dr3_sound hF hall' h⟩
          · simp only [List.mem_singleton] at hx; subst hx
            exact ⟨by simp, hfr⟩
          · exact core_ef hF he hp (fun d' h => by rw [hd] at h; simp only [Option.some.injEq] at h; subst h; exact hlt) (fun h => by rw [hd] at h; cases h) R l1 l2 (fun d' h => f _ (List.mem_singleton.2 rfl)) (by rw [hd]; exact n)
        · exact h.elim
    simp only [dr3, ← opdB2_eq b hh, ← obB2_eq, ← tmB2_eq b hh] at h
    have good0 : ∀ {t : St} {v : FV} {ns : List (Nat × Ob)} {fk : List Nat}, o.guard = none → (∀ s a w β (K : Act → World → Prop), Rel F.N w0 s a w β → Le (lk (cut2 b hh t).tm) (lk s.tm) → Le (lk (cut2 b hh t).ob) (lk s.ob) → (∀ x ∈ fk, lk s.ob x = none) →
          (∀ a' w' β', Rel F.N w0 ((⟨s.tm, ns ++ s.ob⟩ : St).put o.dst v) a' w' β' → K a' w') → o.wp F.P a w K (cont F.P F.N w0 Q k)) → GoodOp3 F w0 (cont F.P F.N w0 Q k) all i (cut2 b hh t) o.dst v ns fk := by
      intro t v ns fk hg hc s2 a w β K R l1 l2 fr nx
      have hw : Region.wanted o (yielded all a.tmps) = true := by simp [Region.wanted, hg]
      simp only [wpOp, hi, if_pos hw]
      exact .inl (hc s2 a w β K R l1 l2 fr nx)
    cases hg : o.guard with
    | none =>
      rw [hg] at h
      exact go (fun _ hc => good0 hg hc) h
    | some g =>
      obtain ⟨j, want⟩ := g
      rw [hg] at h
      simp only at h
      split at h
      · rename_i dj d' hj hd'
        obtain ⟨hlt, n1, n2, h⟩ := h
        have hlt : d' < F.N := by simpa [Nat.blt_eq] using hlt
        have ext1 : ∀ {x : Bool}, lk (cut2 b hh s).tm dj = some (.c (.d (.v (.bool x)))) → ∀ t, lk s.tm t = lk ((dj, FV.c (.d (.v (.bool x)))) :: s.tm) t := by
          intro x hx t
          rw [lk_cut2_tm] at hx
          split at hx
          · rw [lk_cons]
            split
            · rename_i e; rw [← e]; exact hx
            · rfl
          · cases hx
        have wantd : ∀ {x : Bool} {s2 : St} {a : Act} {w : World} {β : Nat → Value}, lk (cut2 b hh s).tm dj = some (.c (.d (.v (.bool x)))) → Rel F.N w0 s2 a w β → Le (lk (cut2 b hh s).tm) (lk s2.tm) →
            Region.wanted o (yielded all a.tmps) = (x == want) := by
          intro x s2 a w β hx R l
          have hv := bool_rel (R.tm dj _ (l _ _ hx))
          have hy := yielded_bool hj hv
          simp only [Region.wanted, hg, hy]
          cases x <;> cases want <;> rfl
        split at h
        · rename_i x hx
          have lecut : ∀ {c : Bool} {ob : List (Nat × Ob)}, x = c → ∀ t, lk (cut2 b hh ⟨(dj, .c (.d (.v (.bool c)))) :: s.tm, ob⟩).tm t = lk (cut2 b hh s).tm t := by
            intro c ob e t
            rw [lk_cut2_tm, lk_cut2_tm, ← e]
            split
            · exact (ext1 hx t).symm
            · rfl
          by_cases hxw : x = want
          · have := go (s' := ⟨(dj, .c (.d (.v (.bool want)))) :: s.tm, s.ob⟩) (fun {t v ns fk} ht hc => ?_) (h.1 hxw)
            · have e1 := ext1 hx
              rw [hxw] at e1
              exact @DrS3.ext w0 F Q all k m tk alts no (o :: os) (b :: bs) (hh :: hs) i ⟨(dj, .c (.d (.v (.bool want)))) :: s.tm, s.ob⟩ s e1 rfl this
            · intro s2 a w β K R l1 l2 fr nx
              have l1' : Le (lk (cut2 b hh s).tm) (lk s2.tm) := fun y f hy => l1 y f (by
                have e2 := lecut (ob := t.ob) hxw y
                have e3 : (⟨(dj, FV.c (.d (.v (.bool want)))) :: s.tm, t.ob⟩ : St) = t := by cases t; simp only at ht; subst ht; rfl
                rw [e3] at e2
                rw [e2]; exact hy)
              have hw := wantd hx R l1'
              rw [hxw] at hw
              simp only [wpOp, hi]
              rw [if_pos (by rw [hw]; cases want <;> rfl)]
              exact .inl (hc s2 a w β K R l1 l2 fr nx)
          · have hxn : x = (!want) := by cases x <;> cases want <;> first | rfl | exact absurd rfl hxw
            have h2 := dr3_sound hF hall' (h.2 hxn)
            simp only [DrS3]
            refine ⟨.und, [], [], fun _ hx => (nomatch hx), rfl, ?_, altOp_none n1, noOk_none n2, ?_⟩
            · intro s2 a w β K R l1 l2 fr nx
              have hw := wantd hx R l1
              simp only [wpOp, hi]
              rw [if_neg (by rw [hw, hxn]; cases want <;> simp), hd']
              rw [hd'] at nx
              exact nx _ _ _ (R.setTm hlt (by simp only [FVRel]))
            · rw [hd']
              refine @DrS3.ext w0 F Q all k m tk alts no os bs hs (i + 1) ⟨(d', .und) :: (dj, .c (.d (.v (.bool (!want))))) :: s.tm, s.ob⟩ ⟨(d', .und) :: s.tm, s.ob⟩ (fun t => ?_) rfl h2
              simp only [lk_cons]
              split
              · rfl
              · have := ext1 hx t
                rw [hxn, lk_cons] at this
                exact this
        · rename_i hx
          have h2 := dr3_sound hF hall' h
          simp only [DrS3]
          refine ⟨.und, [], [], fun _ hx => (nomatch hx), rfl, ?_, altOp_none n1, noOk_none n2, by rw [hd']; exact h2⟩
          intro s2 a w β K R l1 l2 fr nx
          have hv := R.tm dj _ (l1 _ _ hx)
          simp only [FVRel] at hv
          have hy := yielded_undef hj hv
          simp only [wpOp, hi]
          rw [if_neg (by simp [Region.wanted, hg, hy]), hd']
          rw [hd'] at nx
          exact nx _ _ _ (R.setTm hlt (by simp only [FVRel]))
        · exact h.elim
      · exact h.elim

/-- A call in the quiet part; what is left of it is worked out from the state behind. -/
theorem DrC3.ok {F : Fn} (hF : FnOk F) {Q : Exit → Act → World → Prop} {all : Array Oper} {k : List It} {m : Nat} {tk : List (List Nat)} {alts : List (Nat × Nat × Nat)} {no : List (Nat × Ob)} {bs hs : List (List Nat)} {i : Nat} {os : List Oper} {b h : List Nat} {d f : Nat} {fs : List FV} {args : List RV} {q : RV}
    (hall : (all.toList.drop i).take os.length = os) (ha : argsR (obB2 b h s) fs = some args) (hc : CallOK F.P f args q) (hfr : freshOs s.ob (impOs (d * 64) (cellsR q)) = true)
    (hns : nsOk d (impOs (d * 64) (cellsR q)) = true) (hj : dr3 F w0 Q all k m tk alts no bs hs i os ⟨(d, impF (d * 64) q) :: s.tm, impOs (d * 64) (cellsR q) ++ s.ob⟩) : DrC3 F w0 Q all k m tk alts no bs hs i os s b h d f fs := by
  refine ⟨args, q, ha, hc, hfr, hns, dr3_sound hF (fun j o ho => ?_) hj⟩
  rw [← hall, List.getElem?_take] at ho
  split at ho
  · rw [List.getElem?_drop] at ho
    simpa using ho
  · cases ho

theorem J.dr3 {F : Fn} (hF : FnOk F) {Q : Exit → Act → World → Prop} {id : Nat} {ops : Array Oper} {k : List It} (hmix : F.P.follows .mixedOrders = true) (m : Nat) (rows bs tk hs : List (List Nat)) (alts : List (Nat × Nat × Nat)) (no : List (Nat × Ob)) (hok : drawOk3 ops.toList m rows bs tk hs alts = true)
    (h : dr3 F w0 Q ops k m tk alts no bs hs 0 (ops.toList.take m) s) : J F.P F.N w0 Q (.code (.region id ops true) :: k) s := by
  refine J.draw3 hmix m rows bs tk hs alts no hok (dr3_sound hF (fun j o ho => ?_) h)
  rw [List.getElem?_take] at ho
  split at ho
  · simpa using ho
  · cases ho

attribute [simp] dr3 obB2 none' inTk tkAt noOk

end Go.Sm

namespace Go.Sm
open Go.RowKit

variable {P : Program} {N : Nat} {w0 : Base} {s : St} {a : Act} {w : World} {β : Nat → Value}

theorem fix_none (hw : w0.ok64) {K : Nat} (h : 64 ≤ K) : w0.fix K = none := by
  cases hf : w0.fix K with
  | none => rfl
  | some c => have := hw K c hf; omega
@[simp] theorem named_self (w0 : Base) (K : Nat) (c : Value) : (w0.named K c).fix K = some c := by simp [Base.named]
theorem named_ne (w0 : Base) {K K' : Nat} (c : Value) (h : K' ≠ K) : (w0.named K c).fix K' = w0.fix K' := by simp [Base.named, h]

/-- The handle of an object gets a name. -/
theorem J.name {F : Fn} {r : Res} {fn : Func} {k : List It} {K : Nat} (hf0 : w0.fix K = none) (hK : (lk s.ob K).isSome = true) (hKo : ∀ p ∈ r.outs, p.1 ≠ K)
    (h : ∀ c, J F.P F.N (w0.named K c) (F.post (w0.named K c) r fn) k s) : J F.P F.N w0 (F.post w0 r fn) k s := by
  intro a w β R
  exact cont_weaken (fun e a w h => post_named hKo h) (fun s a w β h => Rel.unnamed hf0 h) k .normal a w (h (β K) a w β (R.named hK))

/-- A slot that holds the object: its handle. -/
theorem J.reV {Q : Exit → Act → World → Prop} {k : List It} {d K : Nat} {c : Value} (hf : w0.fix K = some c) (hd : lk s.tm d = some (.c (.ob K))) (hj : J P N w0 Q k ⟨(d, .c (.d (.v c))) :: s.tm, s.ob⟩) : J P N w0 Q k s := by
  intro a w β R
  refine hj a w β (R.retm ?_)
  have hv := R.tm d _ hd
  simp only [FVRel, CRel] at hv ⊢
  have hc : β K = c := (R.fx K c hf).2
  have hv2 : a.tmps.getD d undef = β K := hv.2.1
  exact ⟨rfl, hv.2.2, by simp only [Rd]; exact ⟨hv2.trans hc, by rw [← hc, ← hv2]; exact hv.2.2⟩⟩
/-- And back. -/
theorem J.reOb {Q : Exit → Act → World → Prop} {k : List It} {d K : Nat} {c : Value} (hf : w0.fix K = some c) (hd : lk s.tm d = some (.c (.d (.v c)))) (hj : J P N w0 Q k ⟨(d, .c (.ob K)) :: s.tm, s.ob⟩) : J P N w0 Q k s := by
  intro a w β R
  refine hj a w β (R.retm ?_)
  have hv := R.tm d _ hd
  simp only [FVRel, CRel, Rd] at hv ⊢
  obtain ⟨h1, h2⟩ := R.fx K c hf
  exact ⟨h1, hv.2.2.1.trans h2.symm, hv.2.1⟩
/-- One part of a value. -/
theorem J.reVg {Q : Exit → Act → World → Prop} {k : List It} {d K i : Nat} {cs : List C} {c : Value} (hf : w0.fix K = some c) (hd : lk s.tm d = some (.g cs)) (hi : cs[i]? = some (.ob K)) (hj : J P N w0 Q k ⟨(d, .g (cs.set i (.d (.v c)))) :: s.tm, s.ob⟩) : J P N w0 Q k s := by
  intro a w β R
  refine hj a w β (R.retm ?_)
  have hv := R.tm d _ hd
  simp only [FVRel] at hv ⊢
  obtain ⟨vs, h1, h2⟩ := hv
  have hc : β K = c := (R.fx K c hf).2
  refine ⟨vs, h1, ?_⟩
  have key : ∀ {cs : List C} {vs : List Value} {i : Nat}, CsRel (s.en w w0.arg β) cs vs → cs[i]? = some (.ob K) → CsRel (s.en w w0.arg β) (cs.set i (.d (.v c))) vs := by
    intro cs
    induction cs with
    | nil => intro vs i _ h; simp at h
    | cons x cs ih =>
      intro vs i hr hi
      cases vs with
      | nil => exact hr.elim
      | cons v vs =>
        cases i with
        | zero =>
          simp at hi; subst hi
          refine ⟨?_, hr.2⟩
          have h := hr.1
          simp only [CRel] at h ⊢
          have hv2 : v = β K := h.2.1
          exact ⟨rfl, h.2.2, by simp only [Rd]; exact ⟨hv2.trans hc, by rw [← hc, ← hv2]; exact h.2.2⟩⟩
        | succ i => exact ⟨hr.1, ih hr.2 (by simpa using hi)⟩
  exact key h2 hi

/-- An object into the cell that holds its handle. -/
theorem J.in' {Q : Exit → Act → World → Prop} {k : List It} {ky K i j e z e' z' : Nat} {xs ys : List (List D)} {E : List D} {c : Value} (hf : w0.fix K = some c) (hK : lk s.ob K = some (.arr e' z' ys)) (ho : lk s.ob ky = some (.arr e z xs)) (hE : xs[i]? = some E) (hj : E[j]? = some (.v c))
    (hne : ky ≠ K) (hsx : stOEs xs = true) (h : J P N w0 Q k ⟨s.tm, (ky, .arr e z (xs.set i (E.set j (.own e' z' ys)))) :: (K, .dead) :: s.ob⟩) : J P N w0 Q k s := by
  intro a w β R
  exact h a w β (R.in hK (R.fx K c hf).2 ho hE hj hne hsx)

/-! ### arguments -/
def ArgOK (N : Nat) (w0 : Base) (s : St) (f : FV) (r : RV) : Prop := ∀ a w β, Rel N w0 s a w β → ∀ v, FVRel (s.en w w0.arg β) f v → AV w r v
def ArgsOK (N : Nat) (w0 : Base) (s : St) (fs : List FV) (rs : List RV) : Prop := ∀ a w β, Rel N w0 s a w β → ∀ vs, FVsV (s.en w w0.arg β) fs vs → AVs w rs vs
theorem ArgOK.of {f : FV} {r : RV} (h : argF (lk s.ob) f = some r) : ArgOK N w0 s f r := fun a w β R v hv => argF_sound R h hv
theorem ArgsOK.nil : ArgsOK N w0 s [] [] := fun a w β R vs hv => by
  cases vs with
  | nil => rfl
  | cons v vs => cases hv
theorem ArgsOK.cons {f : FV} {fs : List FV} {r : RV} {rs : List RV} (h : ArgOK N w0 s f r) (h2 : ArgsOK N w0 s fs rs) : ArgsOK N w0 s (f :: fs) (r :: rs) := fun a w β R vs hv => by
  obtain ⟨v, q, rfl, h3, h4⟩ := hv
  exact ⟨v, q, rfl, h a w β R v h3, h2 a w β R q h4⟩

/-- A literal of one element, the handle of an object that stays where it is. -/
theorem ArgOK.lend {L K e e' z' : Nat} {xs : List (List D)} {c : Value} (hf : w0.fix K = some c) (hL : lk s.ob L = some (.arr e 1 [[.v c]])) (hK : lk s.ob K = some (.arr e' z' xs)) :
    ArgOK N w0 s (.c (.ob L)) (.one (.vw true 1 [[.vw true z' (argEs xs)]])) := by
  intro a w β R v hv
  simp only [FVRel, CRel] at hv
  obtain ⟨_, rfl, _⟩ := hv
  have hc : β K = c := (R.fx K c hf).2
  have hr : OwnRel w w0.arg (s.en w w0.arg β).M e 1 [[.v c]] (β L) := R.ob L _ hL
  have hk : OwnRel w w0.arg (s.en w w0.arg β).M e' z' xs (β K) := R.ob K _ hK
  refine ⟨[β L], rfl, rfl, β L, [], rfl, ?_, rfl⟩
  rcases hr with ⟨h, _⟩ | ⟨b, cap, cur, h1, h2, h3, h4, h5, h6⟩
  · cases h
  · simp only [RdEs, RdCs, Rd] at h6
    obtain ⟨_, ⟨⟨u, hu, rfl, _⟩, _⟩, _⟩ := h6
    simp only [Rd]
    refine .inr ⟨b, 0, cap, h1, h2, not_false, lt_of_heap h3, fun _ => lt_of_heap h3, ?_⟩
    simp only [RdEs, RdCs]
    refine ⟨rfl, ⟨⟨u, hu, ?_⟩, trivial⟩, trivial⟩
    simp only [Rd, length_argEs]
    rw [hc] at hk
    rcases hk with ⟨rfl, h⟩ | ⟨b', cap', cur', k1, k2, k3, k4, k5, k6⟩
    · exact .inl ⟨by simp [argEs], none, 0, h, fun _ => rfl⟩
    · exact .inr ⟨b', 0, cap', k1, k2, not_false, lt_of_heap k3, fun _ => lt_of_heap k3, RdEs.arg xs 0 k6⟩

theorem CallW.okA {Q : Exit → Act → World → Prop} {k : List It} {d f : Nat} {fs : List FV} {args : List RV} {q : RV} (hd : d < N) (ha : ArgsOK N w0 s fs args) (hc : CallOK P f args q)
    (hfr : freshOs s.ob (impOs (d * 64) (cellsR q)) = true) (hj : J P N w0 Q k ⟨(d, impF (d * 64) q) :: s.tm, impOs (d * 64) (cellsR q) ++ s.ob⟩) : CallW P N w0 Q k s d f fs := by
  refine ⟨hc.1, fun a w β R vs hv => ?_⟩
  refine Calls.mono (hc.2 w vs (ha a w β R vs hv)) fun e w' ⟨v, hv, hown, hb⟩ => ?_
  obtain ⟨us, q1, q2, q3, q4, q5⟩ := hown
  obtain ⟨β', g1, g2⟩ := R.import hb hfr q2 q3 q4 q5
  exact ⟨v, hv, _, β', g1.setTm hd (impF_rel q1 g2), hj⟩

end Go.Sm
