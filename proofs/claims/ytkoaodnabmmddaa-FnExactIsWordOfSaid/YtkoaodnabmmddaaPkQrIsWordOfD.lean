/- Towards FnExactIsWordOfSaid: the program's function returns what the reference's returns. Part 4 of 6. -/
import Derived.Test.YtkoaodnabmmddaaPkQrIsWordOfA
import Derived.Test.YtkoaodnabmmddaaPkQrIsWordOfB
import Derived.Test.YtkoaodnabmmddaaPkQrIsWordOfC
namespace Go.Sm
open Go.RowKit

variable {P : Program} {N : Nat} {w0 : Base} {s : St} {a : Act} {w : World} {β : Nat → Value}

def tkAt (tk : List (List Nat)) (i : Nat) : List Nat := (tk[i]?).getD []
def badR3 (ops : List Oper) (m : Nat) (rows : List (List Nat)) (i : Nat) : List Nat := ((List.range m).filter fun j => !(row rows i).elem j).filterMap fun j => (ops[j]?).bind (·.dst)
def hidR (m : Nat) (rows tk : List (List Nat)) (alts : List (Nat × Nat × Nat)) (i : Nat) : List Nat := ((List.range m).filter fun j => !(row rows i).elem j && !(row rows j).elem i && !Nat.beq j i).flatMap fun j => (tkAt tk j).filter fun x => !(lk alts i == some (j, x))

def cut2 (bad hid : List Nat) (s : St) : St := ⟨s.tm.filter (fun p => !bad.elem p.1), s.ob.filter (fun p => !bad.elem (p.1 / 64) && !hid.elem p.1)⟩
def nsOk3 (d : Option Nat) (tk : List Nat) (ns : List (Nat × Ob)) : Bool := ns.all fun p => d == some (p.1 / 64) || tk.elem p.1
/-- What op i writes, if it was told ahead. -/
def noOk (no : List (Nat × Ob)) (tk : List Nat) (i : Nat) (ns : List (Nat × Ob)) : Prop := match lk no i with
  | none => True
  | some ob => ∀ x ∈ tk, lk ns x = some ob

/-- One operation, wherever no less is known than in t. -/
def GoodOp3 (F : Fn) (w0 : Base) (Q : Exit → Act → World → Prop) (all : Array Oper) (i : Nat) (t : St) (d : Option Nat) (v : FV) (ns : List (Nat × Ob)) (fk : List Nat) : Prop :=
  ∀ s a w β (K : Act → World → Prop), Rel F.N w0 s a w β → Le (lk t.tm) (lk s.tm) → Le (lk t.ob) (lk s.ob) → (∀ x ∈ fk, lk s.ob x = none) →
    (∀ a' w' β', Rel F.N w0 ((⟨s.tm, ns ++ s.ob⟩ : St).put d v) a' w' β' → K a' w') → wpOp F.P all Q i K a w

/-- The same where another operation, of no known order, may have written. -/
def AltOp (F : Fn) (w0 : Base) (Q : Exit → Act → World → Prop) (all : Array Oper) (alts : List (Nat × Nat × Nat)) (no : List (Nat × Ob)) (i : Nat) (b h : List Nat) (s : St) (d : Option Nat) (v : FV) (ns : List (Nat × Ob)) (fk : List Nat) : Prop :=
  match lk alts i with
  | none => True
  | some (j, x) => match lk no j with
    | some ob => GoodOp3 F w0 Q all i (cut2 b h ⟨s.tm, (x, ob) :: s.ob⟩) d v ns fk
    | none => False

/-- The quiet operations in the order of the list, and what comes then. -/
def DrS3 (F : Fn) (w0 : Base) (Q : Exit → Act → World → Prop) (all : Array Oper) (k : List It) (m : Nat) (tk : List (List Nat)) (alts : List (Nat × Nat × Nat)) (no : List (Nat × Ob)) : List (List Nat) → List (List Nat) → Nat → List Oper → St → Prop
  | _, _, _, [], s => J F.P F.N w0 (cont F.P F.N w0 Q k) [.ops all (all.toList.drop m)] s
  | b :: bs, h :: hs, i, o :: os, s => ∃ v ns fk, (∀ x ∈ fk, o.dst = some (x / 64) ∧ lk s.ob x = none) ∧ nsOk3 o.dst (tkAt tk i) ns = true ∧ GoodOp3 F w0 (cont F.P F.N w0 Q k) all i (cut2 b h s) o.dst v ns fk ∧
      AltOp F w0 (cont F.P F.N w0 Q k) all alts no i b h s o.dst v ns fk ∧ noOk no (tkAt tk i) i ns ∧ DrS3 F w0 Q all k m tk alts no bs hs (i + 1) os ((⟨s.tm, ns ++ s.ob⟩ : St).put o.dst v)
  | _, _, _, _ :: _, _ => False

def drawOk3 (ops : List Oper) (m : Nat) (rows bs tk hs : List (List Nat)) (alts : List (Nat × Nat × Nat)) : Bool :=
  Nat.ble m ops.length && nodupB ((ops.take m).filterMap (·.dst)) &&
  ((List.range ops.length).all fun i => (aftI ops i).all fun j => Nat.blt j i) &&
  ((List.range ops.length).all fun j => Nat.blt j m || (List.range j).all fun i => (row rows j).elem i) &&
  ((List.range ops.length).all fun i => (row rows i).all fun j => (aftI ops i).elem j || (aftI ops i).any fun k => (row rows k).elem j) &&
  (bs == (List.range m).map (badR3 ops m rows)) && (hs == (List.range m).map (hidR m rows tk alts)) &&
  ((List.range m).all fun j => (tkAt tk j).all fun x => (List.range m).all fun i => (!((ops[i]?).bind (·.dst) == some (x / 64)) || (row rows j).elem i)) &&
  ((List.range m).all fun j => (tkAt tk j).all fun x => (List.range j).all fun i => (!(tkAt tk i).elem x || (row rows j).elem i)) &&
  (alts.all fun q => Nat.blt q.1 q.2.1 && Nat.blt q.2.1 m && (tkAt tk q.2.1).elem q.2.2 && !(tkAt tk q.1).elem q.2.2 && ((List.range m).all fun j => (!(tkAt tk j).elem q.2.2 || Nat.ble j q.2.1)))

/-- The state s is s0 with the outcomes of the operations in D. -/
structure Kn3 (m : Nat) (d : Nat → Option Nat) (v : Nat → FV) (ns : Nat → List (Nat × Ob)) (s0 : St) (D : Nat → Prop) (s : St) : Prop where
  t1 : ∀ i < m, D i → ∀ x, d i = some x → lk s.tm x = some (v i)
  t2 : ∀ x, (∀ i < m, D i → d i ≠ some x) → lk s.tm x = lk s0.tm x
  o1 : ∀ x, ∀ i < m, D i → x ∈ (ns i).map (·.1) → (∀ j < m, D j → x ∈ (ns j).map (·.1) → j ≤ i) → lk s.ob x = lk (ns i) x
  o2 : ∀ x, (∀ i < m, D i → x ∉ (ns i).map (·.1)) → lk s.ob x = lk s0.ob x

theorem greatest {p : Nat → Prop} : ∀ (m : Nat), (∃ i, i < m ∧ p i) → ∃ i, i < m ∧ p i ∧ ∀ j < m, p j → j ≤ i
  | 0, ⟨i, h, _⟩ => absurd h (Nat.not_lt_zero _)
  | m + 1, ⟨i, h, hp⟩ => by
    by_cases hm : p m
    · exact ⟨m, Nat.lt_succ_self m, hm, fun j hj _ => Nat.le_of_lt_succ hj⟩
    · have hi : i < m := by
        rcases Nat.lt_or_ge i m with h' | h'
        · exact h'
        · exact absurd (by rwa [show i = m by omega] at hp) hm
      obtain ⟨g, g1, g2, g3⟩ := greatest m ⟨i, hi, hp⟩
      refine ⟨g, Nat.lt_succ_of_lt g1, g2, fun j hj hpj => ?_⟩
      rcases Nat.lt_or_ge j m with h' | h'
      · exact g3 j h' hpj
      · exact absurd (by rwa [show j = m by omega] at hpj) hm

variable {m : Nat} {d : Nat → Option Nat} {v : Nat → FV} {ns : Nat → List (Nat × Ob)} {s0 : St} {D D' : Nat → Prop}

theorem Kn3.step (K : Kn3 m d v ns s0 D s) (hd : ∀ i < m, ∀ j < m, ∀ x, d i = some x → d j = some x → i = j) {i : Nat} (hi : i < m)
    (hord : ∀ j < m, D j → ∀ x, x ∈ (ns j).map (·.1) → x ∈ (ns i).map (·.1) → j ≤ i) (hD' : ∀ j < m, D' j ↔ D j ∨ j = i) :
    Kn3 m d v ns s0 D' ((⟨s.tm, ns i ++ s.ob⟩ : St).put (d i) (v i)) := by
  have hob : ((⟨s.tm, ns i ++ s.ob⟩ : St).put (d i) (v i)).ob = ns i ++ s.ob := by cases d i <;> rfl
  have htm : ∀ x, lk ((⟨s.tm, ns i ++ s.ob⟩ : St).put (d i) (v i)).tm x = if d i = some x then some (v i) else lk s.tm x := by
    intro x
    cases hdi : d i with
    | none => simp [St.put]
    | some y =>
      simp only [St.put, lk_cons, Option.some.injEq]
  have hself : D' i := (hD' i hi).2 (.inr rfl)
  refine ⟨?_, ?_, ?_, ?_⟩
  · intro j hj hDj x hx
    rw [htm]
    by_cases e : j = i
    · subst e; rw [if_pos hx]
    · have : D j := ((hD' j hj).1 hDj).resolve_right e
      rw [if_neg (fun h => e (hd j hj i hi x hx h))]
      exact K.t1 j hj this x hx
  · intro x hx
    rw [htm, if_neg (hx i hi hself)]
    exact K.t2 x fun j hj hDj => hx j hj ((hD' j hj).2 (.inl hDj))
  · intro x j hj hDj hxj hgr
    rw [hob, lk_append]
    by_cases e : j = i
    · subst e
      cases hl : lk (ns j) x with
      | none => exact absurd hxj (lk_none_iff.1 hl)
      | some o => rfl
    · have hDj' : D j := ((hD' j hj).1 hDj).resolve_right e
      have hxi : x ∉ (ns i).map (·.1) := by
        intro hxi
        have h1 := hgr i hi hself hxi
        have h2 := hord j hj hDj' x hxj hxi
        exact e (by omega)
      rw [lk_none_iff.2 hxi]
      exact K.o1 x j hj hDj' hxj fun j' hj' hD hx' => hgr j' hj' ((hD' j' hj').2 (.inl hD)) hx'
  · intro x hx
    rw [hob, lk_append, lk_none_iff.2 (hx i hi hself)]
    exact K.o2 x fun j hj hDj => hx j hj ((hD' j hj).2 (.inl hDj))

theorem Kn3.tm_eq {s' : St} (K : Kn3 m d v ns s0 D s) (K' : Kn3 m d v ns s0 D' s') (h : ∀ i < m, D i ↔ D' i) (x : Nat) : lk s'.tm x = lk s.tm x := by
  by_cases hx : ∃ i, i < m ∧ D i ∧ d i = some x
  · obtain ⟨i, hi, hD, hd⟩ := hx
    rw [K.t1 i hi hD x hd, K'.t1 i hi ((h i hi).1 hD) x hd]
  · rw [K.t2 x fun i hi hD e => hx ⟨i, hi, hD, e⟩, K'.t2 x fun i hi hD e => hx ⟨i, hi, (h i hi).2 hD, e⟩]

/-- Two states of which the same operations have written at x know the same of x. -/
theorem Kn3.ob_at {s' : St} {x : Nat} (K : Kn3 m d v ns s0 D s) (K' : Kn3 m d v ns s0 D' s') (h : ∀ i < m, x ∈ (ns i).map (·.1) → (D i ↔ D' i)) : lk s.ob x = lk s'.ob x := by
  by_cases hx : ∃ i, i < m ∧ (D i ∧ x ∈ (ns i).map (·.1))
  · obtain ⟨g, g1, ⟨g2, g3⟩, g4⟩ := greatest m hx
    rw [K.o1 x g g1 g2 g3 fun j hj hD hk => g4 j hj ⟨hD, hk⟩, K'.o1 x g g1 ((h g g1 g3).1 g2) g3 fun j hj hD hk => g4 j hj ⟨(h j hj hk).2 hD, hk⟩]
  · rw [K.o2 x fun i hi hD e => hx ⟨i, hi, hD, e⟩, K'.o2 x fun i hi hD e => hx ⟨i, hi, (h i hi e).2 hD, e⟩]

theorem DrS3.get {F : Fn} {Q : Exit → Act → World → Prop} {all : Array Oper} {k : List It} {m : Nat} {tk : List (List Nat)} {alts : List (Nat × Nat × Nat)} {no : List (Nat × Ob)} : ∀ {os : List Oper} {bs hs : List (List Nat)} {i : Nat} {s : St}, DrS3 F w0 Q all k m tk alts no bs hs i os s →
    ∃ (d : Nat → Option Nat) (v : Nat → FV) (ns : Nat → List (Nat × Ob)) (fk : Nat → List Nat) (st : Nat → St), st i = s ∧
      (∀ j, i ≤ j → j < i + os.length → (∀ o, os[j - i]? = some o → o.dst = d j) ∧ (∀ x ∈ fk j, d j = some (x / 64) ∧ lk (st j).ob x = none) ∧ nsOk3 (d j) (tkAt tk j) (ns j) = true ∧
        (∀ b h, bs[j - i]? = some b → hs[j - i]? = some h → GoodOp3 F w0 (cont F.P F.N w0 Q k) all j (cut2 b h (st j)) (d j) (v j) (ns j) (fk j) ∧ AltOp F w0 (cont F.P F.N w0 Q k) all alts no j b h (st j) (d j) (v j) (ns j) (fk j)) ∧
        noOk no (tkAt tk j) j (ns j) ∧ st (j + 1) = (⟨(st j).tm, ns j ++ (st j).ob⟩ : St).put (d j) (v j)) ∧
      J F.P F.N w0 (cont F.P F.N w0 Q k) [.ops all (all.toList.drop m)] (st (i + os.length))
  | [], bs, hs, i, s, h => by
    have h : J F.P F.N w0 (cont F.P F.N w0 Q k) [.ops all (all.toList.drop m)] s := by cases bs <;> cases hs <;> simpa only [DrS3] using h
    exact ⟨fun _ => none, fun _ => .und, fun _ => [], fun _ => [], fun _ => s, rfl, fun j h1 h2 => by simp at h2; omega, h⟩
  | o :: os, [], hs, i, s, h => by simp only [DrS3] at h
  | o :: os, _ :: _, [], i, s, h => by simp only [DrS3] at h
  | o :: os, b :: bs, h' :: hs, i, s, h => by
    simp only [DrS3] at h
    obtain ⟨v0, ns0, fk0, h3, h4, h5, ha, hn, h6⟩ := h
    obtain ⟨d, v, ns, fk, st, g1, g2, g3⟩ := DrS3.get h6
    refine ⟨fun j => if j = i then o.dst else d j, fun j => if j = i then v0 else v j, fun j => if j = i then ns0 else ns j, fun j => if j = i then fk0 else fk j, fun j => if j = i then s else st j, by simp, ?_, ?_⟩
    · intro j hj1 hj2
      by_cases e : j = i
      · subst e
        simp only [if_true, Nat.sub_self]
        refine ⟨fun o' ho' => by simp at ho'; subst ho'; rfl, h3, h4, fun b' h'' hb' hh' => by simp at hb' hh'; subst hb'; subst hh'; exact ⟨h5, ha⟩, hn, ?_⟩
        rw [if_neg (by omega)]; exact g1
      · simp only [if_neg e]
        rw [if_neg (by omega)]
        have := g2 j (by omega) (by simp at hj2; omega)
        have hs : j - i = (j - (i + 1)) + 1 := by omega
        rw [hs]
        simpa using this
    · have e : i + (o :: os).length = i + 1 + os.length := by simp; omega
      have hne : ¬ i + (o :: os).length = i := by simp
      show J _ _ _ _ _ (if i + (o :: os).length = i then s else st (i + (o :: os).length))
      rw [if_neg hne, e]; exact g3

theorem getD_flip {listed : Array Bool} {i : Nat} (hi : i < listed.size) (b c : Bool) : listed.getD i b = listed.getD i c := by
  rw [Array.getD_eq_getD_getElem?, Array.getD_eq_getD_getElem?]; simp [hi]

theorem lk_mem2 {α : Type} : ∀ {l : List (Nat × α)} {i : Nat} {q : α}, lk l i = some q → (i, q) ∈ l
  | [], _, _, h => by simp [lk] at h
  | (y, z) :: l, i, q, h => by
    rw [lk_cons] at h
    split at h
    · rename_i e; subst e
      simp only [Option.some.injEq] at h; subst h
      exact List.mem_cons_self ..
    · exact List.mem_cons_of_mem _ (lk_mem2 h)

/-- THE DRAWN ORDER: operations that may write, in the order of the list; then the rest. -/
theorem J.draw3 {F : Fn} {Q : Exit → Act → World → Prop} {id : Nat} {ops : Array Oper} {k : List It} (hmix : F.P.follows .mixedOrders = true) (m : Nat) (rows bs tk hs : List (List Nat)) (alts : List (Nat × Nat × Nat)) (no : List (Nat × Ob))
    (hok : drawOk3 ops.toList m rows bs tk hs alts = true)
    (h : DrS3 F w0 Q ops k m tk alts no bs hs 0 (ops.toList.take m) s) : J F.P F.N w0 Q (.code (.region id ops true) :: k) s := by
  simp only [drawOk3, Bool.and_eq_true, List.all_eq_true, List.mem_range, Bool.or_eq_true] at hok
  obtain ⟨⟨⟨⟨⟨⟨⟨⟨⟨hm, hnd⟩, hpre⟩, hrow⟩, hrows⟩, hbs⟩, hhs⟩, htd⟩, htt⟩, hal⟩ := hok
  have hbs : bs = (List.range m).map (badR3 ops.toList m rows) := by simpa using hbs
  have hhs : hs = (List.range m).map (hidR m rows tk alts) := by simpa using hhs
  have hm : m ≤ ops.size := by simpa using Nat.le_of_ble_eq_true hm
  have hlen : (ops.toList.take m).length = m := by simp; omega
  obtain ⟨d, v, ns, fk, st, g1, g2, g3⟩ := DrS3.get h
  simp only [Nat.zero_add, hlen] at g2 g3
  have hop : ∀ i < m, ∃ o, ops[i]? = some o ∧ o.dst = d i ∧ (ops.toList.take m)[i]? = some o := by
    intro i hi
    have hs : i < ops.size := by omega
    refine ⟨ops[i], by simp [hs], ?_, by simp [hi, hs]⟩
    exact (g2 i (Nat.zero_le _) hi).1 _ (by simp [hi, hs])
  have hdst : ∀ i < m, (ops.toList[i]?).bind (·.dst) = d i := by
    intro i hi
    obtain ⟨o, h1, h2, _⟩ := hop i hi
    simp [h1, h2]
  have hd : ∀ i < m, ∀ j < m, ∀ x, d i = some x → d j = some x → i = j := by
    have hnd' := nodupB_iff hnd
    have key : ∀ i < m, ∀ j < m, i < j → ∀ x, d i = some x → d j = some x → False := by
      intro i hi j hj hij x hx hx'
      have hp := (List.pairwise_filterMap.1 hnd')
      have := List.pairwise_iff_getElem.1 hp i j (by rw [hlen]; exact hi) (by rw [hlen]; exact hj) hij
      obtain ⟨o, h1, h2, h3⟩ := hop i hi
      obtain ⟨o', h1', h2', h3'⟩ := hop j hj
      have e1 := (List.getElem?_eq_some_iff.1 h3).2
      have e2 := (List.getElem?_eq_some_iff.1 h3').2
      rw [e1, e2] at this
      exact this x (h2.trans hx) x (h2'.trans hx') rfl
    intro i hi j hj x hx hx'
    rcases Nat.lt_trichotomy i j with hlt | he | hgt
    · exact (key i hi j hj hlt x hx hx').elim
    · exact he
    · exact (key j hj i hi hgt x hx' hx).elim
  have hn : ∀ i < m, ∀ x ∈ (ns i).map (·.1), d i = some (x / 64) ∨ x ∈ tkAt tk i := by
    intro i hi x hx
    obtain ⟨p, hp, rfl⟩ := List.mem_map.1 hx
    have := (List.all_eq_true.1 (g2 i (Nat.zero_le _) hi).2.2.1) p hp
    simp only [Bool.or_eq_true] at this
    exact this.imp (fun h => by simpa using h) elem_iff.1
  have htd' : ∀ j < m, ∀ x ∈ tkAt tk j, ∀ i < m, d i = some (x / 64) → i ∈ row rows j := by
    intro j hj x hx i hi e
    have := htd j hj x hx i hi
    rw [hdst i hi, e] at this
    simpa using this
  have htt' : ∀ j < m, ∀ x ∈ tkAt tk j, ∀ i < j, x ∈ tkAt tk i → i ∈ row rows j := by
    intro j hj x hx i hi hx'
    have := htt j hj x hx i hi
    rw [elem_iff.2 hx'] at this
    simpa using this
  have hpre' : ∀ i < ops.size, ∀ j ∈ aftI ops.toList i, j < i := by
    intro i hi j hj
    have := hpre i (by simpa using hi) j hj
    simpa [Nat.blt_eq] using this
  have hinv : ∀ {x : Nat} {o : Oper}, ops[x]? = some o → ∀ y, y ∈ aftI ops.toList x ↔ ∃ e ∈ o.after, Region.binds .any e = true ∧ e.on = y := by
    intro x o ho y
    simp only [aftI, Array.getElem?_toList, ho, Option.map_some, Option.getD_some, aft, List.mem_map, List.mem_filter]
    constructor
    · rintro ⟨e, ⟨h1, h2⟩, h3⟩; exact ⟨e, by simpa using h1, h2, h3⟩
    · rintro ⟨e, h1, h2, h3⟩; exact ⟨e, ⟨by simpa using h1, h2⟩, h3⟩
  have haft : ∀ j o, ops[j]? = some o → ∀ e ∈ o.after, Region.binds .any e = true → e.on < j := by
    intro j o ho e he hb
    have hj : j < ops.size := (Array.getElem?_eq_some_iff.1 ho).1
    exact hpre' j hj e.on ((hinv ho _).2 ⟨e, he, hb, rfl⟩)
  have hAn : ∀ i, i < ops.size → ∀ j ∈ row rows i, An ops.toList j i := by
    intro i
    induction i using Nat.strongRecOn with
    | _ i ih =>
      intro hi j hj
      rcases hrows i (by simpa using hi) j hj with hd' | hex
      · exact .d (elem_iff.1 hd')
      · obtain ⟨k, hk, hjk⟩ := List.any_eq_true.1 hex
        have hki := hpre' i hi k hk
        exact .t (ih k hki (by omega) j (elem_iff.1 hjk)) hk
  have hrow' : ∀ j, m ≤ j → j < ops.size → ∀ i < j, An ops.toList i j := by
    intro j hmj hj i hi
    rcases hrow j (by simpa using hj) with hb | hall
    · have : j < m := by simpa [Nat.blt_eq] using hb
      omega
    · exact hAn j hj i (elem_iff.1 (hall i hi))
  have hAnlt : ∀ {x y : Nat}, An ops.toList x y → y < ops.size → x < y := by
    intro x y h
    induction h with
    | @d i' h => intro hy; exact hpre' i' hy x h
    | @t k i' _ h2 ih =>
      intro hy
      have := hpre' i' hy k h2
      have := ih (by omega)
      omega
  have hrowlt : ∀ i < m, ∀ j ∈ row rows i, j < i := fun i hi j hj => hAnlt (hAn i (by omega) j hj) (by omega)
  have hnslt : ∀ i < m, ∀ j < m, ∀ x, x ∈ (ns j).map (·.1) → x ∈ (ns i).map (·.1) → i < j → i ∈ row rows j := by
    intro i hi j hj x hxj hxi hij
    rcases hn j hj x hxj with h1 | h1
    · rcases hn i hi x hxi with h2 | h2
      · exact absurd (hd i hi j hj _ h2 h1) (by omega)
      · have := hrowlt i hi j (htd' i hi x h2 j hj h1); omega
    · rcases hn i hi x hxi with h2 | h2
      · exact htd' j hj x h1 i hi h2
      · exact htt' j hj x h1 i hij h2
  have hst : ∀ j, j ≤ m → Kn3 m d v ns s (fun i => i < j) (st j) := by
    intro j
    induction j with
    | zero =>
      intro _
      rw [g1]
      exact ⟨fun i _ h => absurd h (Nat.not_lt_zero _), fun _ _ => rfl, fun _ i _ h => absurd h (Nat.not_lt_zero _), fun _ _ => rfl⟩
    | succ j ih =>
      intro hj
      rw [(g2 j (Nat.zero_le _) hj).2.2.2.2.2]
      exact (ih (Nat.le_of_succ_le hj)).step hd hj (fun j' _ hlt _ _ _ => Nat.le_of_lt hlt) fun i _ => by omega
  intro a w β R
  simp only [cont]
  refine wp_region_any hmix ?_
  have R' : Rel F.N w0 s a { w with drawn := w.drawn + 1 } β := R.world ⟨⟨rfl, rfl, rfl, Nat.le_refl _, fun _ _ => rfl⟩, Nat.le_succ _⟩
  generalize ({ w with drawn := w.drawn + 1 } : World) = w at R'
  clear R
  have fin : ∀ (fuel : Nat) (listed : Array Bool) (s' : St) (a : Act) (w : World) (β : Nat → Value), listed.size = ops.size → left ops.size listed ≤ fuel → (∀ j, m ≤ j → j < ops.size → listed.getD j true = false) →
      Kn3 m d v ns s (fun i => listed.getD i false = true) s' → Rel F.N w0 s' a w β → (∀ i < m, listed.getD i false = true) → wpAny F.P .any ops (cont F.P F.N w0 Q k) fuel listed a w := by
    intro fuel listed s' a w β hsz hle hun K R hdone
    have hiff : ∀ i < m, (i < m ↔ listed.getD i false = true) := fun i hi => ⟨fun _ => hdone i hi, fun _ => hi⟩
    have R2 := R.ext (s' := st m) (fun t => K.tm_eq (hst m (Nat.le_refl _)) (fun i hi => (hiff i hi).symm) t) (fun t => K.ob_at (hst m (Nat.le_refl _)) (fun i hi _ => (hiff i hi).symm))
    have := g3 a w β R2
    simp only [cont] at this
    exact wpAny_row hrow' haft (ops.size - m) m _ listed a w (by omega) (Nat.le_refl _) hsz hle hdone hun this
  have main : ∀ (fuel : Nat) (listed : Array Bool) (s' : St) (a : Act) (w : World) (β : Nat → Value), listed.size = ops.size → left ops.size listed ≤ fuel →
      (∀ j, m ≤ j → j < ops.size → listed.getD j true = false) → (∀ x, listed.getD x false = true → ∀ y ∈ aftI ops.toList x, listed.getD y false = true) → Kn3 m d v ns s (fun i => listed.getD i false = true) s' → Rel F.N w0 s' a w β → wpAny F.P .any ops (cont F.P F.N w0 Q k) fuel listed a w := by
    intro fuel
    induction fuel with
    | zero =>
      intro listed s' a w β hsz hle hun hcl K R
      refine fin 0 listed s' a w β hsz hle hun K R fun i hi => ?_
      have hs : i < listed.size := by omega
      cases hb : listed.getD i true with
      | true => rw [getD_flip hs false true]; exact hb
      | false => have := left_pos (by omega : i < ops.size) hb; omega
    | succ fuel ih =>
      intro listed s' a w β hsz hle hun hcl K R
      by_cases hdone : ∀ i < m, listed.getD i false = true
      · exact fin _ listed s' a w β hsz hle hun K R hdone
      · have hex : ∃ i, i < m ∧ listed.getD i false = false := by
          refine Classical.byContradiction fun hc => hdone fun i hi => ?_
          cases hb : listed.getD i false with
          | true => rfl
          | false => exact absurd ⟨i, hi, hb⟩ hc
        have hleast : ∃ i, i < m ∧ listed.getD i false = false ∧ ∀ j < i, listed.getD j false = true := by
          obtain ⟨i, hi⟩ := hex
          induction i using Nat.strongRecOn with
          | _ i ihi =>
            by_cases hj : ∃ j, j < i ∧ listed.getD j false = false
            · obtain ⟨j, hj1, hj2⟩ := hj
              exact ihi j hj1 ⟨by omega, hj2⟩
            · refine ⟨i, hi.1, hi.2, fun j hj' => ?_⟩
              cases hb : listed.getD j false with
              | true => rfl
              | false => exact absurd ⟨j, hj', hb⟩ hj
        obtain ⟨i0, hi0, hu0, hb0⟩ := hleast
        refine ⟨fun hnil => ?_, fun i hi => ?_⟩
        · have : i0 ∈ Region.ready .any ops listed := by
            obtain ⟨o, ho, _⟩ := hop i0 hi0
            exact ready_iff.2 ⟨by omega, by rw [getD_flip (by omega) true false]; exact hu0, o, ho, fun e he hb => hb0 _ (haft i0 o ho e he hb)⟩
          rw [hnil] at this; cases this
        · obtain ⟨r1, r2, o, ho, r3⟩ := ready_iff.1 hi
          have him : i < m := by
            refine Nat.lt_of_not_le fun hge => ?_
            have := (hrow' i hge r1 i0 (by omega)).listed (L := fun x => listed.getD x false = true) hcl (fun y hy => by
              obtain ⟨e, he, hb, rfl⟩ := (hinv ho y).1 hy
              exact r3 e he hb)
            rw [hu0] at this; cases this
          have g := g2 i (Nat.zero_le _) him
          have hbsi : bs[i - 0]? = some (badR3 ops.toList m rows i) := by
            rw [hbs, Nat.sub_zero, List.getElem?_map, List.getElem?_range him]; rfl
          have hhsi : hs[i - 0]? = some (hidR m rows tk alts i) := by
            rw [hhs, Nat.sub_zero, List.getElem?_map, List.getElem?_range him]; rfl
          obtain ⟨good, alt⟩ := g.2.2.2.1 _ _ hbsi hhsi
          have Ki := hst i (Nat.le_of_lt him)
          have hbad : ∀ j < m, ∀ x, d j = some x → x ∉ badR3 ops.toList m rows i → j ∈ row rows i := by
            intro j hj x hx hnb
            refine Classical.byContradiction fun hc => hnb ?_
            simp only [badR3, List.mem_filterMap, List.mem_filter, List.mem_range]
            refine ⟨j, ⟨hj, ?_⟩, (hdst j hj).trans hx⟩
            have : ¬ (row rows i).elem j = true := fun h => hc (elem_iff.1 h)
            simpa using this
          have hhid : ∀ j < m, j ≠ i → ∀ x ∈ tkAt tk j, x ∉ hidR m rows tk alts i → j ∈ row rows i ∨ i ∈ row rows j ∨ lk alts i = some (j, x) := by
            intro j hj hne x hx hnh
            refine Classical.byContradiction fun hc => hnh ?_
            simp only [not_or] at hc
            simp only [hidR, List.mem_flatMap, List.mem_filter, List.mem_range]
            refine ⟨j, ⟨hj, ?_⟩, hx, ?_⟩
            · have h1 : ¬ (row rows i).elem j = true := fun h => hc.1 (elem_iff.1 h)
              have h3 : ¬ (row rows j).elem i = true := fun h => hc.2.1 (elem_iff.1 h)
              have h2 : Nat.beq j i = false := by
                cases hb : Nat.beq j i with
                | false => rfl
                | true => exact absurd (nat_beq hb) hne
              rw [h2]
              simpa using And.intro h1 h3
            · simpa using hc.2.2
          have hdir : ∀ y ∈ aftI ops.toList i, listed.getD y false = true := fun y hy => by
            obtain ⟨e, he, hb, rfl⟩ := (hinv ho y).1 hy
            exact r3 e he hb
          have haftD : ∀ j, j ∈ row rows i → j < i ∧ listed.getD j false = true := by
            intro j hj
            have hA := hAn i r1 j hj
            exact ⟨hAnlt hA r1, hA.listed (L := fun x => listed.getD x false = true) hcl hdir⟩
          have hul : ¬ listed.getD i false = true := by rw [getD_flip (by omega) false true, r2]; simp
          -- what is done before i when something before j is
          have hbef : ∀ j < m, i ∈ row rows j → ¬ listed.getD j false = true := by
            intro j hj hij hl
            exact hul ((hAn j (by omega) i hij).listed (L := fun x => listed.getD x false = true) hcl (fun y hy => hcl j hl y hy))
          have hLt : Le (lk (st i).tm) (lk (st i).tm) := fun _ _ h => h
          have htmLe : ∀ x f, ¬ x ∈ badR3 ops.toList m rows i → lk (st i).tm x = some f → lk s'.tm x = some f := by
            intro x f hnb hx
            by_cases hxi : ∃ j, j < m ∧ d j = some x
            · obtain ⟨j, hj, hdj⟩ := hxi
              obtain ⟨hji, hjl⟩ := haftD j (hbad j hj x hdj hnb)
              rw [Ki.t1 j hj hji x hdj] at hx
              rw [K.t1 j hj hjl x hdj]; exact hx
            · have hno : ∀ j < m, d j ≠ some x := fun j hj e => hxi ⟨j, hj, e⟩
              rw [Ki.t2 x fun j hj _ => hno j hj] at hx
              rw [K.t2 x fun j hj _ => hno j hj]; exact hx
          have hobEq : ∀ x, ¬ x / 64 ∈ badR3 ops.toList m rows i → ¬ x ∈ hidR m rows tk alts i → (∀ j, lk alts i = some (j, x) → ¬ listed.getD j false = true) → (∀ j, lk alts i = some (j, x) → i < j) → lk (st i).ob x = lk s'.ob x := by
            intro x hnb hnh hal1 hal2
            refine Ki.ob_at K fun j hj hk => ?_
            have hcase : j = i ∨ j ∈ row rows i ∨ i ∈ row rows j ∨ lk alts i = some (j, x) := by
              by_cases e : j = i
              · exact .inl e
              · rcases hn j hj x hk with h1 | h1
                · exact .inr (.inl (hbad j hj _ h1 hnb))
                · exact .inr (hhid j hj e x h1 hnh)
            rcases hcase with rfl | h1 | h1 | h1
            · exact ⟨fun h => absurd h (Nat.lt_irrefl _), fun h => absurd h hul⟩
            · obtain ⟨q1, q2⟩ := haftD j h1
              exact ⟨fun _ => q2, fun _ => q1⟩
            · have := hrowlt j hj i h1
              exact ⟨fun h => absurd h (by omega), fun h => absurd h (hbef j hj h1)⟩
            · have q1 := hal1 j h1
              have q2 := hal2 j h1
              exact ⟨fun h => absurd h (by omega), fun h => absurd h q1⟩
          have hfr : ∀ x ∈ fk i, lk s'.ob x = none := by
            intro x hx
            obtain ⟨hxd, hxn⟩ := g.2.1 x hx
            rw [← hxn]
            refine (Ki.ob_at K fun j hj hk => ?_).symm
            rcases hn j hj x hk with h1 | h1
            · have e := hd j hj i him _ h1 hxd
              subst e
              exact ⟨fun h => absurd h (Nat.lt_irrefl _), fun h => absurd h hul⟩
            · have hij := htd' j hj x h1 i him hxd
              have := hrowlt j hj i hij
              exact ⟨fun h => absurd h (by omega), fun h => absurd h (hbef j hj hij)⟩
          have hnext : ∀ a' w' β', Rel F.N w0 ((⟨s'.tm, ns i ++ s'.ob⟩ : St).put (d i) (v i)) a' w' β' → wpAny F.P .any ops (cont F.P F.N w0 Q k) fuel (listed.setIfInBounds i true) a' w' := by
            intro a' w' β' R'
            have hsi : i < listed.size := by omega
            refine ih _ _ a' w' β' (by simp [hsz]) (by have := left_set hsz r1 r2; omega) (fun j hj hjs => ?_) (fun x hx y hy => ?_) (K.step hd him (fun j hj hl x hxj hxi => ?_) fun j hj => ?_) R'
            · rw [getD_set hsi, if_neg (by omega)]; exact hun j hj hjs
            · rw [getD_set hsi] at hx ⊢
              split
              · rfl
              · by_cases e : i = x
                · subst e; exact hdir y hy
                · rw [if_neg e] at hx; exact hcl x hx y hy
            · refine Nat.le_of_not_lt fun hlt => ?_
              exact hbef j hj (hnslt i him j hj x hxj hxi hlt) hl
            · rw [getD_set hsi]
              by_cases e : i = j
              · simp [e]
              · simp [e, Ne.symm e]
          have htmcut : ∀ (ob : List (Nat × Ob)), Le (lk (cut2 (badR3 ops.toList m rows i) (hidR m rows tk alts i) ⟨(st i).tm, ob⟩).tm) (lk s'.tm) := by
            intro ob x f hx
            simp only [cut2] at hx
            rw [lk_filter (fun y => !(badR3 ops.toList m rows i).elem y)] at hx
            split at hx
            · rename_i hnb
              exact htmLe x f (fun h => by rw [elem_iff.2 h] at hnb; simp at hnb) hx
            · cases hx
          have hobcut : ∀ (ob : List (Nat × Ob)), (∀ x f, ¬ x / 64 ∈ badR3 ops.toList m rows i → ¬ x ∈ hidR m rows tk alts i → lk ob x = some f → lk s'.ob x = some f) →
              Le (lk (cut2 (badR3 ops.toList m rows i) (hidR m rows tk alts i) ⟨(st i).tm, ob⟩).ob) (lk s'.ob) := by
            intro ob hq x f hx
            simp only [cut2] at hx
            rw [lk_filter (fun y => !(badR3 ops.toList m rows i).elem (y / 64) && !(hidR m rows tk alts i).elem y)] at hx
            split at hx
            · rename_i hnb
              simp only [Bool.and_eq_true, Bool.not_eq_true'] at hnb
              exact hq x f (fun h => by rw [elem_iff.2 h] at hnb; simp at hnb) (fun h => by rw [elem_iff.2 h] at hnb; simp at hnb) hx
            · cases hx
          cases hlka : lk alts i with
          | none =>
            refine good s' a w β _ R (htmcut _) (hobcut _ fun x f h1 h2 hx => ?_) hfr hnext
            rw [← hobEq x h1 h2 (fun j h => by rw [hlka] at h; cases h) (fun j h => by rw [hlka] at h; cases h)]; exact hx
          | some q =>
            obtain ⟨j0, x0⟩ := q
            unfold AltOp at alt
            rw [hlka] at alt
            simp only at alt
            have hmem : (i, j0, x0) ∈ alts := lk_mem2 hlka
            have hq := hal _ hmem
            obtain ⟨⟨⟨⟨hq1, hq2⟩, hq3⟩, hq4⟩, hq5⟩ := hq
            have hq1 : i < j0 := by simpa [Nat.blt_eq] using hq1
            have hq2 : j0 < m := by simpa [Nat.blt_eq] using hq2
            have hq3 : x0 ∈ tkAt tk j0 := elem_iff.1 hq3
            have hq5 : ∀ j < m, x0 ∈ tkAt tk j → j ≤ j0 := by
              intro j hj hx
              have := hq5 j hj
              rw [elem_iff.2 hx] at this
              simpa [Nat.ble_eq] using this
            have hgt : ∀ x j, lk alts i = some (j, x) → i < j := by
              intro x j h
              rw [hlka] at h
              simp only [Option.some.injEq, Prod.mk.injEq] at h
              omega
            cases hno : lk no j0 with
            | none => rw [hno] at alt; exact alt.elim
            | some ob =>
              rw [hno] at alt
              by_cases hl0 : listed.getD j0 false = true
              · refine alt s' a w β _ R (htmcut _) (hobcut _ fun x f h1 h2 hx => ?_) hfr hnext
                rw [lk_cons] at hx
                split at hx
                · rename_i e; subst e
                  simp only [Option.some.injEq] at hx; subst hx
                  have hw := (g2 j0 (Nat.zero_le _) hq2).2.2.2.2.1
                  unfold noOk at hw
                  rw [hno] at hw
                  have hw := hw x0 hq3
                  rw [K.o1 x0 j0 hq2 hl0 ?_ ?_, hw]
                  · refine Classical.byContradiction fun hc => ?_
                    rw [lk_none_iff.2 hc] at hw; cases hw
                  · intro j hj hjl hk
                    rcases hn j hj x0 hk with h3 | h3
                    · exact Nat.le_of_lt (hrowlt j0 hq2 j (htd' j0 hq2 x0 hq3 j hj h3))
                    · exact hq5 j hj h3
                · rename_i e
                  rw [← hobEq x h1 h2 (fun j h => by rw [hlka] at h; simp only [Option.some.injEq, Prod.mk.injEq] at h; exact absurd h.2 e) (hgt x)]; exact hx
              · refine good s' a w β _ R (htmcut _) (hobcut _ fun x f h1 h2 hx => ?_) hfr hnext
                rw [← hobEq x h1 h2 (fun j h => by rw [hlka] at h; simp only [Option.some.injEq, Prod.mk.injEq] at h; rw [← h.1]; exact hl0) (hgt x)]; exact hx
  have hf0 : ∀ i, (Array.replicate ops.size false).getD i false = false := by
    intro i
    rw [Array.getD_eq_getD_getElem?]
    by_cases hi : i < ops.size <;> simp [hi]
  refine main ops.size _ s a w β (by simp) ?_ (fun j _ hj => by simp [hj]) (fun x hx => by rw [hf0] at hx; cases hx) ?_ R'
  · unfold left
    refine Nat.le_trans List.countP_le_length (by simp)
  · exact ⟨fun i _ h => absurd ((hf0 i).symm.trans h) (by simp), fun _ _ => rfl, fun _ i _ h => absurd ((hf0 i).symm.trans h) (by simp), fun _ _ => rfl⟩

end Go.Sm

namespace Go.Sm
open Go.RowKit

variable {w0 : Base} {s : St} {a : Act} {w : World} {β : Nat → Value}

theorem lk_cut2_tm (b h : List Nat) (s : St) (x : Nat) : lk (cut2 b h s).tm x = if (!b.elem x) = true then lk s.tm x else none := lk_filter (fun y => !b.elem y) s.tm x
theorem lk_cut2_ob (b h : List Nat) (s : St) (x : Nat) : lk (cut2 b h s).ob x = if (!b.elem (x / 64) && !h.elem x) = true then lk s.ob x else none := lk_filter (fun y => !b.elem (y / 64) && !h.elem y) s.ob x

/-- What may be read of the objects. -/
def obB2 (b h : List Nat) (s : St) (k : Nat) : Option Ob := match b.elem (k / 64) with
  | true => none
  | false => match h.elem k with
    | true => none
    | false => lk s.ob k
theorem tmB2_eq (b h : List Nat) (s : St) : lk (cut2 b h s).tm = tmB b s := by
  funext t
  rw [lk_cut2_tm, tmB]
  cases b.elem t <;> rfl
theorem obB2_eq (b h : List Nat) (s : St) : lk (cut2 b h s).ob = obB2 b h s := by
  funext t
  rw [lk_cut2_ob, obB2]
  cases b.elem (t / 64) <;> cases h.elem t <;> rfl
theorem opdB2_eq (b h : List Nat) (s : St) : (cut2 b h s).opd = opdB b s := by
  funext x
  cases x with
  | tmp t => show lk (cut2 b h s).tm t = tmB b s t; rw [tmB2_eq]
  | _ => rfl

theorem DrS3.ext {F : Fn} {Q : Exit → Act → World → Prop} {all : Array Oper} {k : List It} {m : Nat} {tk : List (List Nat)} {alts : List (Nat × Nat × Nat)} {no : List (Nat × Ob)} : ∀ {os : List Oper} {bs hs : List (List Nat)} {i : Nat} {s s' : St}, (∀ t, lk s'.tm t = lk s.tm t) → s'.ob = s.ob →
    DrS3 F w0 Q all k m tk alts no bs hs i os s → DrS3 F w0 Q all k m tk alts no bs hs i os s'
  | [], bs, hs, i, s, s', ht, ho, h => by
    have h : J F.P F.N w0 (cont F.P F.N w0 Q k) [.ops all (all.toList.drop m)] s := by cases bs <;> cases hs <;> simpa only [DrS3] using h
    have h' : J F.P F.N w0 (cont F.P F.N w0 Q k) [.ops all (all.toList.drop m)] s' := fun a w β R => h a w β (R.ext (fun t => (ht t).symm) fun k => by rw [ho])
    cases bs <;> cases hs <;> simpa only [DrS3] using h'
  | o :: os, [], hs, i, s, s', ht, ho, h => by simp only [DrS3] at h
  | o :: os, _ :: _, [], i, s, s', ht, ho, h => by simp only [DrS3] at h
  | o :: os, b :: bs, h0 :: hs, i, s, s', ht, ho, h => by
    simp only [DrS3] at h ⊢
    obtain ⟨v, ns, fk, h3, h4, h5, ha, hn, h6⟩ := h
    have good : ∀ (ob : List (Nat × Ob)), GoodOp3 F w0 (cont F.P F.N w0 Q k) all i (cut2 b h0 ⟨s.tm, ob⟩) o.dst v ns fk → GoodOp3 F w0 (cont F.P F.N w0 Q k) all i (cut2 b h0 ⟨s'.tm, ob⟩) o.dst v ns fk := by
      intro ob hg s2 a w β K R l1 l2 fr nx
      refine hg s2 a w β K R (fun x f hx => l1 x f ?_) l2 fr nx
      rw [lk_cut2_tm] at hx ⊢; rw [ht]; exact hx
    refine ⟨v, ns, fk, fun x hx => ⟨(h3 x hx).1, by rw [ho]; exact (h3 x hx).2⟩, h4, ?_, ?_, hn, DrS3.ext ?_ ?_ h6⟩
    · have := good s.ob h5
      rw [← ho] at this; exact this
    · unfold AltOp at ha ⊢
      split at ha
      · trivial
      · rename_i j x hl
        split at ha
        · rename_i ob hno
          rw [ho]; exact good _ ha
        · exact ha.elim
    · intro t
      cases o.dst with
      | none => exact ht t
      | some d => simp only [St.put, lk_cons, ht]
    · rw [ho]; cases o.dst <;> rfl

/-- A call in the quiet part. -/
def DrC3 (F : Fn) (w0 : Base) (Q : Exit → Act → World → Prop) (all : Array Oper) (k : List It) (m : Nat) (tk : List (List Nat)) (alts : List (Nat × Nat × Nat)) (no : List (Nat × Ob)) (bs hs : List (List Nat)) (i : Nat) (os : List Oper) (s : St) (b h : List Nat) (d f : Nat) (fs : List FV) : Prop :=
  ∃ args q, argsR (obB2 b h s) fs = some args ∧ CallOK F.P f args q ∧ freshOs s.ob (impOs (d * 64) (cellsR q)) = true ∧ nsOk d (impOs (d * 64) (cellsR q)) = true ∧
    DrS3 F w0 Q all k m tk alts no bs hs i os ⟨(d, impF (d * 64) q) :: s.tm, impOs (d * 64) (cellsR q) ++ s.ob⟩

/-- A literal that takes arrays of one's own in, in the quiet part. -/
def DrB3 (F : Fn) (w0 : Base) (Q : Exit → Act → World → Prop) (all : Array Oper) (k : List It) (m : Nat) (tk : List (List Nat)) (alts : List (Nat × Nat × Nat)) (no : List (Nat × Ob)) (bs hs : List (List Nat)) (i : Nat) (os : List Oper) (s : St) (b h tki : List Nat) (d t len : Nat) (qs : List (Nat × List C)) : Prop :=
  ∃ (v : FV) (ns : List (Nat × Ob)) (fk : List Nat), (∀ x ∈ fk, some d = some (x / 64) ∧ lk s.ob x = none) ∧ nsOk3 (some d) tki ns = true ∧
    (∀ s2 a w β, Rel F.N w0 s2 a w β → Le (lk (cut2 b h s).tm) (lk s2.tm) → Le (lk (cut2 b h s).ob) (lk s2.ob) → (∀ x ∈ fk, lk s2.ob x = none) → ∀ vs, PartsRel (s2.en w w0.arg β) qs vs →
      ∃ val w' β', (Instr.buildSlice t len vs.toArray).run F.P w = .ok val w' ∧ Rel F.N w0 ((⟨s2.tm, ns ++ s2.ob⟩ : St).put (some d) v) (a.put (some d) val) w' β') ∧
    DrS3 F w0 Q all k m tk alts no bs hs i os ((⟨s.tm, ns ++ s.ob⟩ : St).put (some d) v)

def none' {α : Type} : Option α → Bool
  | none => true
  | some _ => false
def inTk (tk : List Nat) (ns : List (Nat × Ob)) : Bool := ns.all fun p => tk.elem p.1

def dr3 (F : Fn) (w0 : Base) (Q : Exit → Act → World → Prop) (all : Array Oper) (k : List It) (m : Nat) (tk : List (List Nat)) (alts : List (Nat × Nat × Nat)) (no : List (Nat × Ob)) : List (List Nat) → List (List Nat) → Nat → List Oper → St → Prop
  | _, _, _, [], s => J F.P F.N w0 Q (.ops all (all.toList.drop m) :: k) s
  | b :: bs, h :: hs, i, o :: os, s =>
    let go (s : St) : Prop := match o.dst with
      | some d => Nat.blt d F.N = true ∧ match ev F.T F.E (opdB b s) (obB2 b h s) (d * 64) o.type o.op with
        | .q p v ns => p ∧ freshOs s.ob ns = true ∧ nsOk d ns = true ∧
            (match lk alts i with
              | none => True
              | some (j, x) => match lk no j with
                | some ob => (match ev F.T F.E (opdB b s) (obB2 b h ⟨s.tm, (x, ob) :: s.ob⟩) (d * 64) o.type o.op with
                  | .q p' v' ns' => p' ∧ v' = v ∧ ns' = ns
                  | _ => False)
                | none => False) ∧ noOk no (tkAt tk i) i ns ∧
            dr3 F w0 Q all k m tk alts no bs hs (i + 1) os ⟨(d, v) :: s.tm, ns ++ s.ob⟩
        | .el xs j => none' (lk alts i) = true ∧ none' (lk no i) = true ∧ (0 ≤ j ∧ j < xs.length) ∧ Later (∀ e, xs[j.toNat]? = some e → dr3 F w0 Q all k m tk alts no bs hs (i + 1) os ⟨(d, .c (.rd e)) :: s.tm, s.ob⟩)
        | .ld xs j j' size agg => none' (lk alts i) = true ∧ none' (lk no i) = true ∧ j < xs.length ∧ Later (∀ e, xs[j]? = some e → dr3 F w0 Q all k m tk alts no bs hs (i + 1) os ⟨(d, ldV e j' size agg) :: s.tm, s.ob⟩)
        | .call f fs => none' (lk alts i) = true ∧ none' (lk no i) = true ∧ DrC3 F w0 Q all k m tk alts no bs hs (i + 1) os s b h d f fs
        | .bs t len qs => none' (lk alts i) = true ∧ none' (lk no i) = true ∧ DrB3 F w0 Q all k m tk alts no bs hs (i + 1) os s b h (tkAt tk i) d t len qs
        | .ef p v ns => none' (lk alts i) = true ∧ p ∧ (lk s.ob (d * 64)).isNone = true ∧ nsOk3 (some d) (tkAt tk i) ns = true ∧ noOk no (tkAt tk i) i ns ∧
            dr3 F w0 Q all k m tk alts no bs hs (i + 1) os ⟨(d, v) :: s.tm, ns ++ s.ob⟩
        | _ => False
      | none => match ev F.T F.E (opdB b s) (obB2 b h s) 0 o.type o.op with
        | .ef p .und ns => none' (lk alts i) = true ∧ p ∧ inTk (tkAt tk i) ns = true ∧ noOk no (tkAt tk i) i ns ∧ dr3 F w0 Q all k m tk alts no bs hs (i + 1) os ⟨s.tm, ns ++ s.ob⟩
        | _ => False
    match o.guard with
    | none => go s
    | some (j, want) => match (all[j]?).bind (·.dst), o.dst with
      | some d, some d' => Nat.blt d' F.N = true ∧ none' (lk alts i) = true ∧ none' (lk no i) = true ∧ match tmB b s d with
        | some (.c (.d (.v (.bool x)))) => br x want (go ⟨(d, .c (.d (.v (.bool want)))) :: s.tm, s.ob⟩)
            (dr3 F w0 Q all k m tk alts no bs hs (i + 1) os ⟨(d', .und) :: (d, .c (.d (.v (.bool (!want))))) :: s.tm, s.ob⟩)
        | some .und => dr3 F w0 Q all k m tk alts no bs hs (i + 1) os ⟨(d', .und) :: s.tm, s.ob⟩
        | _ => False
      | _, _ => False
  | _, _, _, _ :: _, _ => False

/-- One operation that writes. -/
theorem core_ef {F : Fn} (hF : FnOk F) {o : Oper} {k : Nat} {t : St} {p : Prop} {v : FV} {ns : List (Nat × Ob)} (he : ev F.T F.E t.opd (lk t.ob) k o.type o.op = .ef p v ns) (hp : p)
    (hd : ∀ d, o.dst = some d → d < F.N) (hv : o.dst = none → v = .und) {K : Act → World → Prop} {Q : Exit → Act → World → Prop} (R : Rel F.N w0 s a w β) (h1 : Le (lk t.tm) (lk s.tm)) (h2 : Le (lk t.ob) (lk s.ob))
    (hfr : ∀ d, o.dst = some d → lk s.ob k = none) (hK : ∀ a' w' β', Rel F.N w0 ((⟨s.tm, ns ++ s.ob⟩ : St).put o.dst v) a' w' β' → K a' w') : o.wp F.P a w K Q := by
  have he' : ev F.T F.E s.opd (lk s.ob) k o.type o.op = .ef p v ns := ev_mono (opd_mono h1) h2 he (by simp)
  unfold Oper.wp
  rcases ev_ef hF.T hF.E R he' hp with ⟨w', β', r1, rfl, r2⟩ | ⟨hne, hval⟩
  · rw [r1, Oper.upon_skip]
    refine hK _ _ β' ?_
    cases hod : o.dst with
    | none => simpa [St.put, Act.put] using r2
    | some d => exact r2.setTm (hd d hod) (by simp only [FVRel])
  · cases hod : o.dst with
    | none => exact absurd (hv hod) hne
    | some d =>
      obtain ⟨val, w', β', r1, r2, r3⟩ := hval (hfr d hod)
      rw [r1, Oper.upon_value, hod]
      refine hK _ _ β' ?_
      rw [hod]
      exact r2.setTm (hd d hod) r3

theorem nsOk3_of {d : Nat} {tk : List Nat} {ns : List (Nat × Ob)} (h : nsOk d ns = true) : nsOk3 (some d) tk ns = true := by
  unfold nsOk3
  rw [List.all_eq_true]
  intro p hp
  have := nat_beq ((List.all_eq_true.1 h) p hp)
  simp [this]
theorem nsOk3_tk {d : Option Nat} {tk : List Nat} {ns : List (Nat × Ob)} (h : inTk tk ns = true) : nsOk3 d tk ns = true := by
  unfold nsOk3
  rw [List.all_eq_true]
  intro p hp
  have := (List.all_eq_true.1 h) p hp
  rw [this]; simp
theorem noOk_none {no : List (Nat × Ob)} {tk : List Nat} {i : Nat} {ns : List (Nat × Ob)} (h : none' (lk no i) = true) : noOk no tk i ns := by
  unfold noOk
  cases hl : lk no i with
  | none => trivial
  | some x => rw [hl] at h; cases h
theorem altOp_none {F : Fn} {Q : Exit → Act → World → Prop} {all : Array Oper} {alts : List (Nat × Nat × Nat)} {no : List (Nat × Ob)} {i : Nat} {b h : List Nat} {d : Option Nat} {v : FV} {ns : List (Nat × Ob)} {fk : List Nat} (hn : none' (lk alts i) = true) :
    AltOp F w0 Q all alts no i b h s d v ns fk := by
  unfold AltOp
  cases hl : lk alts i with
  | none => trivial
  | some x => rw [hl] at hn; cases hn
theorem freshOs_fk {ob : List (Nat × Ob)} {ns : List (Nat × Ob)} {d : Nat} (hf : freshOs ob ns = true) (hn : nsOk d ns = true) : ∀ x ∈ ns.map (·.1), some d = some (x / 64) ∧ lk ob x = none := fun x hx => ⟨by rw [nsOk_key hn hx], (freshOs_iff.1 hf).1 x hx⟩
theorem freshOs_of {ob ob' : List (Nat × Ob)} {ns : List (Nat × Ob)} (hf : freshOs ob ns = true) (h : ∀ x ∈ ns.map (·.1), lk ob' x = none) : freshOs ob' ns = true := freshOs_iff.2 ⟨h, (freshOs_iff.1 hf).2⟩

theorem dr3_sound {F : Fn} (hF : FnOk F) {Q : Exit → Act → World → Prop} {all : Array Oper} {k : List It} {m : Nat} {tk : List (List Nat)} {alts : List (Nat × Nat × Nat)} {no : List (Nat × Ob)} : ∀ {os : List Oper} {bs hs : List (List Nat)} {i : Nat} {s : St}, (∀ j o, os[j]? = some o → all[i + j]? = some o) →
    dr3 F w0 Q all k m tk alts no bs hs i os s → DrS3 F w0 Q all k m tk alts no bs hs i os s
  | [], bs, hs, i, s, _, h => by
    have h : J F.P F.N w0 Q (.ops all (all.toList.drop m) :: k) s := by cases bs <;> cases hs <;> simpa only [dr3] using h
    have h' : J F.P F.N w0 (cont F.P F.N w0 Q k) [.ops all (all.toList.drop m)] s := by
      intro a w β R
      have := h a w β R
      simp only [cont] at this ⊢
      exact this
    cases bs <;> cases hs <;> simpa only [DrS3] using h'
  | o :: os, [], hs, i, s, _, h => by simp only [dr3] at h
  | o :: os, _ :: _, [], i, s, _, h => by simp only [dr3] at h
  | o :: os, b :: bs, hh :: hs, i, s, hall, h => by
    have hi : all[i]? = some o := by simpa using hall 0 o rfl
    have hall' : ∀ j o, os[j]? = some o → all[i + 1 + j]? = some o := fun j o' h => by
      rw [show i + 1 + j = i + (j + 1) by omega]; exact hall (j + 1) o' (by simpa using h)
    -- one operation that is carried out, in the state s'
    have go : ∀ {s' : St}, (∀ {t : St} {v : FV} {ns : List (Nat × Ob)} {fk : List Nat}, t.tm = s'.tm → (∀ s a w β (K : Act → World → Prop), Rel F.N w0 s a w β → Le (lk (cut2 b hh t).tm) (lk s.tm) → Le (lk (cut2 b hh t).ob) (lk s.ob) → (∀ x ∈ fk, lk s.ob x = none) →
          (∀ a' w' β', Rel F.N w0 ((⟨s.tm, ns ++ s.ob⟩ : St).put o.dst v) a' w' β' → K a' w') → o.wp F.P a w K (cont F.P F.N w0 Q k)) → GoodOp3 F w0 (cont F.P F.N w0 Q k) all i (cut2 b hh t) o.dst v ns fk) →
        (match o.dst with
      | some d => Nat.blt d F.N = true ∧ match ev F.T F.E (cut2 b hh s').opd (lk (cut2 b hh s').ob) (d * 64) o.type o.op with
        | .q p v ns => p ∧ freshOs s'.ob ns = true ∧ nsOk d ns = true ∧
            (match lk alts i with
              | none => True
              | some (j, x) => match lk no j with
                | some ob => (match ev F.T F.E (cut2 b hh s').opd (lk (cut2 b hh ⟨s'.tm, (x, ob) :: s'.ob⟩).ob) (d * 64) o.type o.op with
                  | .q p' v' ns' => p' ∧ v' = v ∧ ns' = ns
                  | _ => False)
                | none => False) ∧ noOk no (tkAt tk i) i ns ∧
            dr3 F w0 Q all k m tk alts no bs hs (i + 1) os ⟨(d, v) :: s'.tm, ns ++ s'.ob⟩
        | .el xs j => none' (lk alts i) = true ∧ none' (lk no i) = true ∧ (0 ≤ j ∧ j < xs.length) ∧ (∀ e, xs[j.toNat]? = some e → dr3 F w0 Q all k m tk alts no bs hs (i + 1) os ⟨(d, .c (.rd e)) :: s'.tm, s'.ob⟩)
        | .ld xs j j' size agg => none' (lk alts i) = true ∧ none' (lk no i) = true ∧ j < xs.length ∧ (∀ e, xs[j]? = some e → dr3 F w0 Q all k m tk alts no bs hs (i + 1) os ⟨(d, ldV e j' size agg) :: s'.tm, s'.ob⟩)
        | .call f fs => none' (lk alts i) = true ∧ none' (lk no i) = true ∧ DrC3 F w0 Q all k m tk alts no bs hs (i + 1) os s' b hh d f fs
        | .bs t len qs => none' (lk alts i) = true ∧ none' (lk no i) = true ∧ DrB3 F w0 Q all k m tk alts no bs hs (i + 1) os s' b hh (tkAt tk i) d t len qs
        | .ef p v ns => none' (lk alts i) = true ∧ p ∧ (lk s'.ob (d * 64)).isNone = true ∧ nsOk3 (some d) (tkAt tk i) ns = true ∧ noOk no (tkAt tk i) i ns ∧
            dr3 F w0 Q all k m tk alts no bs hs (i + 1) os ⟨(d, v) :: s'.tm, ns ++ s'.ob⟩
        | _ => False
      | none => match ev F.T F.E (cut2 b hh s').opd (lk (cut2 b hh s').ob) 0 o.type o.op with
        | .ef p .und ns => none' (lk alts i) = true ∧ p ∧ inTk (tkAt tk i) ns = true ∧ noOk no (tkAt tk i) i ns ∧ dr3 F w0 Q all k m tk alts no bs hs (i + 1) os ⟨s'.tm, ns ++ s'.ob⟩
        | _ => False) → DrS3 F w0 Q all k m tk alts no (b :: bs) (hh :: hs) i (o :: os) s' := by
      intro s' hgood h
      simp only [DrS3]
      cases hd : o.dst with
      | none =>
        rw [hd] at h hgood
        simp only at h
        split at h
        · rename_i p ns he
          obtain ⟨q1, q2, q3, q4, q5⟩ := h
          refine ⟨.und, ns, [], fun _ hx => (nomatch hx), nsOk3_tk q3, hgood rfl fun s a w β K R l1 l2 f n => ?_, altOp_none q1, q4, dr3_sound hF hall' q5⟩
          exact core_ef hF he q2 (fun d h => absurd (hd.symm.trans h) (by simp)) (fun _ => rfl) R l1 l2 (fun d h => absurd (hd.symm.trans h) (by simp)) (by rw [hd]; exact n)
        · exact h.elim
      | some d =>
        rw [hd] at h hgood
        obtain ⟨hlt, h⟩ := h
        have hlt : d < F.N := by simpa [Nat.blt_eq] using hlt
        split at h
        · rename_i p v ns he
          obtain ⟨hp, hf, hn, ha, hno, h⟩ := h
          refine ⟨v, ns, ns.map (·.1), freshOs_fk hf hn, nsOk3_of hn, hgood rfl fun s a w β K R l1 l2 f n => core hF hd hlt he (.inl ⟨p, rfl, hp⟩) R l1 l2 (freshOs_of hf f) n, ?_, hno, dr3_sound hF hall' h⟩
          unfold AltOp
          split
          · trivial
          · rename_i j x hl
            rw [hl] at ha
            simp only at ha
            split
            · rename_i ob hob
              rw [hob] at ha
              simp only at ha
              split at ha
              · rename_i p' v' ns' he'
                obtain ⟨a1, rfl, rfl⟩ := ha
                refine hgood rfl fun s a w β K R l1 l2 f n => core hF hd hlt (t := cut2 b hh ⟨s'.tm, (x, ob) :: s'.ob⟩) (by rw [opdB2_eq] at he' ⊢; exact he') (.inl ⟨p', rfl, a1⟩) R l1 l2 (freshOs_of hf f) n
              · exact ha.elim
            · rename_i hob
              rw [hob] at ha; exact ha.elim
        · rename_i xs j he
          obtain ⟨n1, n2, hj, h⟩ := h
          have hx : xs[j.toNat]? = some (xs[j.toNat]'(by omega)) := by simp
          exact ⟨_, [], [], fun _ hx => (nomatch hx), rfl, hgood rfl fun s a w β K R l1 l2 f n => core hF hd hlt he (.inr (.inl ⟨xs, j, _, rfl, hj, hx, rfl, rfl⟩)) R l1 l2 rfl n, altOp_none n1, noOk_none n2, dr3_sound hF hall' (h _ hx)⟩
        · rename_i xs j j' size agg he
          obtain ⟨n1, n2, hj, h⟩ := h
          have hx : xs[j]? = some (xs[j]'hj) := by simp
          exact ⟨_, [], [], fun _ hx => (nomatch hx), rfl, hgood rfl fun s a w β K R l1 l2 f n => core hF hd hlt he (.inr (.inr (.inl ⟨xs, j, j', size, agg, _, rfl, hx, rfl, rfl⟩))) R l1 l2 rfl n, altOp_none n1, noOk_none n2, dr3_sound hF hall' (h _ hx)⟩
        · rename_i f fs he
          obtain ⟨n1, n2, args, q, g1, g2, g3, g4, g5⟩ := h
          rw [← obB2_eq] at g1
          exact ⟨_, _, _, freshOs_fk g3 g4, nsOk3_of g4, hgood rfl fun s a w β K R l1 l2 f n => core hF hd hlt he (.inr (.inr (.inr ⟨_, _, args, q, rfl, g1, g2, rfl, rfl⟩))) R l1 l2 (freshOs_of g3 f) n, altOp_none n1, noOk_none n2, g5⟩
        · rename_i t len qs he
          obtain ⟨n1, n2, v, ns, fk, g1, g2, g3, g4⟩ := h
          refine ⟨v, ns, fk, fun x hx => g1 x hx, g2, hgood rfl fun s2 a w β K R l1 l2 f n => ?_, altOp_none n1, noOk_none n2, g4⟩
          have he' := ev_mono (opd_mono l1) l2 he (by simp)
          obtain ⟨vs, r1, r2⟩ := ev_bs (P := F.P) R he'
          obtain ⟨val, w', β', q1, q2⟩ := g3 s2 a w β R l1 l2 f vs r1
          unfold Oper.wp
          rw [r2 val w' q1, Oper.upon_value, hd]
          exact n _ _ _ q2
        · rename_i p v ns he
          obtain ⟨n1, hp, hfr, htk, hno, h⟩ := h
          simp only [Option.isNone_iff_eq_none] at hfr
          refine ⟨v, ns, [d * 64], fun x hx => ?_, htk, hgood rfl fun s a w β K R l1 l2 f n => ?_, altOp_none n1, hno, dr3_sound hF hall' h⟩
          · simp only [List.mem_singleton] at hx; subst hx
            exact ⟨by simp, hfr⟩
          · exact core_ef hF he hp (fun d' h => by rw [hd] at h; simp only [Option.some.injEq] at h; subst h; exact hlt) (fun h => by rw [hd] at h; cases h) R l1 l2 (fun d' h => f _ (List.mem_singleton.2 rfl)) (by rw [hd]; exact n)
        · exact h.elim
    simp only [dr3, ← opdB2_eq b hh, ← obB2_eq, ← tmB2_eq b hh] at h
    have good0 : ∀ {t : St} {v : FV} {ns : List (Nat × Ob)} {fk : List Nat}, o.guard = none → (∀ s a w β (K : Act → World → Prop), Rel F.N w0 s a w β → Le (lk (cut2 b hh t).tm) (lk s.tm) → Le (lk (cut2 b hh t).ob) (lk s.ob) → (∀ x ∈ fk, lk s.ob x = none) →
          (∀ a' w' β', Rel F.N w0 ((⟨s.tm, ns ++ s.ob⟩ : St).put o.dst v) a' w' β' → K a' w') → o.wp F.P a w K (cont F.P F.N w0 Q k)) → GoodOp3 F w0 (cont F.P F.N w0 Q k) all i (cut2 b hh t) o.dst v ns fk := by
      intro t v ns fk hg hc s2 a w β K R l1 l2 fr nx
      have hw : Region.wanted o (yielded all a.tmps) = true := by simp [Region.wanted, hg]
      simp only [wpOp, hi, if_pos hw]
      exact .inl (hc s2 a w β K R l1 l2 fr nx)
    cases hg : o.guard with
    | none =>
      rw [hg] at h
      exact go (fun _ hc => good0 hg hc) h
    | some g =>
      obtain ⟨j, want⟩ := g
      rw [hg] at h
      simp only at h
      split at h
      · rename_i dj d' hj hd'
        obtain ⟨hlt, n1, n2, h⟩ := h
        have hlt : d' < F.N := by simpa [Nat.blt_eq] using hlt
        have ext1 : ∀ {x : Bool}, lk (cut2 b hh s).tm dj = some (.c (.d (.v (.bool x)))) → ∀ t, lk s.tm t = lk ((dj, FV.c (.d (.v (.bool x)))) :: s.tm) t := by
          intro x hx t
          rw [lk_cut2_tm] at hx
          split at hx
          · rw [lk_cons]
            split
            · rename_i e; rw [← e]; exact hx
            · rfl
          · cases hx
        have wantd : ∀ {x : Bool} {s2 : St} {a : Act} {w : World} {β : Nat → Value}, lk (cut2 b hh s).tm dj = some (.c (.d (.v (.bool x)))) → Rel F.N w0 s2 a w β → Le (lk (cut2 b hh s).tm) (lk s2.tm) →
            Region.wanted o (yielded all a.tmps) = (x == want) := by
          intro x s2 a w β hx R l
          have hv := bool_rel (R.tm dj _ (l _ _ hx))
          have hy := yielded_bool hj hv
          simp only [Region.wanted, hg, hy]
          cases x <;> cases want <;> rfl
        split at h
        · rename_i x hx
          have lecut : ∀ {c : Bool} {ob : List (Nat × Ob)}, x = c → ∀ t, lk (cut2 b hh ⟨(dj, .c (.d (.v (.bool c)))) :: s.tm, ob⟩).tm t = lk (cut2 b hh s).tm t := by
            intro c ob e t
            rw [lk_cut2_tm, lk_cut2_tm, ← e]
            split
            · exact (ext1 hx t).symm
            · rfl
          by_cases hxw : x = want
          · have := go (s' := ⟨(dj, .c (.d (.v (.bool want)))) :: s.tm, s.ob⟩) (fun {t v ns fk} ht hc => ?_) (h.1 hxw)
            · have e1 := ext1 hx
              rw [hxw] at e1
              exact @DrS3.ext w0 F Q all k m tk alts no (o :: os) (b :: bs) (hh :: hs) i ⟨(dj, .c (.d (.v (.bool want)))) :: s.tm, s.ob⟩ s e1 rfl this
            · intro s2 a w β K R l1 l2 fr nx
              have l1' : Le (lk (cut2 b hh s).tm) (lk s2.tm) := fun y f hy => l1 y f (by
                have e2 := lecut (ob := t.ob) hxw y
                have e3 : (⟨(dj, FV.c (.d (.v (.bool want)))) :: s.tm, t.ob⟩ : St) = t := by cases t; simp only at ht; subst ht; rfl
                rw [e3] at e2
                rw [e2]; exact hy)
              have hw := wantd hx R l1'
              rw [hxw] at hw
              simp only [wpOp, hi]
              rw [if_pos (by rw [hw]; cases want <;> rfl)]
              exact .inl (hc s2 a w β K R l1 l2 fr nx)
          · have hxn : x = (!want) := by cases x <;> cases want <;> first | rfl | exact absurd rfl hxw
            have h2 := dr3_sound hF hall' (h.2 hxn)
            simp only [DrS3]
            refine ⟨.und, [], [], fun _ hx => (nomatch hx), rfl, ?_, altOp_none n1, noOk_none n2, ?_⟩
            · intro s2 a w β K R l1 l2 fr nx
              have hw := wantd hx R l1
              simp only [wpOp, hi]
              rw [if_neg (by rw [hw, hxn]; cases want <;> simp), hd']
              rw [hd'] at nx
              exact nx _ _ _ (R.setTm hlt (by simp only [FVRel]))
            · rw [hd']
              refine @DrS3.ext w0 F Q all k m tk alts no os bs hs (i + 1) ⟨(d', .und) :: (dj, .c (.d (.v (.bool (!want))))) :: s.tm, s.ob⟩ ⟨(d', .und) :: s.tm, s.ob⟩ (fun t => ?_) rfl h2
              simp only [lk_cons]
              split
              · rfl
              · have := ext1 hx t
                rw [hxn, lk_cons] at this
                exact this
        · rename_i hx
          have h2 := dr3_sound hF hall' h
          simp only [DrS3]
          refine ⟨.und, [], [], fun _ hx => (nomatch hx), rfl, ?_, altOp_none n1, noOk_none n2, by rw [hd']; exact h2⟩
          intro s2 a w β K R l1 l2 fr nx
          have hv := R.tm dj _ (l1 _ _ hx)
          simp only [FVRel] at hv
          have hy := yielded_undef hj hv
          simp only [wpOp, hi]
          rw [if_neg (by simp [Region.wanted, hg, hy]), hd']
          rw [hd'] at nx
          exact nx _ _ _ (R.setTm hlt (by simp only [FVRel]))
        · exact h.elim
      · exact h.elim

/-- A call in the quiet part; what is left of it is worked out from the state behind. -/
theorem DrC3.ok {F : Fn} (hF : FnOk F) {Q : Exit → Act → World → Prop} {all : Array Oper} {k : List It} {m : Nat} {tk : List (List Nat)} {alts : List (Nat × Nat × Nat)} {no : List (Nat × Ob)} {bs hs : List (List Nat)} {i : Nat} {os : List Oper} {b h : List Nat} {d f : Nat} {fs : List FV} {args : List RV} {q : RV}
    (hall : (all.toList.drop i).take os.length = os) (ha : argsR (obB2 b h s) fs = some args) (hc : CallOK F.P f args q) (hfr : freshOs s.ob (impOs (d * 64) (cellsR q)) = true)
    (hns : nsOk d (impOs (d * 64) (cellsR q)) = true) (hj : dr3 F w0 Q all k m tk alts no bs hs i os ⟨(d, impF (d * 64) q) :: s.tm, impOs (d * 64) (cellsR q) ++ s.ob⟩) : DrC3 F w0 Q all k m tk alts no bs hs i os s b h d f fs := by
  refine ⟨args, q, ha, hc, hfr, hns, dr3_sound hF (fun j o ho => ?_) hj⟩
  rw [← hall, List.getElem?_take] at ho
  split at ho
  · rw [List.getElem?_drop] at ho
    simpa using ho
  · cases ho

theorem J.dr3 {F : Fn} (hF : FnOk F) {Q : Exit → Act → World → Prop} {id : Nat} {ops : Array Oper} {k : List It} (hmix : F.P.follows .mixedOrders = true) (m : Nat) (rows bs tk hs : List (List Nat)) (alts : List (Nat × Nat × Nat)) (no : List (Nat × Ob)) (hok : drawOk3 ops.toList m rows bs tk hs alts = true)
    (h : dr3 F w0 Q ops k m tk alts no bs hs 0 (ops.toList.take m) s) : J F.P F.N w0 Q (.code (.region id ops true) :: k) s := by
  refine J.draw3 hmix m rows bs tk hs alts no hok (dr3_sound hF (fun j o ho => ?_) h)
  rw [List.getElem?_take] at ho
  split at ho
  · simpa using ho
  · cases ho

attribute [simp] dr3 obB2 none' inTk tkAt noOk nsOk3

end Go.Sm

namespace Go.Sm
open Go.RowKit

theorem l01In_ok (n lo hi : Int) : CallOK Go.Proofs.Try.prog 64 [.one (i64 n), .one (i64 lo), .one (i64 hi)] (.one (bo (decide (lo ≤ n ∧ n ≤ hi)))) := by
  have hF := fnOk 15 [.tmp 6]
  refine callOK hF 50 Go.Proofs.Try.func64 rfl rfl rfl (by decide) (by simp) rfl ?_
  intro w0 hw
  simp
  refine ⟨fun h => by simp [h], fun h => ?_⟩
  have : ¬ lo ≤ n := by omega
  simp [this]

theorem isVars_ok (n : Int) : CallOK Go.Proofs.Try.prog 104 [.one (i64 n)] (.one (bo (decide (1 ≤ n ∧ n ≤ 3)))) := by
  have hF := fnOk 9 [.tmp 2]
  refine callOK hF 50 Go.Proofs.Try.func104 rfl rfl rfl (by decide) (by simp) rfl ?_
  intro w0 hw
  simp
  refine ⟨fun h => ?_, fun h => ?_⟩
  · simp [h]
  · have : ¬ 1 ≤ n := by omega
    simp [this]

end Go.Sm

namespace Go.Sm
open Go.RowKit

abbrev fnD (f : Nat) : D := .v (.func (.func f) #[] #[])
def leadZ (r : List Int) : Int := if leadN r < r.length then leadN r else -1

theorem isNot0_ok (x : Int) : CallOK Go.Proofs.Try.prog 157 [.one (i64 x)] (.one (bo (x != 0))) := by
  have hF := fnOk 5 [.tmp 2]
  refine callOK hF 60 Go.Proofs.Try.func157 rfl rfl rfl (by decide) (by simp) rfl ?_
  intro w0 hw
  have S := @vc_sound w0 _ hF ⟨(.one (bo (x != 0))), []⟩ Go.Proofs.Try.f157 rfl (by simp)
  simp

theorem leadN_le (r : List Int) : leadN r ≤ r.length := List.findIdx_le_length
theorem leadZ_at {r : List Int} {i : Nat} {x : Int} (hx : r[i]? = some x) (h : ∀ j < i, gt r j = 0) (h0 : x ≠ 0) : leadZ r = i := by
  obtain ⟨hi, rfl⟩ := List.getElem?_eq_some_iff.1 hx
  have : leadN r = i := leadN_of h (by rw [gt_lt hi]; exact h0)
  unfold leadZ
  rw [this, if_pos hi]
theorem leadZ_none {r : List Int} (h : ∀ j < r.length, gt r j = 0) : leadZ r = -1 := by
  unfold leadZ
  rw [if_neg]
  intro hl
  exact gt_lead hl (h _ hl)

theorem IndexFunc_ok (r : List Int) (hl : r.length ≤ 1048576) : CallOK Go.Proofs.Try.prog 156 [.one (vInts r), .one (fnD 157)] (.one (i64 (leadZ r))) := by
  have hF := fnOk 19 [.tmp 4]
  refine callOK hF 60 Go.Proofs.Try.func156 rfl rfl rfl (by decide) (by simp) rfl ?_
  intro w0 hw
  have S := @vc_sound w0 _ hF ⟨(.one (i64 (leadZ r))), []⟩ Go.Proofs.Try.f156 rfl (by simp)
  simp
  refine J.loop hw (fun i : Nat => ⟨[(0, .c (.d (vInts r))), (1, .c (.d (fnD 157))), (7, .c (.d (i64 r.length))), (8, .c (.d (i64 i)))], []⟩)
    (fun i => i ≤ r.length ∧ ∀ j < i, gt r j = 0) (fun i => r.length - i) 0 (by simp) (by simp) ?_
  rintro i ⟨hi, hz⟩
  refine S 8 _ _ ?_
  simp
  refine ⟨fun hlt => ?_, fun hge => ?_⟩
  · obtain ⟨x, hx⟩ : ∃ x, r[i]? = some x := ⟨r[i], List.getElem?_eq_getElem hlt⟩
    have c1 := isNot0_ok x
    refine S 60 _ _ ?_
    simp
    refine ⟨hlt, fun y hy => ?_⟩
    obtain rfl : x = y := Option.some.inj (hx.symm.trans hy)
    by_cases h0 : x = 0
    · subst h0
      refine CallW.ok (by decide) (by simp) c1 (by simp) (S 60 _ _ ?_)
      simp
      refine Nxt.mk (i + 1) ⟨by omega, fun j hj => ?_⟩ (by simp [wrapS (i := i) (n := r.length) hlt (by omega)]) (by omega)
      by_cases e : j = i
      · subst e; rw [gt_lt hlt]; exact (List.getElem?_eq_some_iff.1 hx).2
      · exact hz j (by omega)
    · have e := leadZ_at hx hz h0
      have hb : (x != 0) = true := by simpa using h0
      rw [hb] at c1
      refine CallW.ok (by decide) (by simp) c1 (by simp) (S 60 _ _ ?_)
      simp [e]
  · have e := leadZ_none (r := r) fun j hj => hz j (by omega)
    refine S 60 _ _ ?_
    simp [e]

theorem lead_ok (r : List Int) (hl : r.length ≤ 1048576) : CallOK Go.Proofs.Try.prog 117 [.one (vInts r)] (.one (i64 (leadZ r))) := by
  have hF := fnOk 5 [.tmp 2]
  refine callOK hF 60 Go.Proofs.Try.func117 rfl rfl rfl (by decide) (by simp) rfl ?_
  intro w0 hw
  have S := @vc_sound w0 _ hF ⟨(.one (i64 (leadZ r))), []⟩ Go.Proofs.Try.f117 rfl (by simp)
  have c1 := IndexFunc_ok r hl
  simp
  refine CallW.ok (by decide) (by simp) c1 (by simp) (S 60 _ _ ?_)
  simp

theorem l01Lead_ok (r : List Int) (hl : r.length ≤ 1048576) : CallOK Go.Proofs.Try.prog 57 [.one (vInts r)] (.one (i64 (leadZ r))) := by
  have hF := fnOk 16 [.tmp 2]
  refine callOK hF 60 Go.Proofs.Try.func57 rfl rfl rfl (by decide) (by simp) rfl ?_
  intro w0 hw
  have S := @vc_sound w0 _ hF ⟨(.one (i64 (leadZ r))), []⟩ Go.Proofs.Try.f57 rfl (by simp)
  simp
  refine J.loop hw (fun i : Nat => ⟨[(0, .c (.d (vInts r))), (3, .c (.d (i64 i)))], []⟩)
    (fun i => i ≤ r.length ∧ ∀ j < i, gt r j = 0) (fun i => r.length - i) 0 (by simp) (by simp) ?_
  rintro i ⟨hi, hz⟩
  refine S 60 _ _ ?_
  simp
  refine ⟨fun hlt => ⟨hlt, fun x hx => ⟨fun h0 => (leadZ_at hx hz h0).symm, fun h0 => ?_⟩⟩, fun hge => (leadZ_none (r := r) fun j hj => hz j (by omega)).symm⟩
  subst h0
  refine Nxt.mk (i + 1) ⟨by omega, fun j hj => ?_⟩ (by simp [wrapS (i := i) (n := r.length) hlt (by omega)]) (by omega)
  by_cases e : j = i
  · subst e; rw [gt_lt hlt]; exact (List.getElem?_eq_some_iff.1 hx).2
  · exact hz j (by omega)

theorem Clone_ok (r : List Int) (hl : r.length ≤ 1048576) : CallOK Go.Proofs.Try.prog 75 [.one (vInts r)] (.one (oInts r)) := by
  have hF := fnOk 8 [.tmp 2]
  refine callOK hF 60 Go.Proofs.Try.func75 rfl rfl rfl (by decide) (by simp) rfl ?_
  intro w0 hw
  have S := @vc_sound w0 _ hF ⟨(.one (oInts r)), []⟩ Go.Proofs.Try.f75 rfl (by simp)
  simp
  refine OpW.eqNil (t := 25) (e := 2) (b := true) (z := 1) (xs := ints r) rfl rfl (by decide) (by kernel_rfl) (by simp) fun c hc => ?_
  cases c with
  | true =>
    have e := hc rfl
    have e : r = [] := by simpa using e
    subst e
    refine S 60 _ _ ?_
    simp
  | false =>
    refine S 60 _ _ ?_
    simp
    omega

theorem invGo_step {n p : Int} {f : Nat} {k : Int} (h : k < p) : invGo n p (f + 1) k = if n * k % p = 1 then k else invGo n p f (k + 1) := by rw [invGo, if_pos h]
theorem invGo_end {n p : Int} {f : Nat} {k : Int} (h : ¬ k < p) : invGo n p f k = 0 := by cases f <;> simp [invGo, h]

theorem inverse_ok (n p : Int) (hp : Pr p) (h1 : 0 ≤ n) (h2 : n < p) : CallOK Go.Proofs.Try.prog 86 [.one (i64 n), .one (i64 p)] (.one (i64 (invN n p))) := by
  have hF := fnOk 18 [.tmp 4]
  refine callOK hF 60 Go.Proofs.Try.func86 rfl rfl rfl (by decide) (by simp) rfl ?_
  intro w0 hw
  have S := @vc_sound w0 _ hF ⟨(.one (i64 (invN n p))), []⟩ Go.Proofs.Try.f86 rfl (by simp)
  have hpp := prPos hp
  simp
  refine J.loop hw (fun k : Nat => ⟨[(0, .c (.d (i64 n))), (1, .c (.d (i64 p))), (5, .c (.d (i64 k)))], []⟩)
    (fun k => 1 ≤ k ∧ (k : Int) ≤ p ∧ invN n p = invGo n p (14 - k) k) (fun k => p.toNat - k) 1 ⟨by omega, by omega, rfl⟩ (by simp) ?_
  rintro k ⟨hk1, hk2, hk⟩
  refine S 12 _ _ ?_
  simp
  refine ⟨fun hlt => ?_, fun hge => ?_⟩
  · have hm : 0 ≤ n * k := Int.mul_nonneg h1 (by omega)
    have hm2 : n * k ≤ 13 * 13 := Int.mul_le_mul (by omega) (by omega) (by omega) (by omega)
    have w1 : IntKind.i64.wrap (n * k) = n * k := wrap64 (by omega) (by omega)
    have hmod : (n * (k : Int)).tmod p = n * k % p := Int.tmod_eq_emod_of_nonneg hm
    have hp0 : p ≠ 0 := by omega
    obtain ⟨f, hf⟩ : ∃ f, 14 - k = f + 1 := ⟨13 - k, by omega⟩
    rw [hf, invGo_step hlt] at hk
    refine S 60 _ _ ?_
    simp [w1, hmod, hp0]
    refine ⟨fun he => ?_, fun hne => ?_⟩
    · rw [if_pos he] at hk; exact hk.symm
    · rw [if_neg hne] at hk
      refine Nxt.mk (k + 1) ⟨by omega, by omega, by rw [hk, show 14 - (k + 1) = f by omega]; rfl⟩ (by simp; rw [wrap64] <;> omega) (by omega)
  · have e : invN n p = 0 := by rw [hk]; exact invGo_end (by omega)
    refine S 60 _ _ ?_
    simp [e]

end Go.Sm

namespace Go.Sm
open Go.RowKit

/-- The exponents of a monomial. -/
structure Ex where
  a : UInt8
  b : UInt8
  c : UInt8
  deriving DecidableEq, Inhabited
/-- A term. -/
structure Tm where
  e : Ex
  v : Int
  deriving DecidableEq, Inhabited

abbrev u8 (x : UInt8) : D := .v (.int .u8 x.toNat)
abbrev Ex.ds (e : Ex) : List D := [u8 e.a, u8 e.b, u8 e.c]
abbrev terms (ts : List Tm) : List (List D) := ts.map fun t => [u8 t.e.a, u8 t.e.b, u8 t.e.c, i64 t.v]
abbrev vTerms (ts : List Tm) : D := .vw true 4 (terms ts)
abbrev oTerms (ts : List Tm) : D := .own 130 4 (terms ts)
/-- A polynomial: as an argument, and as a result. -/
abbrev pv (p d : Int) (ts : List Tm) : RV := .agg [i64 p, i64 d, vTerms ts]
abbrev po (p d : Int) (ts : List Tm) : RV := .agg [i64 p, i64 d, oTerms ts]
def Ex.deg (e : Ex) : Int := (e.a.toNat : Int) + e.b.toNat + e.c.toNat
/-- How two monomials stand to one another. -/
def cmpE (x y : Ex) : Int :=
  if x.deg - y.deg ≠ 0 then x.deg - y.deg else if x.a ≠ y.a then (y.a.toNat : Int) - x.a.toNat else (y.b.toNat : Int) - x.b.toNat

theorem cmpE_self (x : Ex) : cmpE x x = 0 := by simp [cmpE]
theorem u8_lt (x : UInt8) : x.toNat < 256 := x.toNat_lt
theorem deg_lt (x : Ex) : 0 ≤ x.deg ∧ x.deg < 768 := by
  have := u8_lt x.a; have := u8_lt x.b; have := u8_lt x.c
  unfold Ex.deg; omega

@[simp] theorem ble_tt {a b : Nat} (h : a ≤ b) : Nat.ble a b = true := by rw [Nat.ble_eq]; exact h
@[simp] theorem ble_ff {a b : Nat} (h : b < a) : Nat.ble a b = false := by
  cases hb : Nat.ble a b with
  | false => rfl
  | true => rw [Nat.ble_eq] at hb; omega
@[simp] theorem beq_tt (a : Nat) : Nat.beq a a = true := Nat.beq_refl a
@[simp] theorem beq_ff {a b : Nat} (h : a ≠ b) : Nat.beq a b = false := by
  cases hb : Nat.beq a b with
  | false => rfl
  | true => exact absurd (nat_beq hb) h
@[simp] theorem wrap64_0 : IntKind.i64.wrap 0 = 0 := rfl
@[simp] theorem wrap64_1 : IntKind.i64.wrap 1 = 1 := rfl
@[simp] theorem wrap64_2 : IntKind.i64.wrap 2 = 2 := rfl
@[simp] theorem wrap64_3 : IntKind.i64.wrap 3 = 3 := rfl
@[simp] theorem wrap64_4 : IntKind.i64.wrap 4 = 4 := rfl
@[simp] theorem wrap64_u8 (x : UInt8) : IntKind.i64.wrap (x.toNat : Int) = x.toNat := by
  have := u8_lt x
  exact wrap64 (by omega) (by omega)
@[simp] theorem wrap64_u8a (x y : UInt8) : IntKind.i64.wrap ((x.toNat : Int) + y.toNat) = x.toNat + y.toNat := by
  have := u8_lt x; have := u8_lt y
  exact wrap64 (by omega) (by omega)
@[simp] theorem wrap64_u8b (x y z : UInt8) : IntKind.i64.wrap ((x.toNat : Int) + y.toNat + z.toNat) = x.toNat + y.toNat + z.toNat := by
  have := u8_lt x; have := u8_lt y; have := u8_lt z
  exact wrap64 (by omega) (by omega)
@[simp] theorem wrap64_u8s (x y : UInt8) : IntKind.i64.wrap ((x.toNat : Int) - y.toNat) = x.toNat - y.toNat := by
  have := u8_lt x; have := u8_lt y
  exact wrap64 (by omega) (by omega)
@[simp] theorem wrap64_deg (x y : Ex) : IntKind.i64.wrap (x.deg - y.deg) = x.deg - y.deg := by
  have := deg_lt x; have := deg_lt y
  exact wrap64 (by omega) (by omega)
@[simp] theorem u8_bne (x y : UInt8) : ((x.toNat : Int) != (y.toNat : Int)) = (x != y) := by
  by_cases h : x = y
  · subst h; simp
  · have : (x.toNat : Int) ≠ y.toNat := fun e => h (UInt8.toNat_inj.1 (by omega))
    rw [show (x != y) = true from bne_iff_ne.2 h]
    exact bne_iff_ne.2 this
@[simp] theorem u8_beq (x y : UInt8) : ((x.toNat : Int) == (y.toNat : Int)) = (x == y) := by
  by_cases h : x = y
  · subst h; simp
  · have : (x.toNat : Int) ≠ y.toNat := fun e => h (UInt8.toNat_inj.1 (by omega))
    rw [show (x == y) = false from beq_eq_false_iff_ne.2 h]
    exact beq_eq_false_iff_ne.2 this
@[simp] theorem u8_beq0 (x : UInt8) : ((x.toNat : Int) == 0) = (x == 0) := u8_beq x 0
@[simp] theorem u8_bne0 (x : UInt8) : ((x.toNat : Int) != 0) = (x != 0) := u8_bne x 0

@[simp] theorem Ex.beq3 (x y : Ex) : (x.a == y.a && (x.b == y.b && x.c == y.c)) = decide (x = y) := by
  cases x; cases y
  rw [Bool.eq_iff_iff]
  simp

theorem degree_ok (e : Ex) : CallOK Go.Proofs.Try.prog 134 [.agg e.ds] (.one (i64 e.deg)) := by
  have hF := fnOk 14 [.tmp 2]
  refine callOK hF 60 Go.Proofs.Try.func134 rfl rfl rfl (by decide) (by simp) rfl ?_
  intro w0 hw
  have S := @vc_sound w0 _ hF ⟨(.one (i64 e.deg)), []⟩ Go.Proofs.Try.f134 rfl (by simp)
  simp [Ex.deg]

theorem l01Sum_ok (e : Ex) : CallOK Go.Proofs.Try.prog 160 [.agg e.ds] (.one (i64 e.deg)) := by
  have hF := fnOk 14 [.tmp 2]
  refine callOK hF 60 Go.Proofs.Try.func160 rfl rfl rfl (by decide) (by simp) rfl ?_
  intro w0 hw
  have S := @vc_sound w0 _ hF ⟨(.one (i64 e.deg)), []⟩ Go.Proofs.Try.f160 rfl (by simp)
  simp [Ex.deg]

theorem compareExps_ok (x y : Ex) : CallOK Go.Proofs.Try.prog 135 [.agg x.ds, .agg y.ds] (.one (i64 (cmpE x y))) := by
  have hF := fnOk 33 [.tmp 4]
  refine callOK hF 60 Go.Proofs.Try.func135 rfl rfl rfl (by decide) (by simp) rfl ?_
  intro w0 hw
  have S := @vc_sound w0 _ hF ⟨(.one (i64 (cmpE x y))), []⟩ Go.Proofs.Try.f135 rfl (by simp)
  have c1 := degree_ok x
  have c2 := degree_ok y
  simp at c1 c2 ⊢
  refine J.dr hF mixed 3 [[], [0], [], [0, 1, 2], [0, 1, 2, 3], [0, 1, 2, 3, 4]] [[6, 7, 8], [7, 8], [6, 7, 8]] (by decide) ?_
  simp
  refine DrC.ok hF (by rfl) (by simp) c1 (by simp) (by simp) ?_
  simp
  refine S 60 _ _ ?_
  simp
  refine CallW.ok (by decide) (by simp) c2 (by simp) ?_
  refine S 60 _ _ ?_
  by_cases h : x.deg = y.deg
  · by_cases h1 : x.a = y.a
    · simp [h, h1, cmpE]
    · simp [h, h1, cmpE]
  · have : x.deg - y.deg ≠ 0 := by omega
    have hb : (x.deg - y.deg != 0) = true := by simpa using this
    simp [this, cmpE, hb]

/-- A monomial in d letters of at most the greatest degree. -/
def InV (d : Int) (e : Ex) : Prop := (d ≤ 1 → e.b = 0) ∧ (d ≤ 2 → e.c = 0) ∧ e.deg ≤ 12
instance (d : Int) (e : Ex) : Decidable (InV d e) := by unfold InV; infer_instance

theorem l01Exps_ok (d : Int) (e : Ex) (h1 : 1 ≤ d) (h3 : d ≤ 3) : CallOK Go.Proofs.Try.prog 126 [.one (i64 d), .agg e.ds] (.one (bo (decide (InV d e)))) := by
  have hF := fnOk 18 [.tmp 4]
  refine callOK hF 60 Go.Proofs.Try.func126 rfl rfl rfl (by decide) (by simp) rfl ?_
  intro w0 hw
  have S := @vc_sound w0 _ hF ⟨(.one (bo (decide (InV d e)))), []⟩ Go.Proofs.Try.f126 rfl (by simp)
  have c1 := l01Sum_ok e
  have hd : d = 1 ∨ d = 2 ∨ d = 3 := by omega
  rcases hd with rfl | rfl | rfl <;> simp at c1 S ⊢
  · refine J.rounds 4 (LpW.step (S 60 _ _ ?_))
    simp
    refine ⟨fun hb hi => hb (hi.1 (by omega)), fun hb => LpW.inv (LpW.step (S 60 _ _ ?_))⟩
    simp
    refine ⟨fun hc hi => hc (hi.2.1 (by omega)), fun hc => LpW.inv (LpW.step (S 60 _ _ ?_))⟩
    simp
    refine CallW.ok (by decide) (by simp) c1 (by simp) (S 60 _ _ ?_)
    simp [InV, hb, hc]
  · refine J.rounds 4 (LpW.step (S 60 _ _ ?_))
    simp
    refine ⟨fun hc hi => hc (hi.2.1 (by omega)), fun hc => LpW.inv (LpW.step (S 60 _ _ ?_))⟩
    simp
    refine CallW.ok (by decide) (by simp) c1 (by simp) (S 60 _ _ ?_)
    simp [InV, hc]
  · refine J.rounds 4 (LpW.step (S 60 _ _ ?_))
    simp
    refine CallW.ok (by decide) (by simp) c1 (by simp) (S 60 _ _ ?_)
    simp [InV]

theorem l01Before_ok (x y : Ex) : CallOK Go.Proofs.Try.prog 127 [.agg x.ds, .agg y.ds] (.one (bo (decide (cmpE x y < 0)))) := by
  have hF := fnOk 30 [.tmp 4]
  refine callOK hF 60 Go.Proofs.Try.func127 rfl rfl rfl (by decide) (by simp) rfl ?_
  intro w0 hw
  have S := @vc_sound w0 _ hF ⟨(.one (bo (decide (cmpE x y < 0)))), []⟩ Go.Proofs.Try.f127 rfl (by simp)
  have c1 := l01Sum_ok x
  have c2 := l01Sum_ok y
  simp at c1 c2 ⊢
  refine J.dr hF mixed 3 [[], [0], [], [0, 1, 2], [0, 1, 2, 3]] [[5, 6, 7], [6, 7], [5, 6, 7]] (by decide) ?_
  simp
  refine DrC.ok hF (by rfl) (by simp) c1 (by simp) (by simp) ?_
  simp
  refine S 60 _ _ ?_
  simp
  refine CallW.ok (by decide) (by simp) c2 (by simp) ?_
  refine S 60 _ _ ?_
  by_cases h : x.deg = y.deg
  · have hb : (x.deg != y.deg) = false := by simpa using h
    by_cases h1 : x.a = y.a
    · simp [h, h1, cmpE]
      omega
    · simp [h, h1, cmpE]
      unfold Later
      omega
  · have hb : (x.deg != y.deg) = true := by simpa using h
    have : x.deg - y.deg ≠ 0 := by omega
    have e : decide (cmpE x y < 0) = decide (x.deg < y.deg) := by
      unfold cmpE
      rw [if_pos this]
      by_cases h2 : x.deg < y.deg
      · rw [decide_eq_true h2, decide_eq_true (by omega)]
      · rw [decide_eq_false h2, decide_eq_false (by omega)]
    rw [e] at S ⊢
    simp [hb]
    refine J.dr hF mixed 3 [[], [0], [], [0, 1, 2], [0, 1, 2, 3], [0, 1, 2, 3, 4]] [[10, 11, 12], [11, 12], [10, 11, 12]] (by decide) ?_
    simp
    refine DrC.ok hF (by rfl) (by simp) c1 (by simp) (by simp) ?_
    simp
    refine S 60 _ _ ?_
    simp
    refine CallW.ok (by decide) (by simp) c2 (by simp) ?_
    refine S 60 _ _ ?_
    simp

/-- The coefficient of a monomial. -/
def coef : List Tm → Ex → Int
  | [], _ => 0
  | t :: ts, e => if t.e = e then t.v else coef ts e

theorem l01At_ok (p d : Int) (ts : List Tm) (e : Ex) (hl : ts.length ≤ 1048576) : CallOK Go.Proofs.Try.prog 143 [pv p d ts, .agg e.ds] (.one (i64 (coef ts e))) := by
  have hF := fnOk 27 [.tmp 4]
  refine callOK hF 60 Go.Proofs.Try.func143 rfl rfl rfl (by decide) (by simp) rfl ?_
  intro w0 hw
  have S := @vc_sound w0 _ hF ⟨(.one (i64 (coef ts e))), []⟩ Go.Proofs.Try.f143 rfl (by simp)
  simp
  refine J.loop hw (fun i : Nat => ⟨[(5, .c (.d (i64 i))), (2, .c (.ref 64002 0)), (3, .c (.ref 64003 0))], [(64002, .var [.d (i64 p), .d (i64 d), .d (vTerms ts)]), (64003, .var [.d (u8 e.a), .d (u8 e.b), .d (u8 e.c)])]⟩)
    (fun i => i ≤ ts.length ∧ coef ts e = coef (ts.drop i) e) (fun i => ts.length - i) 0 (by simp) (by simp) ?_
  rintro i ⟨hi, hc⟩
  refine S 60 _ _ ?_
  simp
  refine ⟨fun hlt => ?_, fun hge => by rw [hc, List.drop_eq_nil_of_le hge]; rfl⟩
  refine J.dr hF mixed 7 [[], [0], [], [0, 1, 2], [0, 1, 2, 3], [0, 1, 2, 3, 4], [], [0, 1, 2, 3, 4, 5, 6]] [[13, 14, 15, 16, 17, 18, 19], [14, 15, 16, 17, 18, 19], [13, 14, 15, 16, 17, 18, 19], [16, 17, 18, 19], [17, 18, 19], [18, 19], [13, 14, 15, 16, 17, 18, 19]] (by decide) ?_
  simp
  refine ⟨hlt, fun a ha => ?_⟩
  refine S 60 _ _ ?_
  simp
  have hd := drop_cons ha
  rw [hd] at hc
  refine ⟨fun h1 => ⟨hlt, fun b hb => ?_⟩, fun hn => ?_⟩
  · rw [ha] at hb
    obtain rfl := Option.some.inj hb
    rw [hc]; simp [coef, h1]
  · refine Nxt.mk (i + 1) ⟨hlt, ?_⟩ (by simp [wrapS (i := i) (n := ts.length) hlt (by omega)]) (by omega)
    rw [hc]; simp [coef, hn]

end Go.Sm

namespace Go.Sm
open Go.RowKit

theorem tmod_mod (x p : Int) (hp : 0 < p) : (x.tmod p + p).tmod p = x % p := by
  have h1 : x.tmod p < p := Int.tmod_lt_of_pos x hp
  have h2 : -p < x.tmod p := by
    have := Int.lt_tmod_of_pos x hp
    omega
  have h3 : (x.tmod p + p).tmod p = (x.tmod p + p) % p := Int.tmod_eq_emod_of_nonneg (by omega)
  rw [h3, Int.add_emod_right]
  rcases Int.le_total 0 x with h | h
  · rw [Int.tmod_eq_emod_of_nonneg h, Int.emod_emod]
  · have e : x.tmod p = -((-x) % p) := by
      have : (-x).tmod p = (-x) % p := Int.tmod_eq_emod_of_nonneg (by omega)
      rw [← this, Int.neg_tmod, Int.neg_neg]
    rw [e]
    have : -((-x) % p) % p = x % p := by
      rw [Int.neg_emod_eq_sub_emod]
      have h4 := Int.emod_add_mul_ediv (-x) p
      rw [show p - (-x) % p = x + p * (1 + (-x) / p) by rw [Int.mul_add]; omega, Int.add_mul_emod_self_left]
    exact this

theorem tmod_range (x p : Int) (hp : 0 < p) : -p < x.tmod p ∧ x.tmod p < p := by
  have h1 : x.tmod p < p := Int.tmod_lt_of_pos x hp
  have h2 := Int.lt_tmod_of_pos x hp
  omega

theorem l01Mod_ok (p x : Int) (hp : 0 < p) (hp2 : p < 4000000000000000000) : CallOK Go.Proofs.Try.prog 74 [.one (i64 p), .one (i64 x)] (.one (i64 (x % p))) := by
  have hF := fnOk 12 [.tmp 4]
  refine callOK hF 60 Go.Proofs.Try.func74 rfl rfl rfl (by decide) (by simp) rfl ?_
  intro w0 hw
  have S := @vc_sound w0 _ hF ⟨(.one (i64 (x % p))), []⟩ Go.Proofs.Try.f74 rfl (by simp)
  have h := tmod_range x p hp
  have h0 : p ≠ 0 := by omega
  simp [h0, wrap64 (x := x.tmod p + p) (by omega) (by omega), tmod_mod x p hp]

theorem l01Empty_ok (p d : Int) : CallOK Go.Proofs.Try.prog 100 [.one (i64 p), .one (i64 d)] (po p d []) := by
  have hF := fnOk 9 [.cell 4 57]
  refine callOK hF 60 Go.Proofs.Try.func100 rfl rfl rfl (by decide) (by simp) rfl ?_
  intro w0 hw
  have S := @vc_sound w0 _ hF ⟨(po p d []), []⟩ Go.Proofs.Try.f100 rfl (by simp)
  simp

/-- A number put to the coefficient of e: what comes of the terms from here on. -/
def putGo (e : Ex) (v : Int) : Bool → List Tm → List Tm
  | done, [] => if done then [] else [⟨e, v⟩]
  | done, t :: ts => (if done = false ∧ cmpE e t.e < 0 then [⟨e, v⟩] else []) ++ ((if t.e = e then [] else [t]) ++ putGo e v (done || decide (cmpE e t.e < 0)) ts)
def putT (p : Int) (ts : List Tm) (e : Ex) (v : Int) : List Tm := putGo e ((v + coef ts e) % p) ((v + coef ts e) % p == 0) ts

set_option maxHeartbeats 4000000 in
theorem l01Put_ok (p d : Int) (ts : List Tm) (e : Ex) (v : Int) (hl : ts.length ≤ 1048576) (hp : 0 < p) (hp2 : p < 4000000000000000000) (h1 : -4611686018427387904 ≤ v + coef ts e) (h2 : v + coef ts e ≤ 4611686018427387904) : CallOK Go.Proofs.Try.prog 102 [pv p d ts, .agg e.ds, .one (i64 v)] (po p d (putT p ts e v)) := by
  have hF := fnOk 75 [.cell 6 57]
  refine callOK hF 60 Go.Proofs.Try.func102 rfl rfl rfl (by decide) (by simp) rfl ?_
  intro w0 hw
  have S := @vc_sound w0 _ hF ⟨(po p d (putT p ts e v)), []⟩ Go.Proofs.Try.f102 rfl (by simp)
  have c1 := l01Empty_ok p d
  have c2 := l01At_ok p d ts e hl
  have c3 := l01Mod_ok p (v + coef ts e) hp hp2
  have hw1 : IntKind.i64.wrap (v + coef ts e) = v + coef ts e := wrap64 (by omega) (by omega)
  simp at c1 c2 c3 ⊢
  refine CallW.ok (by decide) (by simp) c1 (by simp) (S 100 _ _ ?_)
  simp
  refine J.dr hF mixed 7 [[], [0], [], [], [], [3, 4], [2, 3, 4, 5], [0, 1, 2, 3, 4, 5, 6], [0, 1, 2, 3, 4, 5, 6, 7]] [[16, 17, 18, 19, 20, 21, 22], [17, 18, 19, 20, 21, 22], [16, 17, 18, 19, 20, 21, 22], [16, 17, 18, 19, 20, 21, 22], [16, 17, 18, 19, 20, 21, 22], [16, 17, 18, 21, 22], [16, 17, 22]] (by decide) ?_
  simp
  refine DrC.ok hF (by rfl) (by simp) c2 (by simp) (by simp) ?_
  simp [hw1]
  refine S 60 _ _ ?_
  simp
  refine CallW.ok (by decide) (by simp) c3 (by simp) (S 100 _ _ ?_)
  simp
  generalize hv' : (v + coef ts e) % p = v' at S ⊢
  refine J.loop hw (fun q : Nat × Bool × List Tm => ⟨[(9, .c (.d (i64 q.1))), (2, .c (.d (i64 v'))), (8, .c (.d (bo q.2.1))), (3, .c (.ref 64003 0)), (4, .c (.ref 64004 0)), (6, .c (.ref 64006 0)), (7, .c (.ref 64008 0))],
      [(64003, .var [.d (i64 p), .d (i64 d), .d (vTerms ts)]), (64004, .var [.d (u8 e.a), .d (u8 e.b), .d (u8 e.c)]), (64006, .var [.d (i64 0), .d (i64 0), .ob 64007]), (64007, .arr 130 4 []),
       (64008, .var [.d (i64 p), .d (i64 d), .ob 64009]), (64009, .arr 130 4 (terms q.2.2))]⟩)
    (fun q => q.1 ≤ ts.length ∧ q.2.2.length ≤ 2 * q.1 ∧ q.2.2 ++ putGo e v' q.2.1 (ts.drop q.1) = putGo e v' (v' == 0) ts) (fun q => ts.length - q.1) (0, v' == 0, []) (by simp) (by simp) ?_
  rintro ⟨i, done, acc⟩ ⟨hi, hlen, hacc⟩
  simp only at hi hlen hacc
  refine S 13 _ _ ?_
  simp
  refine ⟨fun hlt => ?_, fun hge => ?_⟩
  · refine S 14 _ _ ?_
    simp
    refine ⟨hlt, fun t ht => ?_⟩
    have hdr := drop_cons ht
    rw [hdr] at hacc
    have hb2 : (acc.length + 1) * 16 ≤ 140737488355328 := by omega
    have hb3 : acc.length + 1 ≤ 9223372036854775807 := by omega
    have c4 := l01Before_ok e t.e
    have fin : ∀ (dn : Bool) (add : List Tm), dn = (done || decide (cmpE e t.e < 0)) → add = (if done = false ∧ cmpE e t.e < 0 then [⟨e, v'⟩] else []) ++ (if t.e = e then [] else [t]) →
        (i + 1 ≤ ts.length ∧ (acc ++ add).length ≤ 2 * (i + 1) ∧ (acc ++ add) ++ putGo e v' dn (ts.drop (i + 1)) = putGo e v' (v' == 0) ts) := by
      intro dn add h1 h2
      refine ⟨hlt, ?_, ?_⟩
      · rw [List.length_append, h2, List.length_append]
        split <;> split <;> simp <;> omega
      · rw [← hacc, h1, h2]; simp [putGo]
    by_cases hte : t.e = e
    · cases done with
      | true =>
        refine S 100 _ _ ?_
        simp [hte]
        refine Nxt.mk (i + 1, true, acc) (by simpa using fin true [] (by simp) (by simp [hte])) (by simp [wrapS (i := i) (n := ts.length) hlt (by omega)]) (by show ts.length - (i + 1) < ts.length - i; omega)
      | false =>
        have hlt0 : ¬ cmpE e t.e < 0 := by rw [hte, cmpE_self]; omega
        rw [decide_eq_false hlt0] at c4
        refine S 100 _ _ ?_
        simp
        refine CallW.ok (by decide) (by simp) c4 (by simp) (S 100 _ _ ?_)
        simp [hte]
        refine Nxt.mk (i + 1, false, acc) (by simpa using fin false [] (by simp; omega) (by simp [hte, cmpE_self])) (by simp [wrapS (i := i) (n := ts.length) hlt (by omega)]) (by show ts.length - (i + 1) < ts.length - i; omega)
    · cases done with
      | true =>
        refine S 100 _ _ ?_
        simp [hte]
        refine ⟨⟨by omega, by omega⟩, ?_⟩
        refine Nxt.mk (i + 1, true, acc ++ [t]) (fin true [t] (by simp) (by simp [hte])) (by simp [wrapS (i := i) (n := ts.length) hlt (by omega)]) (by show ts.length - (i + 1) < ts.length - i; omega)
      | false =>
        by_cases hlt0 : cmpE e t.e < 0
        · rw [decide_eq_true hlt0] at c4
          refine S 100 _ _ ?_
          simp
          refine CallW.ok (by decide) (by simp) c4 (by simp) (S 16 _ _ ?_)
          simp
          refine ⟨⟨by omega, by omega⟩, ?_⟩
          refine S 60 _ _ ?_
          simp [hte]
          refine ⟨⟨by omega, by omega⟩, ?_⟩
          refine Nxt.mk (i + 1, true, acc ++ [⟨e, v'⟩, t]) (fin true [⟨e, v'⟩, t] (by simp [hlt0]) (by simp [hte, hlt0])) (by simp [wrapS (i := i) (n := ts.length) hlt (by omega)]) (by show ts.length - (i + 1) < ts.length - i; omega)
        · rw [decide_eq_false hlt0] at c4
          refine S 100 _ _ ?_
          simp
          refine CallW.ok (by decide) (by simp) c4 (by simp) (S 100 _ _ ?_)
          simp [hte]
          refine ⟨⟨by omega, by omega⟩, ?_⟩
          refine Nxt.mk (i + 1, false, acc ++ [t]) (fin false [t] (by simp; omega) (by simp [hte, hlt0])) (by simp [wrapS (i := i) (n := ts.length) hlt (by omega)]) (by show ts.length - (i + 1) < ts.length - i; omega)
  · have hnil : ts.drop i = [] := List.drop_eq_nil_of_le hge
    rw [hnil] at hacc
    have hput : putT p ts e v = acc ++ putGo e v' done [] := by rw [hacc]; unfold putT; rw [hv']
    rw [hput] at S ⊢
    cases done with
    | true =>
      refine S 60 _ _ ?_
      simp [putGo]
    | false =>
      refine S 60 _ _ ?_
      simp [putGo]
      omega

theorem l01Own_ok (xs : List Int) (hl : xs.length ≤ 1048576) : CallOK Go.Proofs.Try.prog 73 [.one (vInts xs)] (.one (oInts xs)) := by
  have hF := fnOk 6 [.tmp 2]
  refine callOK hF 60 Go.Proofs.Try.func73 rfl rfl rfl (by decide) (by simp) rfl ?_
  intro w0 hw
  have S := @vc_sound w0 _ hF ⟨(.one (oInts xs)), []⟩ Go.Proofs.Try.f73 rfl (by simp)
  simp
  refine ⟨by omega, by omega⟩

end Go.Sm

namespace Go.Sm
open Go.RowKit

theorem led_leadZ {r : List Int} (h : Led r) : leadZ r = leadN r := by exact if_pos h
theorem notLed_leadZ {r : List Int} (h : ¬ Led r) : leadZ r = -1 := by exact if_neg h
theorem led_of {r : List Int} (h : gt r (leadN r) = 1) : Led r := led_iff.2 ⟨_, by rw [h]; omega⟩
theorem gt_get {r : List Int} {i : Nat} (h : i < r.length) : r[i]? = some (gt r i) := by rw [gt_lt h, List.getElem?_eq_getElem h]
theorem subR_length {p : Int} {row r : List Int} {c : Int} (h : r.length = row.length) : (subR p row r c).length = row.length := by simp [subR, h]
theorem subR_take {p : Int} {row r : List Int} {c : Int} {i : Nat} (h1 : i < row.length) (h : r.length = row.length) : (subR p row r c).take (i + 1) = (subR p row r c).take i ++ [(gt row i - c * gt r i) % p] := by
  rw [List.take_add_one, List.getElem?_eq_getElem (by rw [subR_length h]; exact h1), gt_lt h1, gt_lt (by omega)]
  simp [subR]
theorem subR_zero {p : Int} {n : Nat} (hp : 0 < p) {row r : List Int} (h : RowOk p n row) (h2 : r.length = n) : subR p row r 0 = row := by
  obtain ⟨s1, s2⟩ := subR_ok hp h.1 h2 0
  refine gt_ext (s1.1.trans h.1.symm) fun i hi => ?_
  have := gt_range hp h i
  rw [s2 i (by rw [← s1.1]; exact hi), Int.zero_mul, Int.sub_zero, Int.emod_eq_of_lt this.1 this.2]
theorem less_row {p : Int} {n : Nat} (hp : 0 < p) : ∀ {L : List (List Int)} {row : List Int}, (∀ r ∈ L, RowOk p n r) → RowOk p n row → RowOk p n (lessL p L row)
  | [], _, _, h => h
  | r :: L, row, hL, h => by
    have e : lessL p (r :: L) row = lessL p L (subR p row r (gt row (leadN r))) := rfl
    rw [e]
    exact less_row hp (fun q hq => hL q (List.mem_cons_of_mem _ hq)) (subR_ok hp h.1 (hL r (List.mem_cons_self ..)).1 _).1
theorem less_take {p : Int} {L : List (List Int)} {row r : List Int} {i : Nat} (h : L[i]? = some r) : lessL p (L.take (i + 1)) row = subR p (lessL p (L.take i) row) r (gt (lessL p (L.take i) row) (leadN r)) := by
  rw [List.take_add_one, h]
  simp [lessL]
theorem sub_tmod {p a c x : Int} (ha : 0 ≤ a) (hc : c < p) (hx : 0 ≤ x) : (a + (p - c) * x).tmod p = (a - c * x) % p := by
  have h : 0 ≤ (p - c) * x := Int.mul_nonneg (by omega) hx
  rw [Int.tmod_eq_emod_of_nonneg (by omega), Int.sub_mul, show a + (p * x - c * x) = (a - c * x) + p * x by omega, Int.add_mul_emod_self_left]

theorem l01Inverse_ok (n p : Int) (hp : Pr p) (h1 : 0 ≤ n) (h2 : n < p) : CallOK Go.Proofs.Try.prog 152 [.one (i64 p), .one (i64 n)] (.one (i64 (invN n p))) := by
  have hF := fnOk 20 [.tmp 4]
  refine callOK hF 60 Go.Proofs.Try.func152 rfl rfl rfl (by decide) (by simp) rfl ?_
  intro w0 hw
  have S := @vc_sound w0 _ hF ⟨(.one (i64 (invN n p))), []⟩ Go.Proofs.Try.f152 rfl (by simp)
  have hpp := prPos hp
  have c1 := l01Mod_ok p n (by omega) (by omega)
  rw [Int.emod_eq_of_lt h1 h2] at c1
  simp
  refine J.loop hw (fun k : Nat => ⟨[(0, .c (.d (i64 p))), (1, .c (.d (i64 n))), (5, .c (.d (i64 k)))], []⟩)
    (fun k => 1 ≤ k ∧ (k : Int) ≤ p ∧ invN n p = invGo n p (14 - k) k) (fun k => p.toNat - k) 1 ⟨by omega, by omega, rfl⟩ (by simp) ?_
  rintro k ⟨hk1, hk2, hk⟩
  refine S 12 _ _ ?_
  simp
  refine ⟨fun hlt => ?_, fun hge => ?_⟩
  · have hm : 0 ≤ n * k := Int.mul_nonneg h1 (by omega)
    have hm2 : n * k ≤ 13 * 13 := Int.mul_le_mul (by omega) (by omega) (by omega) (by omega)
    have w1 : IntKind.i64.wrap (k * n) = n * k := by rw [Int.mul_comm]; exact wrap64 (by omega) (by omega)
    have hmod : (n * (k : Int)).tmod p = n * k % p := Int.tmod_eq_emod_of_nonneg hm
    have hp0 : p ≠ 0 := by omega
    obtain ⟨f, hf⟩ : ∃ f, 14 - k = f + 1 := ⟨13 - k, by omega⟩
    rw [hf, invGo_step hlt] at hk
    refine S 60 _ _ ?_
    simp
    refine CallW.ok (by decide) (by simp) c1 (by simp) (S 60 _ _ ?_)
    simp [w1, hmod, hp0]
    refine ⟨fun he => ?_, fun hne => ?_⟩
    · rw [if_pos he] at hk; exact hk.symm
    · rw [if_neg hne] at hk
      refine Nxt.mk (k + 1) ⟨by omega, by omega, by rw [hk, show 14 - (k + 1) = f by omega]; rfl⟩ (by simp; rw [wrap64] <;> omega) (by omega)
  · have e : invN n p = 0 := by rw [hk]; exact invGo_end (by omega)
    refine S 60 _ _ ?_
    simp [e]

set_option maxHeartbeats 1000000 in
theorem l01Less_ok (p : Int) (n : Nat) (row r : List Int) (c : Int) (hp : Pr p) (hn : n ≤ 1048576) (h1 : RowOk p n row) (h2 : RowOk p n r) (hc : 0 ≤ c ∧ c < p) : CallOK Go.Proofs.Try.prog 112 [.one (i64 p), .one (vInts row), .one (vInts r), .one (i64 c)] (.one (oInts (subR p row r c))) := by
  have hF := fnOk 35 [.tmp 8]
  refine callOK hF 60 Go.Proofs.Try.func112 rfl rfl rfl (by decide) (by simp) rfl ?_
  intro w0 hw
  have S := @vc_sound w0 _ hF ⟨(.one (oInts (subR p row r c))), []⟩ Go.Proofs.Try.f112 rfl (by simp)
  have hpp := prPos hp
  have e1 := h1.1
  have e2 := h2.1
  have hlen : r.length = row.length := by omega
  simp
  refine J.loop hw (fun i : Nat => ⟨[(0, .c (.d (i64 p))), (1, .c (.d (vInts row))), (2, .c (.d (vInts r))), (3, .c (.d (i64 c))), (9, .c (.ob 64009)), (10, .c (.d (i64 i)))], [(64009, .arr 2 1 (ints ((subR p row r c).take i)))]⟩)
    (fun i => i ≤ row.length) (fun i => row.length - i) 0 (by simp) (by simp) ?_
  intro i hi
  have hl := subR_length (p := p) (c := c) hlen
  generalize hac : (subR p row r c).take i = acc
  refine S 12 _ _ ?_
  simp
  refine ⟨fun hlt => ?_, fun hge => ?_⟩
  · have g1 := gt_get hlt
    have g2 := gt_get (r := r) (i := i) (by omega)
    have r1 := gt_range (by omega) h1 i
    have r2 := gt_range (by omega) h2 i
    have hst := subR_take (p := p) (c := c) hlt hlen
    have hal : acc.length = i := by rw [← hac, List.length_take, hl]; omega
    rw [hac] at hst
    have m1 : 0 ≤ c * gt r i := Int.mul_nonneg hc.1 r2.1
    have m2 : c * gt r i ≤ 13 * 13 := Int.mul_le_mul (by omega) (by omega) (by omega) (by omega)
    generalize gt row i = x at g1 r1 hst
    generalize gt r i = y at g2 r2 hst m1 m2
    have w1 : IntKind.i64.wrap (c * y) = c * y := wrap64 (by omega) (by omega)
    have w2 : IntKind.i64.wrap (x - c * y) = x - c * y := wrap64 (by omega) (by omega)
    have c1 := l01Mod_ok p (x - c * y) (by omega) (by omega)
    refine S 60 _ _ ?_
    simp
    refine J.dr hF mixed 15 [[], [], [], [], [2, 3], [2, 3, 4], [], [], [], [7, 8], [7, 8, 9], [6, 7, 8, 9, 10], [2, 3, 4, 5, 6, 7, 8, 9, 10, 11], [1, 2, 3, 4, 5, 6, 7, 8, 9, 10, 11, 12], [1, 2, 3, 4, 5, 6, 7, 8, 9, 10, 11, 12, 13], [0, 1, 2, 3, 4, 5, 6, 7, 8, 9, 10, 11, 12, 13, 14], [0, 1, 2, 3, 4, 5, 6, 7, 8, 9, 10, 11, 12, 13, 14, 15]] [[18, 19, 20, 21, 22, 23, 24, 25, 26, 27, 28, 29, 30, 31, 32], [18, 19, 20, 21, 22, 23, 24, 25, 26, 27, 28, 29, 30, 31, 32], [18, 19, 20, 21, 22, 23, 24, 25, 26, 27, 28, 29, 30, 31, 32], [18, 19, 20, 21, 22, 23, 24, 25, 26, 27, 28, 29, 30, 31, 32], [18, 19, 22, 23, 24, 25, 26, 27, 28, 29, 30, 31, 32], [18, 19, 23, 24, 25, 26, 27, 28, 29, 30, 31, 32], [18, 19, 20, 21, 22, 23, 24, 25, 26, 27, 28, 29, 30, 31, 32], [18, 19, 20, 21, 22, 23, 24, 25, 26, 27, 28, 29, 30, 31, 32], [18, 19, 20, 21, 22, 23, 24, 25, 26, 27, 28, 29, 30, 31, 32], [18, 19, 20, 21, 22, 23, 24, 27, 28, 29, 30, 31, 32], [18, 19, 20, 21, 22, 23, 24, 28, 29, 30, 31, 32], [18, 19, 20, 21, 22, 23, 29, 30, 31, 32], [18, 19, 30, 31, 32], [18, 31, 32], [18, 32]] (by decide) ?_
    rw [← List.take_append_drop 6 (List.take _ _)]
    generalize htl : List.drop 6 (List.take _ _) = tl
    simp
    refine ⟨hlt, fun x' hx => ?_⟩
    obtain rfl : x = x' := Option.some.inj (g1.symm.trans hx)
    subst htl
    rw [← List.take_append_drop 5 (List.drop 6 _)]
    generalize htl : List.drop 5 (List.drop 6 _) = tl
    simp
    refine ⟨by omega, fun y' hy => ?_⟩
    obtain rfl : y = y' := Option.some.inj (g2.symm.trans hy)
    subst htl
    simp [w1, w2]
    refine DrC.ok hF (by rfl) (by simp) c1 (by simp) (by simp) ?_
    simp [hal]
    refine S 60 _ _ ?_
    simp [hal]
    have hst2 : List.take (i + 1) (List.map (fun i => [D.v (Value.int IntKind.i64 i)]) (subR p row r c)) = ints acc ++ [[i64 ((x - c * y) % p)]] := by rw [← List.map_take, hst]; simp
    exact ⟨by omega, Nxt.mk (i + 1) hlt (by simp [wrapS (i := i) (n := row.length) hlt (by omega), hst2]) (by omega)⟩
  · have e : (subR p row r c).take i = subR p row r c := List.take_of_length_le (by omega)
    rw [hac] at e
    subst e
    refine S 60 _ _ ?_
    simp

theorem l01Rest_ok (p : Int) (n : Nat) (L : List (List Int)) (row : List Int) (hp : Pr p) (hn : n ≤ 1048576) (hl : L.length ≤ 1048576) (hL : ∀ r ∈ L, RowOk p n r ∧ Led r) (h1 : RowOk p n row) : CallOK Go.Proofs.Try.prog 56 [.one (i64 p), .one (vIntss L), .one (vInts row)] (.one (oInts (lessL p L row))) := by
  have hF := fnOk 37 [.tmp 6]
  refine callOK hF 60 Go.Proofs.Try.func56 rfl rfl rfl (by decide) (by simp) rfl ?_
  intro w0 hw
  have S := @vc_sound w0 _ hF ⟨(.one (oInts (lessL p L row))), []⟩ Go.Proofs.Try.f56 rfl (by simp)
  have hpp := prPos hp
  have c1 := l01Own_ok row (by rw [h1.1]; exact hn)
  simp
  refine CallW.ok (by decide) (by simp) c1 (by simp) (S 60 _ _ ?_)
  simp
  refine J.loop hw (fun i : Nat => ⟨[(0, .c (.d (i64 p))), (1, .c (.d (vIntss L))), (7, .c (.ob 64007)), (8, .c (.d (i64 i)))], [(64007, .arr 2 1 (ints (lessL p (L.take i) row)))]⟩)
    (fun i => i ≤ L.length) (fun i => L.length - i) 0 (by simp) (by simp [lessL]) ?_
  intro i hi
  refine S 12 _ _ ?_
  simp
  refine ⟨fun hlt => ?_, fun hge => ?_⟩
  · obtain ⟨r, hr⟩ : ∃ r, L[i]? = some r := ⟨L[i], List.getElem?_eq_getElem hlt⟩
    obtain ⟨r1, r2⟩ := hL r (List.mem_of_getElem? hr)
    have hst := less_take (p := p) (row := row) hr
    have ha := less_row (n := n) (p := p) (L := L.take i) (row := row) (by omega) (fun q hq => (hL q (List.take_subset _ _ hq)).1) h1
    generalize lessL p (L.take i) row = acc at hst ha ⊢
    have r2' : leadN r < r.length := r2
    have e1 := ha.1
    have e2 := r1.1
    have gl := gt_get (r := acc) (i := leadN r) (by omega)
    have gr := gt_range (by omega) ha (leadN r)
    have c2 := l01Lead_ok r (by omega)
    rw [led_leadZ r2] at c2
    have c3 := l01Less_ok p n acc r (gt acc (leadN r)) hp hn ha r1 gr
    have hz := subR_zero (p := p) (by omega) ha e2
    generalize gt acc (leadN r) = c at gl gr c3 hst
    refine S 60 _ _ ?_
    simp
    refine ⟨hlt, fun r' hr' => ?_⟩
    obtain rfl : r = r' := Option.some.inj (hr.symm.trans hr')
    refine CallW.ok (by decide) (by simp) c2 (by simp) (S 20 _ _ ?_)
    simp
    refine ⟨by omega, fun x hx => ?_⟩
    obtain rfl : c = x := Option.some.inj (gl.symm.trans hx)
    refine ⟨fun h0 => ⟨hlt, fun r'' hr'' => ?_⟩, fun h0 => ?_⟩
    · obtain rfl : r = r'' := Option.some.inj (hr.symm.trans hr'')
      refine CallW.ok (by decide) (by simp) c3 (by simp) (S 60 _ _ ?_)
      simp
      exact Nxt.mk (i + 1) hlt (by simp [wrapS (i := i) (n := L.length) hlt (by omega), hst]) (by omega)
    · subst h0
      rw [hz] at hst
      exact Nxt.mk (i + 1) hlt (by simp [wrapS (i := i) (n := L.length) hlt (by omega), hst]) (by omega)
  · have e : L.take i = L := List.take_of_length_le hge
    rw [e]
    refine S 60 _ _ ?_
    simp

set_option maxHeartbeats 1000000 in
theorem less_ok' (p : Int) (n : Nat) (L : List (List Int)) (row : List Int) (hp : Pr p) (hn : n ≤ 1048576) (hl : L.length ≤ 1048576) (hL : ∀ r ∈ L, RowOk p n r ∧ Led r) (h1 : RowOk p n row) : CallOK Go.Proofs.Try.prog 118 [.one (i64 p), .one (vIntss L), .one (vInts row)] (.one (oInts (lessL p L row))) := by
  have hF := fnOk 52 [.tmp 6]
  refine callOK hF 60 Go.Proofs.Try.func118 rfl rfl rfl (by decide) (by simp) rfl ?_
  intro w0 hw
  have S := @vc_sound w0 _ hF ⟨(.one (oInts (lessL p L row))), []⟩ Go.Proofs.Try.f118 rfl (by simp)
  have hpp := prPos hp
  have c1 := Clone_ok row (by rw [h1.1]; exact hn)
  simp
  refine CallW.ok (by decide) (by simp) c1 (by simp) (S 60 _ _ ?_)
  simp
  refine J.loop hw (fun i : Nat => ⟨[(0, .c (.d (i64 p))), (14, .c (.d (vIntss L))), (15, .c (.d (i64 L.length))), (2, .c (.ob 64002)), (16, .c (.d (i64 i)))], [(64002, .arr 2 1 (ints (lessL p (L.take i) row)))]⟩)
    (fun i => i ≤ L.length) (fun i => L.length - i) 0 (by simp) (by simp [lessL]) ?_
  intro i hi
  refine S 8 _ _ ?_
  simp
  refine ⟨fun hlt => ?_, fun hge => ?_⟩
  · obtain ⟨r, hr⟩ : ∃ r, L[i]? = some r := ⟨L[i], List.getElem?_eq_getElem hlt⟩
    obtain ⟨r1, r2⟩ := hL r (List.mem_of_getElem? hr)
    have hst := less_take (p := p) (row := row) hr
    have ha := less_row (n := n) (p := p) (L := L.take i) (row := row) (by omega) (fun q hq => (hL q (List.take_subset _ _ hq)).1) h1
    generalize lessL p (L.take i) row = acc at hst ha ⊢
    have r2' : leadN r < r.length := r2
    have e1 := ha.1
    have e2 := r1.1
    have gl := gt_get (r := acc) (i := leadN r) (by omega)
    have gr := gt_range (by omega) ha (leadN r)
    have c2 := lead_ok r (by omega)
    rw [led_leadZ r2] at c2
    have hz := subR_zero (p := p) (by omega) ha e2
    generalize gt acc (leadN r) = c at gl gr hst
    refine S 60 _ _ ?_
    simp
    refine ⟨hlt, fun r' hr' => ?_⟩
    obtain rfl : r = r' := Option.some.inj (hr.symm.trans hr')
    refine CallW.ok (by decide) (by simp) c2 (by simp) (S 20 _ _ ?_)
    simp
    refine ⟨by omega, fun x hx => ?_⟩
    obtain rfl : c = x := Option.some.inj (gl.symm.trans hx)
    refine ⟨fun h0 => ?_, fun h0 => ?_⟩
    · have hlen : r.length = acc.length := by omega
      have hsl := subR_length (p := p) (c := c) hlen
      refine J.loop hw (fun j : Nat => ⟨[(0, .c (.d (i64 p))), (14, .c (.d (vIntss L))), (15, .c (.d (i64 L.length))), (2, .c (.ob 64002)), (16, .c (.d (i64 i))), (9, .c (.d (i64 c))), (27, .c (.d (vInts r))), (28, .c (.d (i64 r.length))), (29, .c (.d (i64 j)))], [(64002, .arr 2 1 (ints ((subR p acc r c).take j ++ acc.drop j)))]⟩)
        (fun j => j ≤ r.length) (fun j => r.length - j) 0 (by simp) (by simp) ?_
      intro j hj
      have hdl : ((subR p acc r c).take j).length = j := by rw [List.length_take, hsl]; omega
      have hst2 : ∀ h : j < acc.length, (subR p acc r c).take (j + 1) = (subR p acc r c).take j ++ [(gt acc j - c * gt r j) % p] := fun h => subR_take (p := p) (c := c) h hlen
      have hend : j = r.length → (subR p acc r c).take j ++ acc.drop j = subR p acc r c := fun e => by rw [List.take_of_length_le (by omega), List.drop_of_length_le (by omega), List.append_nil]
      generalize hcr : (subR p acc r c).take j ++ acc.drop j = cur at hend ⊢
      have hcl : cur.length = acc.length := by rw [← hcr]; simp [hsl]; omega
      refine S 8 _ _ ?_
      simp
      refine ⟨fun hlt1 => ?_, fun hge1 => ?_⟩
      · have g1 := gt_get (r := acc) (i := j) (by omega)
        have g2 := gt_get (r := r) (i := j) (by omega)
        have q1 := gt_range (by omega) ha j
        have q2 := gt_range (by omega) r1 j
        have hst3 := hst2 (by omega)
        have hst4 := sub_tmod (p := p) (a := gt acc j) (c := c) (x := gt r j) q1.1 gr.2 q2.1
        generalize gt acc j = x at g1 q1 hst3 hst4
        generalize gt r j = y at g2 q2 hst3 hst4
        have m1 : 0 ≤ (p - c) * y := Int.mul_nonneg (by omega) q2.1
        have m2 : (p - c) * y ≤ 13 * 13 := Int.mul_le_mul (by omega) (by omega) (by omega) (by omega)
        have w0 : IntKind.i64.wrap (p - c) = p - c := wrap64 (by omega) (by omega)
        have w1 : IntKind.i64.wrap ((p - c) * y) = (p - c) * y := wrap64 (by omega) (by omega)
        have w2 : IntKind.i64.wrap (x + (p - c) * y) = x + (p - c) * y := wrap64 (by omega) (by omega)
        have hp0 : p ≠ 0 := by omega
        have gc : cur[j]? = some x := by
          rw [← hcr, List.getElem?_append_right (by omega), hdl, Nat.sub_self, List.getElem?_drop]; simpa using g1
        have hs : cur.set j ((x - c * y) % p) = (subR p acc r c).take (j + 1) ++ acc.drop (j + 1) := by
          rw [← hcr, List.set_append, if_neg (by omega), hdl, Nat.sub_self, hst3, drop_cons g1]
          simp
        refine S 9 _ _ ?_
        simp
        refine ⟨hlt1, fun y' hy => ?_⟩
        obtain rfl : y = y' := Option.some.inj (g2.symm.trans hy)
        refine S 60 _ _ ?_
        simp
        refine ⟨by omega, fun x' hx' => ?_⟩
        obtain rfl : x = x' := Option.some.inj (gc.symm.trans hx')
        simp [w0, w1, w2, hst4, hp0]
        have hs2 : List.take (j + 1) (List.map (fun i => [D.v (Value.int IntKind.i64 i)]) (subR p acc r c)) ++ List.drop (j + 1) (List.map (fun i => [D.v (Value.int IntKind.i64 i)]) acc) = (ints cur).set j [i64 ((x - c * y) % p)] := by
          rw [← List.map_take, ← List.map_drop, ← List.map_append, ← hs, List.map_set]
        exact ⟨by omega, Nxt.mk (j + 1) hlt1 (by simp [wrapS (i := j) (n := r.length) hlt1 (by omega), hs2]) (by omega)⟩
      · have e := hend (by omega)
        subst e
        refine S 60 _ _ ?_
        simp
        exact Nxt.mk (i + 1) hlt (by simp [wrapS (i := i) (n := L.length) hlt (by omega), hst]) (by omega)
    · subst h0
      rw [hz] at hst
      exact Nxt.mk (i + 1) hlt (by simp [wrapS (i := i) (n := L.length) hlt (by omega), hst]) (by omega)
  · have e : L.take i = L := List.take_of_length_le hge
    rw [e]
    refine S 60 _ _ ?_
    simp

end Go.Sm

namespace Go.Sm
open Go.RowKit

variable {w0 : Base} {s : St}

theorem mvCs_mono {ob ob' : Nat → Option Ob} (h : Le ob ob') : ∀ {cs : List C} {r : List D × List Nat}, mvCs ob cs = some r → mvCs ob' cs = some r
  | [], r, hm => hm
  | c :: cs, r, hm => by
    cases c with
    | d x =>
      simp only [mvCs] at hm ⊢
      split at hm
      · rename_i e ks he; rw [mvCs_mono h he]; exact hm
      · cases hm
    | ob K =>
      simp only [mvCs] at hm ⊢
      split at hm
      · rename_i e z xs es ks hK he
        rw [h _ _ hK, mvCs_mono h he]; exact hm
      · cases hm
    | _ => simp [mvCs] at hm
theorem mvEs_mono {ob ob' : Nat → Option Ob} (h : Le ob ob') {z : Nat} : ∀ {qs : List (Nat × List C)} {i : Nat} {r : List (List D) × List Nat}, mvEs ob z i qs = some r → mvEs ob' z i qs = some r
  | [], i, r, hm => hm
  | (j, cs) :: qs, i, r, hm => by
    simp only [mvEs] at hm ⊢
    split at hm
    · rename_i e k1 es k2 hb hd he
      rw [hb, mvCs_mono h hd, mvEs_mono h he]; exact hm
    · cases hm

/-- A literal that takes arrays in, in the quiet part of a drawn region. -/
theorem DrB3.move {F : Fn} (hF : FnOk F) {Q : Exit → Act → World → Prop} {all : Array Oper} {k : List It} {m : Nat} {tk : List (List Nat)} {alts : List (Nat × Nat × Nat)} {no : List (Nat × Ob)} {bs hs : List (List Nat)} {i : Nat} {os : List Oper} {b h tki : List Nat} {d t len e : Nat}
    {qs : List (Nat × List C)} {ti te : TI} {es : List (List D)} {ks : List Nat}
    (hall : (all.toList.drop i).take os.length = os) (hd : d < F.N) (hti : lk F.T t = some ti) (hk : ti.k = .sl e) (hte : lk F.T e = some te)
    (hm : mvEs (obB2 b h s) te.size 0 qs = some (es, ks)) (hn : nodupB ks = true) (hl : qs.length = len) (hb : len * te.size ≤ 16777216) (hb2 : len ≤ 16777216) (hfr : lk s.ob (d * 64) = none)
    (htk : (ks.all fun x => tki.elem x) = true)
    (hj : dr3 F w0 Q all k m tk alts no bs hs i os ⟨(d, .c (.ob (d * 64))) :: s.tm, (d * 64, .arr e te.size es) :: (deads ks ++ s.ob)⟩) : DrB3 F w0 Q all k m tk alts no bs hs i os s b h tki d t len qs := by
  refine ⟨.c (.ob (d * 64)), (d * 64, .arr e te.size es) :: deads ks, [d * 64], fun x hx => ?_, ?_, ?_, ?_⟩
  · simp only [List.mem_singleton] at hx; subst hx
    exact ⟨by simp, hfr⟩
  · simp only [nsOk3, List.all_cons, Bool.and_eq_true, Bool.or_eq_true]
    refine ⟨.inl (by simp), ?_⟩
    have : ∀ ks : List Nat, (ks.all fun x => tki.elem x) = true → ((deads ks).all fun p => some d == some (p.1 / 64) || tki.elem p.1) = true := by
      intro ks
      induction ks with
      | nil => intro _; rfl
      | cons K ks ih =>
        intro h
        simp only [List.all_cons, Bool.and_eq_true] at h
        simp only [deads, List.all_cons, Bool.and_eq_true, Bool.or_eq_true]
        exact ⟨.inr h.1, ih h.2⟩
    exact this ks htk
  · intro s2 a w β R l1 l2 f vs hp
    have hm2 : mvEs (lk s2.ob) te.size 0 qs = some (es, ks) := mvEs_mono l2 (by rw [obB2_eq]; exact hm)
    obtain ⟨val, out, h1, _, h2⟩ := move_rel hF hd hti hk hte hm2 hn hl hb hb2 (f _ (List.mem_singleton.2 rfl)) R hp
    exact ⟨val, _, _, h1, h2⟩
  · refine dr3_sound hF (fun j o ho => ?_) hj
    rw [← hall, List.getElem?_take] at ho
    split at ho
    · rw [List.getElem?_drop] at ho
      simpa using ho
    · cases ho

end Go.Sm

namespace Go.Sm
open Go.RowKit

theorem szInt64S_ok (xs : List Int) (n : Int) (hn : 0 ≤ n) (hn2 : n ≤ 4611686018427387904) (hl : xs.length ≤ maxLen) : CallOK Go.Proofs.Try.prog 109 [.one (vInts xs), .one (i64 n)] (.one (i64 (if n - xs.length < 0 then -1 else n - xs.length))) := by
  have hF := fnOk 12 [.tmp 4]
  refine callOK hF 60 Go.Proofs.Try.func109 rfl rfl rfl (by decide) (by simp) rfl ?_
  intro w0 hw
  have S := @vc_sound w0 _ hF ⟨(.one (i64 (if n - xs.length < 0 then -1 else n - xs.length))), []⟩ Go.Proofs.Try.f109 rfl (by simp)
  have hm : maxLen = 9223372036854775807 := rfl
  have hw1 : IntKind.i64.wrap (n - xs.length) = n - xs.length := wrap64 (by omega) (by omega)
  by_cases h : n - xs.length < 0
  · rw [if_pos h] at S ⊢
    simp [hw1, h]
  · rw [if_neg h] at S ⊢
    simp [hw1, h]

/-- What is left of n. -/
def szL (n : Int) (xss : List (List Int)) : Int := if n - xss.length - total xss < 0 then -1 else n - xss.length - total xss

theorem szInt64SS_ok (xss : List (List Int)) (n : Int) (hn : 0 ≤ n) (hn2 : n ≤ 1000000000) (hl : xss.length ≤ maxLen) (hr : ∀ r ∈ xss, r.length ≤ maxLen) : CallOK Go.Proofs.Try.prog 53 [.one (vIntss xss), .one (i64 n)] (.one (i64 (szL n xss))) := by
  have hF := fnOk 27 [.tmp 4]
  refine callOK hF 60 Go.Proofs.Try.func53 rfl rfl rfl (by decide) (by simp) rfl ?_
  intro w0 hw
  have S := @vc_sound w0 _ hF ⟨(.one (i64 (szL n xss))), []⟩ Go.Proofs.Try.f53 rfl (by simp)
  have hm : maxLen = 9223372036854775807 := rfl
  have hw1 : IntKind.i64.wrap (n - xss.length) = n - xss.length := wrap64 (by omega) (by omega)
  have hneg : ∀ i, n - xss.length - total (xss.take i) < 0 → szL n xss = -1 := fun i h => by
    have := total_le xss i
    unfold szL; rw [if_pos (by omega)]
  by_cases h : n - xss.length < 0
  · have e := hneg 0 (by simp [total]; omega)
    rw [e] at S ⊢
    simp [hw1, h]
  · simp [hw1, h]
    refine J.loop hw (fun i : Nat => ⟨[(0, .c (.d (vIntss xss))), (1, .c (.d (i64 (n - xss.length - total (xss.take i))))), (5, .c (.d (i64 i)))], []⟩)
      (fun i => i ≤ xss.length ∧ 0 ≤ n - xss.length - total (xss.take i)) (fun i => xss.length - i) 0 ⟨by omega, by simp [total]; omega⟩ (by simp [total]) ?_
    rintro i ⟨hi, h0⟩
    refine S 12 _ _ ?_
    simp
    refine ⟨fun hlt => ?_, fun hge => ?_⟩
    · obtain ⟨r, hr'⟩ : ∃ r, xss[i]? = some r := ⟨xss[i], List.getElem?_eq_getElem hlt⟩
      have c1 := szInt64S_ok r (n - xss.length - total (xss.take i)) h0 (by omega) (hr r (List.mem_of_getElem? hr'))
      have ht := total_take hr'
      have hng := hneg (i + 1)
      refine S 60 _ _ ?_
      simp
      refine ⟨hlt, fun r'' hr'' => ?_⟩
      obtain rfl : r = r'' := Option.some.inj (hr'.symm.trans hr'')
      by_cases h1 : n - xss.length - total (xss.take i) - r.length < 0
      · rw [if_pos h1] at c1
        have e := hng (by omega)
        refine CallW.ok (by decide) (by simp) c1 (by simp) (S 60 _ _ ?_)
        simp [e]
      · rw [if_neg h1] at c1
        have e : n - (xss.length : Int) - total (xss.take i) - r.length = n - xss.length - total (xss.take (i + 1)) := by omega
        rw [e] at c1 h1
        refine CallW.ok (by decide) (by simp) c1 (by simp) (S 60 _ _ ?_)
        simp
        refine ⟨fun h' => absurd h' h1, fun _ => ?_⟩
        exact Nxt.mk (i + 1) ⟨hlt, by omega⟩ (by simp [wrapS (i := i) (n := xss.length) hlt (by omega)]) (by omega)
    · rw [List.take_of_length_le (by omega)] at h0 ⊢
      have e : szL n xss = n - xss.length - total xss := if_neg (by omega)
      rw [e] at S ⊢
      refine S 60 _ _ ?_
      simp

set_option maxHeartbeats 1000000 in
theorem toInt64SS_ok (xss : List (List Int)) (hl : xss.length ≤ 1048576) (hr : ∀ r ∈ xss, r.length ≤ 1048576) : CallOK Go.Proofs.Try.prog 58 [.one (vIntss xss)] (.one (oIntss xss)) := by
  have hF := fnOk 23 [.tmp 2]
  refine callOK hF 60 Go.Proofs.Try.func58 rfl rfl rfl (by decide) (by simp) rfl ?_
  intro w0 hw
  have S := @vc_sound w0 _ hF ⟨(.one (oIntss xss)), []⟩ Go.Proofs.Try.f58 rfl (by simp)
  simp
  refine ⟨⟨by omega, by omega⟩, ?_⟩
  refine J.loop hw (fun p : Nat × List (List Int) => ⟨[(0, .c (.d (vIntss xss))), (3, .c (.ob 64003)), (4, .c (.d (i64 p.1)))], [(64003, .arr 25 1 (p.2.map fun xs => [oInts xs]))]⟩)
    (fun p => p.1 ≤ xss.length ∧ p.2.length = xss.length ∧ p.2.take p.1 = xss.take p.1) (fun p => xss.length - p.1) (0, List.replicate xss.length []) (by simp) (by simp [List.map_replicate]) ?_
  rintro ⟨i, zs⟩ ⟨hi, hlen, htk⟩
  simp only at hi hlen htk
  refine S 12 _ _ ?_
  simp
  refine ⟨fun hlt => ?_, fun hge => ?_⟩
  · obtain ⟨r, hr'⟩ : ∃ r, xss[i]? = some r := ⟨xss[i], List.getElem?_eq_getElem hlt⟩
    have c1 := toInt64S_ok r (hr r (List.mem_of_getElem? hr'))
    have hlz : i < zs.length := by omega
    obtain ⟨z, hz⟩ : ∃ z, zs[i]? = some z := ⟨zs[i], List.getElem?_eq_getElem hlz⟩
    refine J.out (F := ⟨Go.Proofs.Try.prog, tab, [], 23, [.tmp 2]⟩) (r := ⟨.one (oIntss xss), []⟩) (fn := Go.Proofs.Try.f58) hw
      (ky := 64003) (K := 64011) (i := i) (j := 0) (e := 25) (z := 1) (xs := zs.map fun xs => [oInts xs]) (E := [oInts z]) (e' := 2) (z' := 1) (ys := ints z)
      (by simp) (by simp [hz]) (by simp) (by simp) (by simp) (by omega) (by simp) (by simp) (by simp) ?_
    intro c
    have S1 := @vc_sound (w0.named 64011 c) _ hF ⟨.one (oIntss xss), []⟩ Go.Proofs.Try.f58 rfl (by simp)
    refine S1 60 _ _ ?_
    simp
    refine ⟨hlt, fun r'' hr'' => ?_⟩
    obtain rfl : r = r'' := Option.some.inj (hr'.symm.trans hr'')
    refine CallW.ok (by decide) (by simp) c1 (by simp) ?_
    simp
    refine J.name (F := ⟨Go.Proofs.Try.prog, tab, [], 23, [.tmp 2]⟩) (r := ⟨.one (oIntss xss), []⟩) (fn := Go.Proofs.Try.f58)
      (K := 1280) (by rw [named_ne _ _ (by decide)]; exact fix_none hw (by decide)) (by simp) (by simp) ?_
    intro c2
    refine J.reV (d := 20) (K := 1280) (c := c2) (by simp) (by simp) ?_
    have S2 := @vc_sound ((w0.named 64011 c).named 1280 c2) _ hF ⟨.one (oIntss xss), []⟩ Go.Proofs.Try.f58 rfl (by simp)
    refine S2 3 _ _ ?_
    simp [hlz]
    refine J.in' (ky := 64003) (K := 1280) (i := i) (j := 0) (e := 25) (z := 1) (xs := (zs.map fun xs => [oInts xs]).set i [.v c2]) (E := [.v c2]) (e' := 2) (z' := 1) (ys := ints r) (c := c2)
      (by simp) (by simp) (by simp) (by simp [hlz]) (by simp) (by decide) (by simp) ?_
    have hms2 : List.map (fun xs => [oInts xs]) (zs.set i r) = (zs.map fun xs => [oInts xs]).set i [oInts r] := by rw [List.map_set]
    refine S2 60 _ _ ?_
    simp
    refine Nxt.mk (i + 1, zs.set i r) ⟨hlt, by simpa using hlen, ?_⟩ (by simp [wrapS (i := i) (n := xss.length) hlt (by omega), List.map_set]) (by show xss.length - (i + 1) < xss.length - i; omega)
    show (zs.set i r).take (i + 1) = xss.take (i + 1)
    rw [List.take_add_one, List.take_set_of_le (Nat.le_refl i), htk, List.take_add_one, hr']
    simp [hlz]
  · have e : zs = xss := by
      have h1 : zs.take i = zs := List.take_of_length_le (by omega)
      have h2 : xss.take i = xss := List.take_of_length_le (by omega)
      rw [← h1, htk, h2]
    subst e
    refine S 60 _ _ ?_
    simp

abbrev vCode (p l : Int) (rows : List (List Int)) : RV := .agg [i64 p, i64 l, vIntss rows]
abbrev oCode (p l : Int) (rows : List (List Int)) : RV := .agg [i64 p, i64 l, oIntss rows]

theorem eqCode_ok (p l p' l' : Int) (xs ys : List (List Int)) (hl : xs.length < 4611686018427387904) (hls : ∀ x ∈ xs, x.length < 4611686018427387904) : CallOK Go.Proofs.Try.prog 20 [vCode p l xs, vCode p' l' ys] (.one (bo (decide (p = p' ∧ l = l' ∧ xs = ys)))) := by
  have hF := fnOk 21 [.tmp 4]
  refine callOK hF 60 Go.Proofs.Try.func20 rfl rfl rfl (by decide) (by simp) rfl ?_
  intro w0 hw
  have S := @vc_sound w0 _ hF ⟨(.one (bo (decide (p = p' ∧ l = l' ∧ xs = ys)))), []⟩ Go.Proofs.Try.f20 rfl (by simp)
  have c1 := eqInt64SS_ok xs ys hl hls
  by_cases h : p = p'
  · by_cases h2 : l = l'
    · by_cases h3 : xs = ys
      · rw [decide_eq_true h3] at c1
        have e : decide (p = p' ∧ l = l' ∧ xs = ys) = true := decide_eq_true ⟨h, h2, h3⟩
        rw [e] at S ⊢
        simp [h, h2]
        refine CallW.ok (by decide) (by simp) c1 (by simp) (S 60 _ _ ?_)
        simp
      · rw [decide_eq_false h3] at c1
        have e : decide (p = p' ∧ l = l' ∧ xs = ys) = false := decide_eq_false fun h => h3 h.2.2
        rw [e] at S ⊢
        simp [h, h2]
        refine CallW.ok (by decide) (by simp) c1 (by simp) (S 60 _ _ ?_)
        simp
    · simp [h, h2]
  · simp [h]

theorem heldCode_ok (p l : Int) (xss : List (List Int)) (k : Int) (hx : xss = markLL xss k) (hl : xss.length < 4611686018427387904) (hk : 0 ≤ k) (hk2 : k + total xss < 4611686018427387904) : CallOK Go.Proofs.Try.prog 25 [vCode p l xss, .one (i64 k)] (.one (i64 (k + total xss))) := by
  have hF := fnOk 12 [.tmp 4]
  refine callOK hF 60 Go.Proofs.Try.func25 rfl rfl rfl (by decide) (by simp) rfl ?_
  intro w0 hw
  have S := @vc_sound w0 _ hF ⟨(.one (i64 (k + total xss))), []⟩ Go.Proofs.Try.f25 rfl (by simp)
  have c1 := heldInt64SS_ok xss k hx hl hk hk2
  simp
  refine CallW.ok (by decide) (by simp) c1 (by simp) (S 60 _ _ ?_)
  have hb : ¬ (k + (total xss : Int) < 0) := by omega
  simp [hb]

theorem markCode_ok (p l : Int) (xss : List (List Int)) (k : Int) (hl : xss.length < 4611686018427387904) (hk : 0 ≤ k) (hk2 : k + total xss < 4611686018427387904) : CallX Go.Proofs.Try.prog 24 [oCode p l xss, .one (i64 k)] ⟨(.one (i64 (k + total xss))), [(2, oIntss (markLL xss k))]⟩ := by
  have hF := fnOk 10 [.tmp 4]
  refine callX hF 60 Go.Proofs.Try.func24 rfl rfl rfl (by decide) (by simp) rfl (by simp) (by simp [ownAt]) ?_
  intro w0 hw hfix
  have S := @vc_sound w0 _ hF ⟨(.one (i64 (k + total xss))), [(2, oIntss (markLL xss k))]⟩ Go.Proofs.Try.f24 rfl hfix
  have c1 := markInt64SS_ok xss k hl hk hk2
  simp
  refine CallW.mut c1 (by decide) (by simp) (by simp) (by simp) (by simp) (by simp) (by simp) (S 60 _ _ ?_)
  simp

theorem total_bound {n : Nat} : ∀ {xss : List (List Int)}, (∀ r ∈ xss, r.length ≤ n) → total xss ≤ xss.length * n
  | [], _ => by simp [total]
  | x :: xss, h => by
    have h1 := h x (List.mem_cons_self ..)
    have h2 := total_bound fun r hr => h r (List.mem_cons_of_mem _ hr)
    simp only [total, List.map_cons, List.sum_cons, List.length_cons, Nat.add_mul] at h2 ⊢
    omega
theorem len_total : ∀ {xss : List (List Int)} {r : List Int}, r ∈ xss → r.length ≤ total xss
  | x :: xss, r, h => by
    simp only [total, List.map_cons, List.sum_cons]
    rcases List.mem_cons.1 h with rfl | h
    · omega
    · have := len_total h; unfold total at this; omega
theorem markLL_mark : ∀ {xss : List (List Int)} {k : Int}, markLL (markLL xss k) k = markLL xss k
  | [], _ => rfl
  | x :: r, k => by simp only [markLL, markL_length]; rw [markLL_mark]

theorem toCode_ok (p l : Int) (rows : List (List Int)) (hl : rows.length ≤ 1048576) (hr : ∀ r ∈ rows, r.length ≤ 1048576) : CallOK Go.Proofs.Try.prog 17 [vCode p l rows] (oCode p l rows) := by
  have hF := fnOk 15 [.cell 2 29]
  refine callOK hF 60 Go.Proofs.Try.func17 rfl rfl rfl (by decide) (by simp) rfl ?_
  intro w0 hw
  have S := @vc_sound w0 _ hF ⟨(oCode p l rows), []⟩ Go.Proofs.Try.f17 rfl (by simp)
  have c1 := toInt64SS_ok rows hl hr
  simp
  refine CallW.ok (by decide) (by simp) c1 (by simp) (S 60 _ _ ?_)
  simp

theorem szCode_ok (p l : Int) (rows : List (List Int)) (n : Int) (hn : 0 ≤ n) (hn2 : n ≤ 1000000000) (hl : rows.length ≤ maxLen) (hr : ∀ r ∈ rows, r.length ≤ maxLen) : CallOK Go.Proofs.Try.prog 15 [vCode p l rows, .one (i64 n)] (.one (i64 (szL n rows))) := by
  have hF := fnOk 12 [.tmp 4]
  refine callOK hF 60 Go.Proofs.Try.func15 rfl rfl rfl (by decide) (by simp) rfl ?_
  intro w0 hw
  have S := @vc_sound w0 _ hF ⟨(.one (i64 (szL n rows))), []⟩ Go.Proofs.Try.f15 rfl (by simp)
  have c1 := szInt64SS_ok rows n hn hn2 hl hr
  have hz : szL n rows < 0 → szL n rows = -1 := fun h => by unfold szL at h ⊢; split at h <;> simp_all
  generalize szL n rows = z at c1 hz S ⊢
  simp
  refine CallW.ok (by decide) (by simp) c1 (by simp) (S 60 _ _ ?_)
  simp
  exact fun h => (hz h).symm

end Go.Sm

namespace Go.Sm

theorem subR_zeroP {p : Int} {n : Nat} (hp : 0 < p) {row r : List Int} (h : RowOk p n row) (h2 : r.length = n) : subR p row r 0 = row := by
  obtain ⟨s1, s2⟩ := subR_ok hp h.1 h2 0
  refine gt_ext (s1.1.trans h.1.symm) fun i hi => ?_
  have := gt_range hp h i
  rw [s2 i (by rw [← s1.1]; exact hi), Int.zero_mul, Int.sub_zero, Int.emod_eq_of_lt this.1 this.2]
theorem less_idP {p : Int} {n : Nat} (hp : 0 < p) : ∀ {L : List (List Int)} {row : List Int}, RowOk p n row → (∀ r ∈ L, r.length = n ∧ gt row (leadN r) = 0) → lessL p L row = row
  | [], row, _, _ => rfl
  | r :: L, row, hr, h => by
    have h0 := h r (List.mem_cons_self ..)
    have e : lessL p (r :: L) row = lessL p L (subR p row r (gt row (leadN r))) := rfl
    rw [e, h0.2, subR_zeroP hp hr h0.1]
    exact less_idP hp hr fun q hq => h q (List.mem_cons_of_mem _ hq)
theorem led_one {r : List Int} (h : gt r (leadN r) = 1) : Led r := led_iff.2 ⟨_, by rw [h]; omega⟩
theorem nrm_id {p : Int} {n : Nat} (hp : Pr p) {row : List Int} (hr : RowOk p n row) (h1 : gt row (leadN row) = 1) : nrm p row = row := by
  have hpp := prPos hp
  have hi := inv_ok hp (n := 1) (by omega) (by omega)
  have e1 : invN 1 p = 1 := by
    have := hi.1
    rw [Int.one_mul, Int.emod_eq_of_lt (by omega) hi.2.2] at this; exact this
  obtain ⟨n1, _, _, n4⟩ := nrm_ok hp hr (led_one h1)
  refine gt_ext (n1.1.trans hr.1.symm) fun i _ => ?_
  have := gt_range (by omega) hr i
  rw [n4, h1, e1, Int.mul_one, Int.emod_eq_of_lt this.1 this.2]
theorem insL_end {f : List Int → List Int} {w : List Int} {k : Nat} : ∀ {L : List (List Int)}, (∀ r ∈ L, leadN r < k ∧ f r = r) → insL f w k L = L ++ [w]
  | [], _ => rfl
  | r :: L, h => by
    obtain ⟨h1, h2⟩ := h r (List.mem_cons_self ..)
    unfold insL
    rw [if_neg (by omega), h2, insL_end fun q hq => h q (List.mem_cons_of_mem _ hq)]; rfl
theorem Red.append {p : Int} {n : Nat} {L M : List (List Int)} (h : Red p n (L ++ M)) : Red p n L ∧ Red p n M ∧ ∀ r ∈ L, ∀ q ∈ M, gt q (leadN r) = 0 ∧ gt r (leadN q) = 0 := by
  obtain ⟨h1, h2⟩ := h
  obtain ⟨a, b, c⟩ := List.pairwise_append.1 h2
  exact ⟨⟨fun r hr => h1 r (List.mem_append_left _ hr), a⟩, ⟨fun r hr => h1 r (List.mem_append_right _ hr), b⟩, c⟩
theorem ech_step_id {p : Int} {n : Nat} (hp : Pr p) {L : List (List Int)} {r : List Int} (hR : Red p n (L ++ [r])) (hs : Srt (L ++ [r])) : echS p L r = L ++ [r] := by
  have hp0 : 0 < p := by have := prPos hp; omega
  obtain ⟨h1, h2, h3⟩ := hR.append
  obtain ⟨r1, r2⟩ := h2.1 r (by simp)
  have e : lessL p L r = r := less_idP hp0 r1 fun q hq => ⟨(h1.1 q hq).1.1, (h3 q hq r (by simp)).1⟩
  unfold echS
  rw [e, if_pos (led_one r2), nrm_id hp r1 r2]
  refine insL_end fun q hq => ⟨(List.pairwise_append.1 hs).2.2 q hq r (by simp), ?_⟩
  rw [(h3 q hq r (by simp)).2]
  exact subR_zeroP hp0 (h1.1 q hq).1 r1.1
theorem ech_id_go {p : Int} {n : Nat} (hp : Pr p) : ∀ (M L : List (List Int)), Red p n (L ++ M) → Srt (L ++ M) → M.foldl (echS p) L = L ++ M
  | [], L, _, _ => by simp
  | r :: M, L, hR, hs => by
    have e : L ++ r :: M = (L ++ [r]) ++ M := by simp
    rw [e] at hR hs
    have h1 := ech_step_id hp hR.append.1 (List.pairwise_append.1 hs).1
    rw [List.foldl_cons, h1, ech_id_go hp M (L ++ [r]) hR hs, e]
/-- A reduced list in order. -/
theorem ech_id {p : Int} {n : Nat} (hp : Pr p) {E : List (List Int)} (hR : Red p n E) (hs : Srt E) : echL p E = E := by
  have := ech_id_go hp E [] (by simpa using hR) (by simpa using hs)
  simpa [echL] using this
/-- What a list that is its own reduced list is. -/
theorem ech_good {p : Int} {n : Nat} (hp : Pr p) {rows : List (List Int)} (h : ∀ r ∈ rows, RowOk p n r) (he : echL p rows = rows) : Red p n rows ∧ Srt rows := by
  have hb := both_ok hp rows (both_nil p n) h
  have e : rows.foldl (echS p) [] = rows := he
  rw [e] at hb
  exact ⟨hb.1.perm hb.2.1.symm, hb.2.2⟩

end Go.Sm
