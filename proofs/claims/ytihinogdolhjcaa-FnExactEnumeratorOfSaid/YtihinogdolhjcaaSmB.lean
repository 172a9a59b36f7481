/- The symbolic state of a frame, what it says of a frame and a world, and how it is carried over a step. -/
import Derived.Test.YtihinogdolhjcaaSmA
namespace Go.Sm
open Go.RowKit

inductive C where
  | d (x : D)
  | ob (k : Nat)
  | win (k sz lo n : Nat)
  | ref (k off : Nat)
  | re (k sz i j : Nat)
  | rd (xs : List D)
  deriving Inhabited

inductive FV where
  | c (x : C)
  | g (xs : List C)
  | t (xs : List FV)
  | und
  deriving Inhabited

inductive Ob where
  | dead
  | var (cs : List C)
  | arr (e k : Nat) (xs : List (List D))
  | mp (m : MD)
  | it (m : MD) (rem : List (List Int × Value)) (last : Option (List Int × Value))
  deriving Inhabited

/-- What a walk over a map has not come to yet. -/
def ItOk (m : MD) (since : Nat) (seen : Array Nat) (st : Nat) (rem : List (List Int × Value)) (last : Option (List Int × Value)) : Prop :=
  m.xs.length ≤ since ∧ st = m.xs.length ∧ rem = (m.xs.zipIdx.filter fun p => !seen.contains p.2).map (·.1) ∧ ∀ e, last = some e → ∃ i, seen.back? = some i ∧ m.xs[i]? = some e

def Ob.live : Ob → Bool
  | .dead => false
  | _ => true

def lk {α : Type} : List (Nat × α) → Nat → Option α
  | [], _ => none
  | (a, b) :: r, t => match Nat.beq a t with
    | true => some b
    | false => lk r t

theorem lk_cons_self {α : Type} (t : Nat) (b : α) (r : List (Nat × α)) : lk ((t, b) :: r) t = some b := by simp [lk]
theorem lk_cons_ne {α : Type} {a t : Nat} (b : α) (r : List (Nat × α)) (h : a ≠ t) : lk ((a, b) :: r) t = lk r t := by
  have : Nat.beq a t = false := by
    cases hb : Nat.beq a t with
    | false => rfl
    | true => exact absurd (Nat.eq_of_beq_eq_true hb) h
  simp [lk, this]
theorem lk_cons {α : Type} (a t : Nat) (b : α) (r : List (Nat × α)) : lk ((a, b) :: r) t = if a = t then some b else lk r t := by
  split
  · rename_i h; subst h; exact lk_cons_self a b r
  · rename_i h; exact lk_cons_ne b r h

structure St where
  tm : List (Nat × FV)
  ob : List (Nat × Ob)
  deriving Inhabited

structure En where
  w : World
  B : Nat → Prop
  β : Nat → Value
  ob : Nat → Option Ob

def blk : Value → Option Nat
  | .pointer (some a) => some a.block
  | .slice (some a) _ _ => some a.block
  | .map (some r) => some r
  | _ => none

def En.M (en : En) (b : Nat) : Prop := ∃ k o, en.ob k = some o ∧ o.live = true ∧ blk (en.β k) = some b

def D.isOwn : D → Bool
  | .own _ _ _ => true
  | _ => false

def OwnRel (w : World) (B : Nat → Prop) (M : Nat → Prop) (e k : Nat) (xs : List (List D)) (c : Value) : Prop :=
  (xs = [] ∧ c = nilV) ∨ ∃ b cap cur, c = .slice (some ⟨b, 0, none⟩) xs.length cap ∧ xs.length ≤ cap ∧
      w.heap[b]? = some (.cells cur e (0, 0)) ∧ cap ≤ maxLen ∧ cur.size = cap * k ∧ RdEs w B M k xs b 0

def CRel (en : En) : C → Value → Prop
  | .d x, v => x.isOwn = false ∧ v.oneCell' = true ∧ Rd en.w en.B en.M x v
  | .ob k, v => (en.ob k).isSome = true ∧ v = en.β k ∧ v.oneCell' = true
  | .win k sz lo n, v => (en.ob k).isSome = true ∧ ((en.β k = nilV ∧ n = 0 ∧ v = nilV) ∨
      ∃ g N cap off c', en.β k = .slice (some ⟨g, 0, none⟩) N cap ∧ v = .slice (some ⟨g, off, none⟩) n c' ∧ (n = 0 ∨ off = lo * sz) ∧ lo + n ≤ N ∧ n ≤ c')
  | .ref k off, v => (en.ob k).isSome = true ∧ ∃ g, en.β k = .pointer (some ⟨g, 0, none⟩) ∧ v = .pointer (some ⟨g, off, none⟩)
  | .re k sz i j, v => (en.ob k).isSome = true ∧ ∃ g N cap, en.β k = .slice (some ⟨g, 0, none⟩) N cap ∧ v = .pointer (some ⟨g, i * sz + j, none⟩)
  | .rd xs, v => ∃ b off, v = .pointer (some ⟨b, off, none⟩) ∧ ¬ en.M b ∧ b < en.w.heap.size ∧ RdCs en.w en.B en.M xs b off

theorem CRel.one {en : En} {c : C} {v : Value} (h : CRel en c v) : v.oneCell' = true := by
  cases c with
  | d x => exact h.2.1
  | ob k => exact h.2.2
  | win k sz lo n => rcases h.2 with ⟨_, _, rfl⟩ | ⟨g, N, cap, off, c', _, rfl, _⟩ <;> rfl
  | ref k off => obtain ⟨_, g, _, rfl⟩ := h; rfl
  | re k sz i j => obtain ⟨_, g, N, cap, _, rfl⟩ := h; rfl
  | rd xs => obtain ⟨b, off, rfl, _⟩ := h; rfl

def CsRel (en : En) : List C → List Value → Prop
  | [], [] => True
  | c :: cs, v :: vs => CRel en c v ∧ CsRel en cs vs
  | _, _ => False

theorem CsRel.length {en : En} : ∀ {cs : List C} {vs : List Value}, CsRel en cs vs → cs.length = vs.length
  | [], [], _ => rfl
  | [], _ :: _, h => h.elim
  | _ :: _, [], h => h.elim
  | _ :: _, _ :: _, h => by simp [CsRel.length h.2]

theorem CsRel.get {en : En} : ∀ {cs : List C} {vs : List Value}, CsRel en cs vs → ∀ (i : Nat) (c : C), cs[i]? = some c → ∃ v, vs[i]? = some v ∧ CRel en c v
  | [], [], _, i, c, h => by simp at h
  | [], _ :: _, h, _, _, _ => h.elim
  | _ :: _, [], h, _, _, _ => h.elim
  | c0 :: cs, v :: vs, h, 0, c, hi => by simp at hi; subst hi; exact ⟨v, rfl, h.1⟩
  | c0 :: cs, v :: vs, h, i + 1, c, hi => by simpa using CsRel.get h.2 i c (by simpa using hi)

theorem CsRel.of_get {en : En} : ∀ {cs : List C} {vs : List Value}, cs.length = vs.length → (∀ (i : Nat) (c : C) (v : Value), cs[i]? = some c → vs[i]? = some v → CRel en c v) → CsRel en cs vs
  | [], [], _, _ => trivial
  | [], _ :: _, h, _ => by simp at h
  | _ :: _, [], h, _ => by simp at h
  | c :: cs, v :: vs, h, hg => ⟨hg 0 c v rfl rfl, CsRel.of_get (by simpa using h) fun i c v h1 h2 => hg (i + 1) c v (by simpa using h1) (by simpa using h2)⟩

mutual
def FVRel (en : En) : FV → Value → Prop
  | .c x, v => CRel en x v
  | .g xs, v => ∃ vs : List Value, v = .agg vs.toArray ∧ CsRel en xs vs
  | .t xs, v => ∃ vs : List Value, v = .tuple vs.toArray ∧ FVsRel en xs vs
  | .und, v => v = undef
def FVsRel (en : En) : List FV → List Value → Prop
  | [], vs => vs = []
  | x :: xs, vs => ∃ v r, vs = v :: r ∧ FVRel en x v ∧ FVsRel en xs r
end

def ObRel (en : En) (k : Nat) : Ob → Prop
  | .dead => True
  | .var cs => ∃ g cur T, en.β k = .pointer (some ⟨g, 0, none⟩) ∧ en.w.heap[g]? = some (.cells cur T (0, 0)) ∧ CsRel en cs cur.toList
  | .arr e s xs => OwnRel en.w en.B en.M e s xs (en.β k)
  | .mp xs => ∃ r es clock, en.β k = .map (some r) ∧ en.w.heap[r]? = some (.map es clock) ∧ MapOk es clock xs
  | .it m rem last => ∃ g r since seen st, en.β k = .pointer (some ⟨g, 0, none⟩) ∧ en.w.heap[g]? = some (.mapIter (some r) since seen st) ∧
      Rd en.w en.B en.M (.mp m) (.map (some r)) ∧ ItOk m since seen st rem last

def obFp (en : En) (k : Nat) : List Nat :=
  match en.ob k with
  | some (.var _) => (blk (en.β k)).toList
  | some (.mp _) => (blk (en.β k)).toList
  | some (.it _ _ _) => (blk (en.β k)).toList
  | some (.arr e s xs) => fp en.w (.own e s xs) (en.β k)
  | _ => []

theorem mem_obFp {en : En} {k : Nat} {o : Ob} {b : Nat} (ho : en.ob k = some o) (hl : o.live = true) (hb : blk (en.β k) = some b) (hr : ObRel en k o) : b ∈ obFp en k := by
  unfold obFp
  rw [ho]
  cases o with
  | dead => simp [Ob.live] at hl
  | var cs => simp [hb]
  | mp xs => simp [hb]
  | it m rem last => simp [hb]
  | arr e s xs =>
    simp only [ObRel, OwnRel] at hr
    rcases hr with ⟨_, h⟩ | ⟨g, cap, cur, h, _⟩
    · rw [h] at hb; simp [blk] at hb
    · rw [h] at hb ⊢
      simp only [blk, Option.some.injEq] at hb
      subst hb
      simp [fp]

theorem fp_own_some (w : World) (e k : Nat) (xs : List (List D)) (a : Addr) (n cap : Nat) : fp w (.own e k xs) (.slice (some a) n cap) = a.block :: fpEs w k xs a.block 0 := by simp only [fp]
theorem fp_own_nil (w : World) (e k : Nat) (xs : List (List D)) : fp w (.own e k xs) nilV = [] := by simp only [fp]
theorem obFp_arr {en : En} {k e z : Nat} {xs : List (List D)} (h : en.ob k = some (.arr e z xs)) : obFp en k = fp en.w (.own e z xs) (en.β k) := by unfold obFp; rw [h]
theorem obFp_var {en : En} {k : Nat} {cs : List C} (h : en.ob k = some (.var cs)) : obFp en k = (blk (en.β k)).toList := by unfold obFp; rw [h]
theorem obFp_it {en : En} {k : Nat} {m : MD} {rem : List (List Int × Value)} {last : Option (List Int × Value)} (h : en.ob k = some (.it m rem last)) : obFp en k = (blk (en.β k)).toList := by unfold obFp; rw [h]
theorem obFp_mp {en : En} {k : Nat} {xs : MD} (h : en.ob k = some (.mp xs)) : obFp en k = (blk (en.β k)).toList := by unfold obFp; rw [h]
theorem obFp_dead {en : En} {k : Nat} (h : en.ob k = some .dead) : obFp en k = [] := by unfold obFp; rw [h]

structure Step (en en' : En) : Prop where
  B : en'.B = en.B
  K : Keeps en.w en'.w en.M en'.M
  β : ∀ k, (en.ob k).isSome = true → (en'.ob k).isSome = true ∧ en'.β k = en.β k

theorem CRel.step {en en' : En} (S : Step en en') {c : C} {v : Value} (h : CRel en c v) : CRel en' c v := by
  cases c with
  | d x => exact ⟨h.1, h.2.1, by rw [S.B]; exact Rd.keep S.K x v h.2.2⟩
  | ob k => obtain ⟨h1, h2, h3⟩ := h; obtain ⟨a, b⟩ := S.β k h1; exact ⟨a, by rw [b]; exact h2, h3⟩
  | win k sz lo n => obtain ⟨h1, h2⟩ := h; obtain ⟨a, b⟩ := S.β k h1; exact ⟨a, by rw [b]; exact h2⟩
  | ref k off => obtain ⟨h1, h2⟩ := h; obtain ⟨a, b⟩ := S.β k h1; exact ⟨a, by rw [b]; exact h2⟩
  | re k sz i j => obtain ⟨h1, h2⟩ := h; obtain ⟨a, b⟩ := S.β k h1; exact ⟨a, by rw [b]; exact h2⟩
  | rd xs =>
    obtain ⟨b, off, h1, h2, h3, h4⟩ := h
    exact ⟨b, off, h1, S.K.not h3 h2, Nat.lt_of_lt_of_le h3 S.K.size, by rw [S.B]; exact RdCs.keep S.K (fun _ => S.K.cell h3 h2) xs off h4⟩

theorem CsRel.step {en en' : En} (S : Step en en') : ∀ {cs : List C} {vs : List Value}, CsRel en cs vs → CsRel en' cs vs
  | [], [], _ => trivial
  | [], _ :: _, h => h.elim
  | _ :: _, [], h => h.elim
  | _ :: _, _ :: _, h => ⟨h.1.step S, CsRel.step S h.2⟩

mutual
theorem FVRel.step {en en' : En} (S : Step en en') : ∀ (f : FV) (v : Value), FVRel en f v → FVRel en' f v
  | .c x, v, h => by simp only [FVRel] at h ⊢; exact CRel.step S h
  | .g xs, v, h => by simp only [FVRel] at h ⊢; obtain ⟨vs, h1, h2⟩ := h; exact ⟨vs, h1, h2.step S⟩
  | .t xs, v, h => by simp only [FVRel] at h ⊢; obtain ⟨vs, h1, h2⟩ := h; exact ⟨vs, h1, FVsRel.step S xs vs h2⟩
  | .und, v, h => by simpa only [FVRel] using h
theorem FVsRel.step {en en' : En} (S : Step en en') : ∀ (f : List FV) (v : List Value), FVsRel en f v → FVsRel en' f v
  | [], v, h => by simpa only [FVsRel] using h
  | x :: xs, v, h => by
    simp only [FVsRel] at h ⊢
    obtain ⟨u, r, h1, h2, h3⟩ := h
    exact ⟨u, r, h1, FVRel.step S x u h2, FVsRel.step S xs r h3⟩
end

theorem OwnRel.step {w w' : World} {B : Nat → Prop} {M M' : Nat → Prop} (K : Keeps w w' M M') {e k : Nat} {xs : List (List D)} {c : Value}
    (hb : ∀ b, blk c = some b → w'.heap[b]? = w.heap[b]?) (h : OwnRel w B M e k xs c) : OwnRel w' B M' e k xs c := by
  rcases h with h | ⟨b, cap, cur, rfl, hl, hh, h1, h2, he⟩
  · exact .inl h
  · have := hb b rfl
    exact .inr ⟨b, cap, cur, rfl, hl, by rw [this]; exact hh, h1, h2, RdEs.keep K (fun _ => World.cell?_of_block (w := w) this) xs 0 he⟩

theorem OwnRel.fp_step {w w' : World} {B : Nat → Prop} {M M' : Nat → Prop} (K : Keeps w w' M M') {e k : Nat} {xs : List (List D)} {c : Value}
    (hb : ∀ b, blk c = some b → w'.heap[b]? = w.heap[b]?) (h : OwnRel w B M e k xs c) : fp w' (.own e k xs) c = fp w (.own e k xs) c := by
  rcases h with ⟨_, rfl⟩ | ⟨b, cap, cur, rfl, hl, hh, h1, h2, he⟩
  · simp [fp]
  · have := hb b rfl
    simp only [fp]
    rw [fpEs.keep K (fun _ => World.cell?_of_block (w := w) this) xs 0 he]

theorem ObRel.step {en en' : En} (S : Step en en') {k : Nat} {o : Ob} (ho : en.ob k = some o) (hb : ∀ b, blk (en.β k) = some b → en'.w.heap[b]? = en.w.heap[b]?)
    (h : ObRel en k o) : ObRel en' k o := by
  obtain ⟨_, hβ⟩ := S.β k (by simp [ho])
  cases o with
  | dead => trivial
  | var cs =>
    obtain ⟨g, cur, T, h1, h2, h3⟩ := h
    exact ⟨g, cur, T, by rw [hβ]; exact h1, by rw [hb g (by simp [h1, blk])]; exact h2, h3.step S⟩
  | arr e s xs =>
    simp only [ObRel] at h ⊢
    rw [hβ, S.B]
    exact OwnRel.step S.K hb h
  | mp xs =>
    obtain ⟨r, es, clock, h1, h2, h3⟩ := h
    exact ⟨r, es, clock, by rw [hβ]; exact h1, by rw [hb r (by simp [h1, blk])]; exact h2, h3⟩
  | it m rem last =>
    obtain ⟨g, r, since, seen, st, h1, h2, h3, h4⟩ := h
    exact ⟨g, r, since, seen, st, by rw [hβ]; exact h1, by rw [hb g (by simp [h1, blk])]; exact h2, by rw [S.B]; exact Rd.keep S.K _ _ h3, h4⟩

theorem obFp.step {en en' : En} (S : Step en en') {k : Nat} (hs : en'.ob k = en.ob k) (hb : ∀ b, blk (en.β k) = some b → en'.w.heap[b]? = en.w.heap[b]?)
    (h : ∀ o, en.ob k = some o → ObRel en k o) : obFp en' k = obFp en k := by
  unfold obFp
  rw [hs]
  cases ho : en.ob k with
  | none => rfl
  | some o =>
    obtain ⟨_, hβ⟩ := S.β k (by simp [ho])
    have hr := h o ho
    cases o with
    | dead => rfl
    | var cs => simp only [hβ]
    | mp xs => simp only [hβ]
    | it m rem last => simp only [hβ]
    | arr e s xs =>
      simp only [ObRel] at hr
      simp only [hβ]
      exact OwnRel.fp_step S.K hb hr

def St.en (s : St) (w : World) (B : Nat → Prop) (β : Nat → Value) : En := ⟨w, B, β, lk s.ob⟩

/-- The world that a body begins in, and the blocks of it that the body may change. -/
structure Base extends World where
  X : Nat → Prop
  fix : Nat → Option Value

/-- The blocks that stay as they were. -/
def Base.arg (w0 : Base) (b : Nat) : Prop := b < w0.heap.size ∧ ¬ w0.X b
/-- The blocks that may be one's own. -/
def Base.mine (w0 : Base) (b : Nat) : Prop := w0.heap.size ≤ b ∨ w0.X b

/-- The changeable arguments have the keys below 64. -/
def Base.ok64 (w0 : Base) : Prop := ∀ k c, w0.fix k = some c → k < 64

/-- Below, and no draw is taken back. -/
structure Bel (n : Nat) (a b : World) : Prop extends Below n a b where
  drawn : a.drawn ≤ b.drawn
theorem Bel.refl (n : Nat) (w : World) : Bel n w w := ⟨Below.refl n w, Nat.le_refl _⟩
theorem Bel.alloc {n : Nat} {a b : World} (h : Bel n a b) (hn : n ≤ b.heap.size) (o : Obj) : Bel n a (b.alloc o) := ⟨h.toBelow.alloc hn o, h.drawn⟩
theorem Bel.drew {n : Nat} {a b : World} (h : Bel n a b) : Bel n a b.drew := ⟨Below.drew h.toBelow, Nat.le_succ_of_le h.drawn⟩
theorem Bel.mono {n m : Nat} {a b : World} (h : Bel n a b) (hm : m ≤ n) : Bel m a b := ⟨h.toBelow.mono hm, h.drawn⟩

structure Low (w0 : Base) (w w' : World) : Prop where
  os : w'.os = w.os
  tape : w'.tape = w.tape
  output : w'.output = w.output
  size : w.heap.size ≤ w'.heap.size
  block : ∀ k, w0.arg k → w'.heap[k]? = w.heap[k]?
  drawn : w.drawn ≤ w'.drawn

theorem Low.refl (w0 : Base) (w : World) : Low w0 w w := ⟨rfl, rfl, rfl, Nat.le_refl _, fun _ _ => rfl, Nat.le_refl _⟩
theorem Low.trans {w0 : Base} {a b c : World} (h : Low w0 a b) (k : Low w0 b c) : Low w0 a c :=
  ⟨k.os.trans h.os, k.tape.trans h.tape, k.output.trans h.output, Nat.le_trans h.size k.size, fun i hi => (k.block i hi).trans (h.block i hi), Nat.le_trans h.drawn k.drawn⟩
theorem Low.of {w0 : Base} {a b : World} (h : Bel w0.heap.size a b) : Low w0 a b := ⟨h.os, h.tape, h.output, h.size, fun k hk => h.block k hk.1, h.drawn⟩

theorem Low.news {w0 : Base} {a b : World} (h : Bel a.heap.size a b) (hs : w0.heap.size ≤ a.heap.size) : Low w0 a b := Low.of (h.mono hs)

structure Rel (N : Nat) (w0 : Base) (s : St) (a : Act) (w : World) (β : Nat → Value) : Prop where
  sz : a.tmps.size = N
  df : a.defers = []
  tm : ∀ t f, lk s.tm t = some f → FVRel (s.en w w0.arg β) f (a.tmps.getD t undef)
  ob : ∀ k o, lk s.ob k = some o → ObRel (s.en w w0.arg β) k o
  nd : ∀ k, (obFp (s.en w w0.arg β) k).Nodup
  dj : ∀ k k', k ≠ k' → ∀ b ∈ obFp (s.en w w0.arg β) k, b ∉ obFp (s.en w w0.arg β) k'
  ge : ∀ k, ∀ b ∈ obFp (s.en w w0.arg β) k, w0.mine b
  low : Low w0 w0.toWorld w
  fx : ∀ k c, w0.fix k = some c → (lk s.ob k).isSome = true ∧ β k = c

theorem Rel.live_block {N : Nat} {w0 : Base} {s : St} {a : Act} {w : World} {β : Nat → Value} (R : Rel N w0 s a w β) {k : Nat} {o : Ob} {b : Nat}
    (ho : lk s.ob k = some o) (hl : o.live = true) (hb : blk (β k) = some b) : b ∈ obFp (s.en w w0.arg β) k := mem_obFp (en := s.en w w0.arg β) ho hl hb (R.ob k o ho)

/-- A block of a live object belongs to that object alone. -/
theorem Rel.M_key {N : Nat} {w0 : Base} {s : St} {a : Act} {w : World} {β : Nat → Value} (R : Rel N w0 s a w β) {k : Nat} {b : Nat}
    (hb : b ∈ obFp (s.en w w0.arg β) k) (hm : (s.en w w0.arg β).M b) : blk (β k) = some b ∧ ∃ o, lk s.ob k = some o ∧ o.live = true := by
  obtain ⟨k', o, ho, hl, hβ⟩ := hm
  have h' := R.live_block ho hl hβ
  by_cases e : k = k'
  · subst e; exact ⟨hβ, o, ho, hl⟩
  · exact absurd h' (R.dj k k' e b hb)

theorem fp_own_blk {w : World} {e k : Nat} {xs : List (List D)} {c : Value} {b : Nat} (h : b ∈ fp w (.own e k xs) c) : ∃ a n cap, c = .slice (some a) n cap := by
  cases c with
  | slice a n cap => cases a with
    | some a => exact ⟨a, n, cap, rfl⟩
    | none => simp [fp] at h
  | _ => simp [fp] at h

theorem obFp_lt {en : En} {k : Nat} (h : ∀ o, en.ob k = some o → ObRel en k o) : ∀ b ∈ obFp en k, b < en.w.heap.size := by
  intro b hb
  unfold obFp at hb
  cases ho : en.ob k with
  | none => simp [ho] at hb
  | some o =>
    have hr := h o ho
    simp only [ho] at hb
    cases o with
    | dead => simp at hb
    | var cs =>
      obtain ⟨g, cur, T, h1, h2, _⟩ := hr
      simp [h1, blk] at hb; subst hb; exact lt_of_heap h2
    | mp xs =>
      obtain ⟨r, es, clock, h1, h2, _⟩ := hr
      simp [h1, blk] at hb; subst hb; exact lt_of_heap h2
    | it m rem last =>
      obtain ⟨g, r, since, seen, st, h1, h2, _⟩ := hr
      simp [h1, blk] at hb; subst hb; exact lt_of_heap h2
    | arr e s xs =>
      simp only [ObRel, OwnRel] at hr
      rcases hr with ⟨_, h1⟩ | ⟨g, cap, cur, h1, _, h2, _, _, h3⟩
      · rw [h1] at hb; simp [fp] at hb
      · rw [h1] at hb
        simp only [fp, List.mem_cons] at hb
        rcases hb with rfl | hb
        · exact lt_of_heap h2
        · obtain ⟨_, cur', e', h4⟩ := fpEs.mem xs 0 h3 b hb
          exact lt_of_heap h4

/-- The one law by which a state is carried over a step: what has changed is listed. -/
theorem Rel.update {N : Nat} {w0 : Base} {s s' : St} {a a' : Act} {w w' : World} {β β' : Nat → Value} (R : Rel N w0 s a w β)
    (S : Step (s.en w w0.arg β) (s'.en w' w0.arg β')) (low : Low w0 w w') (ch : List Nat)
    (same : ∀ k, k ∉ ch → lk s'.ob k = lk s.ob k ∧ ∀ o, lk s.ob k = some o → o.live = true → ∀ b, blk (β k) = some b → w'.heap[b]? = w.heap[b]?)
    (new : ∀ k ∈ ch, ∀ o, lk s'.ob k = some o → ObRel (s'.en w' w0.arg β') k o)
    (nd : ∀ k ∈ ch, (obFp (s'.en w' w0.arg β') k).Nodup)
    (dj : ∀ k ∈ ch, ∀ b ∈ obFp (s'.en w' w0.arg β') k, w0.mine b ∧ (∀ k', k' ∉ ch → b ∉ obFp (s.en w w0.arg β) k') ∧
      ∀ k' ∈ ch, k' ≠ k → b ∉ obFp (s'.en w' w0.arg β') k')
    (sz : a'.tmps.size = N) (df : a'.defers = [])
    (tm : ∀ t f, lk s'.tm t = some f → FVRel (s'.en w' w0.arg β') f (a'.tmps.getD t undef)) : Rel N w0 s' a' w' β' := by
  have hlive : ∀ k, k ∉ ch → ∀ o, lk s.ob k = some o → ObRel (s'.en w' w0.arg β') k o := by
    intro k hk o ho
    cases hl : o.live with
    | true => exact ObRel.step S (k := k) ho (fun b hb => (same k hk).2 o ho hl b hb) (R.ob k o ho)
    | false => cases o <;> simp [Ob.live] at hl; trivial
  have hfp : ∀ k, k ∉ ch → obFp (s'.en w' w0.arg β') k = obFp (s.en w w0.arg β) k := by
    intro k hk
    cases ho : lk s.ob k with
    | none =>
      have h' : lk s'.ob k = none := by rw [(same k hk).1]; exact ho
      simp [obFp, St.en, ho, h']
    | some o =>
      cases hl : o.live with
      | true => exact obFp.step S (same k hk).1 (fun b hb => (same k hk).2 o ho hl b hb) (fun o' ho' => R.ob k o' ho')
      | false =>
        have h' : lk s'.ob k = some o := by rw [(same k hk).1]; exact ho
        cases o <;> simp [Ob.live] at hl
        simp [obFp, St.en, ho, h']
  refine ⟨sz, df, tm, ?_, ?_, ?_, ?_, R.low.trans low, fun k c hk => ?_⟩
  · intro k o ho
    by_cases hk : k ∈ ch
    · exact new k hk o ho
    · exact hlive k hk o (by rw [← (same k hk).1]; exact ho)
  · intro k
    by_cases hk : k ∈ ch
    · exact nd k hk
    · rw [hfp k hk]; exact R.nd k
  · intro k k' hne b hb hb'
    by_cases hk : k ∈ ch
    · by_cases hk' : k' ∈ ch
      · exact (dj k hk b hb).2.2 k' hk' (Ne.symm hne) hb'
      · rw [hfp k' hk'] at hb'; exact (dj k hk b hb).2.1 k' hk' hb'
    · rw [hfp k hk] at hb
      by_cases hk' : k' ∈ ch
      · exact (dj k' hk' b hb').2.1 k hk hb
      · rw [hfp k' hk'] at hb'; exact R.dj k k' hne b hb hb'
  · intro k b hb
    by_cases hk : k ∈ ch
    · exact (dj k hk b hb).1
    · rw [hfp k hk] at hb; exact R.ge k b hb
  · obtain ⟨h2, h3⟩ := R.fx k c hk
    obtain ⟨h4, h5⟩ := S.β k h2
    exact ⟨h4, h5.trans h3⟩

end Go.Sm
