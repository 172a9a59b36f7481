/- Addresses, integers, comparisons and the like in the symbolic state, and that the machine agrees. -/
import Derived.Test.YtihinogdolhjcaaSmD
namespace Go.Sm
open Go.RowKit

variable {P : Program} {N : Nat} {w0 : Base} {s : St} {a : Act} {w : World} {β : Nat → Value}

theorem RdCs.drop {w : World} {B : Nat → Prop} {M : Nat → Prop} {b : Nat} : ∀ (n : Nat) (xs : List D) (off : Nat), RdCs w B M xs b off → RdCs w B M (xs.drop n) b (off + n)
  | 0, xs, off, h => by simpa using h
  | n + 1, [], off, h => by simp [RdCs]
  | n + 1, x :: xs, off, h => by
    simp only [RdCs] at h
    have := RdCs.drop n xs (off + 1) h.2
    simpa [Nat.add_comm, Nat.add_left_comm, Nat.add_assoc] using this

theorem RdEs.get {w : World} {B : Nat → Prop} {M : Nat → Prop} {b k : Nat} : ∀ (i : Nat) (xs : List (List D)) (off : Nat) (e : List D), RdEs w B M k xs b off → xs[i]? = some e →
    e.length = k ∧ RdCs w B M e b (off + i * k)
  | 0, [], _, _, _, h => by simp at h
  | 0, x :: xs, off, e, h, he => by
    simp only [RdEs] at h; simp at he; subst he
    exact ⟨h.1, by simpa using h.2.1⟩
  | i + 1, [], _, _, _, h => by simp at h
  | i + 1, x :: xs, off, e, h, he => by
    simp only [RdEs] at h
    obtain ⟨h1, h2⟩ := RdEs.get i xs (off + k) e h.2.2 (by simpa using he)
    refine ⟨h1, ?_⟩
    rw [show off + (i + 1) * k = off + k + i * k by rw [Nat.add_mul]; omega]
    exact h2

def evFA (T : Tab) (t fld : Nat) (x : FV) : Option FV :=
  match lk T t with
  | some ti => match ti.k with
    | .st fs => match fs[fld]? with
      | some (o, some (_ + 1)) => match x with
        | .c (.ref k off) => some (.c (.ref k (off + o)))
        | .c (.re k sz i j) => some (.c (.re k sz i (j + o)))
        | .c (.rd xs) => some (.c (.rd (xs.drop o)))
        | _ => none
      | _ => none
    | _ => none
  | none => none

theorem evFA_sound {T : Tab} (hT : TabOk P T) {en : En} {w : World} {t fld : Nat} {f f' : FV} {v : Value} (h : evFA T t fld f = some f') (hf : FVRel en f v) :
    ∃ val, (Instr.fieldAt t v fld).run P w = .ok val w ∧ FVRel en f' val := by
  unfold evFA at h
  split at h
  · rename_i ti hti
    split at h
    · rename_i fs hk
      obtain ⟨fa, hu, hfs⟩ := (hT t ti hti).st hk
      split at h
      · rename_i o n hfld
        rw [← hfs, List.getElem?_map] at hfld
        cases hq : fa.toList[fld]? with
        | none => simp [hq] at hfld
        | some fd =>
          simp only [hq, Option.map_some, Option.some.injEq, Prod.mk.injEq] at hfld
          obtain ⟨rfl, hsz⟩ := hfld
          have hq' : fa[fld]? = some fd := by simpa using hq
          have hrun : ∀ b off, (Instr.fieldAt t (.pointer (some ⟨b, off, none⟩)) fld).run P w = .ok (.pointer (some ⟨b, off + fd.offset, none⟩)) w := by
            intro b off
            cases hi : P.info? fd.type with
            | none => simp [hi] at hsz
            | some i =>
              simp only [hi, Option.map_some, Option.some.injEq] at hsz
              simp [Instr.fieldAt, run_underlying hu, hq', Instr.sureAddr, fieldPlace, Go.sizeOf, typeInfo, hi, hsz, Addr.add_lit]
          split at h
          · rename_i k off
            simp only [Option.some.injEq] at h; subst h
            simp only [FVRel, CRel] at hf ⊢
            obtain ⟨h1, g, h2, rfl⟩ := hf
            exact ⟨_, hrun _ _, h1, g, h2, rfl⟩
          · rename_i k sz i j
            simp only [Option.some.injEq] at h; subst h
            simp only [FVRel, CRel] at hf ⊢
            obtain ⟨h1, g, M, cap, h2, rfl⟩ := hf
            exact ⟨_, hrun _ _, h1, g, M, cap, h2, by rw [Nat.add_assoc]⟩
          · rename_i xs
            simp only [Option.some.injEq] at h; subst h
            simp only [FVRel, CRel] at hf ⊢
            obtain ⟨b, off, rfl, h1, h2, h3⟩ := hf
            exact ⟨_, hrun _ _, b, _, rfl, h1, h2, h3.drop _⟩
          · cases h
      · cases h
    · cases h
  · cases h

/-- An element's address: of an array, of an array of one's own, of a view (there the element's cells come with it: 'el'). -/
inductive IA where
  | at (p : Prop) (f : FV)
  | el (xs : List (List D)) (i : Int)
  | no

def evIA (T : Tab) (ob : Nat → Option Ob) (t : Nat) (x : FV) (i : FV) : IA :=
  match lk T t, i with
  | some ti, .c (.d (.v (.int _ n))) => match ti.k with
    | .ar len e => match lk T e with
      | some te => match x with
        | .c (.ref k off) => .at (0 ≤ n ∧ n < len) (.c (.ref k (off + n.toNat * te.size)))
        | .c (.re k sz i j) => .at (0 ≤ n ∧ n < len) (.c (.re k sz i (j + n.toNat * te.size)))
        | .c (.rd xs) => .at (0 ≤ n ∧ n < len) (.c (.rd (xs.drop (n.toNat * te.size))))
        | _ => .no
      | none => .no
    | .sl e => match lk T e with
      | some te => match x with
        | .c (.ob k) => match ob k with
          | some (.arr _ z xs) => match Nat.beq z te.size with
            | true => .at (0 ≤ n ∧ n < xs.length) (.c (.re k z n.toNat 0))
            | false => .no
          | _ => .no
        | .c (.win k z lo m) => match Nat.beq z te.size with
            | true => .at (0 ≤ n ∧ n < m) (.c (.re k z (lo + n.toNat) 0))
            | false => .no
        | .c (.d (.vw _ z xs)) => match Nat.beq z te.size with
            | true => .el xs n
            | false => .no
        | _ => .no
      | none => .no
    | _ => .no
  | _, _ => .no

theorem int_rel {en : En} {k : IntKind} {n : Int} {v : Value} (h : FVRel en (.c (.d (.v (.int k n)))) v) : v = .int k n := by
  simp only [FVRel, CRel, Rd] at h; exact h.2.2.1
theorem bool_rel {en : En} {b : Bool} {v : Value} (h : FVRel en (.c (.d (.v (.bool b)))) v) : v = .bool b := by
  simp only [FVRel, CRel, Rd] at h; exact h.2.2.1
theorem val_rel {en : En} {x v : Value} (h : FVRel en (.c (.d (.v x))) v) : v = x := by
  simp only [FVRel, CRel, Rd] at h; exact h.2.2.1
theorem rel_val {en : En} {x : Value} (h : x.oneCell' = true) : FVRel en (.c (.d (.v x))) x := by
  simp only [FVRel, CRel, Rd]; exact ⟨rfl, h, trivial, h⟩
theorem rel_int {en : En} (k : IntKind) (n : Int) : FVRel en (.c (.d (.v (.int k n)))) (.int k n) := rel_val rfl
theorem rel_bool {en : En} (b : Bool) : FVRel en (.c (.d (.v (.bool b)))) (.bool b) := rel_val rfl

theorem evIA_at {T : Tab} (hT : TabOk P T) (R : Rel N w0 s a w β) {t : Nat} {x i f' : FV} {p : Prop} {v u : Value} (h : evIA T (lk s.ob) t x i = .at p f') (hp : p)
    (hx : FVRel (s.en w w0.arg β) x v) (hi : FVRel (s.en w w0.arg β) i u) : ∃ val, (Instr.indexAt t v u).run P w = .ok val w ∧ FVRel (s.en w w0.arg β) f' val := by
  unfold evIA at h
  split at h
  · rename_i ti k n hti
    obtain rfl := int_rel hi
    split at h
    · rename_i len e hk
      have hu := (hT t ti hti).ar hk
      split at h
      · rename_i te hte
        have hs := fun w => (hT e te hte).sizeOf w
        have hrun : ∀ b off, 0 ≤ n ∧ n < len → (Instr.indexAt t (.pointer (some ⟨b, off, none⟩)) (.int k n)).run P w = .ok (.pointer (some ⟨b, off + n.toNat * te.size, none⟩)) w := by
          intro b off hb
          simp [Instr.indexAt, run_underlying hu, asIntOf, Instr.sureAddr, hb, hs, Addr.add_lit]
        split at h
        · simp only [IA.at.injEq] at h; obtain ⟨rfl, rfl⟩ := h
          simp only [FVRel, CRel] at hx ⊢
          obtain ⟨h1, g, h2, rfl⟩ := hx
          exact ⟨_, hrun _ _ hp, h1, g, h2, rfl⟩
        · simp only [IA.at.injEq] at h; obtain ⟨rfl, rfl⟩ := h
          simp only [FVRel, CRel] at hx ⊢
          obtain ⟨h1, g, M, cap, h2, rfl⟩ := hx
          exact ⟨_, hrun _ _ hp, h1, g, M, cap, h2, by rw [Nat.add_assoc]⟩
        · simp only [IA.at.injEq] at h; obtain ⟨rfl, rfl⟩ := h
          simp only [FVRel, CRel] at hx ⊢
          obtain ⟨b, off, rfl, h1, h2, h3⟩ := hx
          exact ⟨_, hrun _ _ hp, b, _, rfl, h1, h2, h3.drop _⟩
        · cases h
      · cases h
    · rename_i e hk
      have hu := (hT t ti hti).sl hk
      split at h
      · rename_i te hte
        have hs := fun w => (hT e te hte).sizeOf w
        have hrun : ∀ b off m c, 0 ≤ n ∧ n < (m : Nat) → (Instr.indexAt t (.slice (some ⟨b, off, none⟩) m c) (.int k n)).run P w = .ok (.pointer (some ⟨b, off + n.toNat * te.size, none⟩)) w := by
          intro b off m c hb
          simp [Instr.indexAt, run_underlying hu, asIntOf, hb, hs, Addr.add_lit]
        split at h
        · rename_i key
          split at h
          · rename_i e' z xs hob
            split at h
            · rename_i hz
              obtain rfl := nat_beq hz
              simp only [IA.at.injEq] at h; obtain ⟨rfl, rfl⟩ := h
              simp only [FVRel, CRel] at hx ⊢
              obtain ⟨h1, rfl, _⟩ := hx
              have hr := R.ob key _ hob
              simp only [ObRel, OwnRel] at hr
              rcases hr with ⟨rfl, _⟩ | ⟨g, cap, cur, h2, _⟩
              · simp at hp; omega
              · refine ⟨.pointer (some ⟨g, 0 + n.toNat * te.size, none⟩), ?_, h1, g, _, cap, h2, by simp⟩
                rw [h2]; exact hrun _ _ _ _ hp
            · cases h
          · cases h
        · rename_i key z lo m
          split at h
          · rename_i hz
            obtain rfl := nat_beq hz
            simp only [IA.at.injEq] at h; obtain ⟨rfl, rfl⟩ := h
            simp only [FVRel, CRel] at hx ⊢
            obtain ⟨h1, h2⟩ := hx
            rcases h2 with ⟨_, rfl, rfl⟩ | ⟨g, M, cap, off, c', h2, rfl, h0, h3, h4⟩
            · simp at hp; omega
            · obtain rfl : off = lo * te.size := h0.resolve_left (by omega)
              exact ⟨_, hrun _ _ _ _ hp, h1, g, M, cap, h2, by simp [Nat.add_mul]⟩
          · cases h
        · split at h <;> cases h
        · cases h
      · cases h
    · cases h
  · cases h

theorem evIA_el {T : Tab} (hT : TabOk P T) {en : En} {w : World} {t : Nat} {x i : FV} {xs : List (List D)} {n : Int} {v u : Value} (h : evIA T (fun k => en.ob k) t x i = .el xs n)
    (hp : 0 ≤ n ∧ n < xs.length) (hx : FVRel en x v) (hi : FVRel en i u) :
    ∃ val, (Instr.indexAt t v u).run P w = .ok val w ∧ ∀ e, xs[n.toNat]? = some e → FVRel en (.c (.rd e)) val := by
  unfold evIA at h
  split at h
  · rename_i ti k n' hti
    obtain rfl := int_rel hi
    split at h
    · split at h
      · split at h <;> cases h
      · cases h
    · rename_i e hk
      have hu := (hT t ti hti).sl hk
      split at h
      · rename_i te hte
        have hs := fun w => (hT e te hte).sizeOf w
        split at h
        · split at h
          · split at h <;> cases h
          · cases h
        · split at h <;> cases h
        · rename_i ar z xs'
          split at h
          · rename_i hz
            obtain rfl := nat_beq hz
            simp only [IA.el.injEq] at h; obtain ⟨rfl, rfl⟩ := h
            simp only [FVRel, CRel, Rd] at hx
            obtain ⟨_, _, hx⟩ := hx
            rcases hx with ⟨rfl, _⟩ | ⟨b, off, cap, rfl, h1, h2, h3, _, h4⟩
            · simp at hp; omega
            · refine ⟨_, by simp [Instr.indexAt, run_underlying hu, asIntOf, hp, hs, Addr.add_lit]; rfl, fun e he => ?_⟩
              simp only [FVRel, CRel]
              exact ⟨b, _, rfl, h2, h3, (RdEs.get _ _ _ _ h4 he).2⟩
          · cases h
        · cases h
      · cases h
    · cases h
  · cases h

/-! ### integers, bools -/

def evInt (op : BinOp) (k : IntKind) (x y : Int) : Option (Prop × Value) :=
  match op with
  | .add => some (True, .int k (k.wrap (x + y)))
  | .sub => some (True, .int k (k.wrap (x - y)))
  | .mul => some (True, .int k (k.wrap (x * y)))
  | .quo => some (y ≠ 0, .int k (k.wrap (x.tdiv y)))
  | .rem => some (y ≠ 0, .int k (x.tmod y))
  | .and => some (True, .int k (k.wrap ((BitVec.ofInt k.bits x) &&& (BitVec.ofInt k.bits y)).toNat))
  | .or => some (True, .int k (k.wrap ((BitVec.ofInt k.bits x) ||| (BitVec.ofInt k.bits y)).toNat))
  | .xor => some (True, .int k (k.wrap ((BitVec.ofInt k.bits x) ^^^ (BitVec.ofInt k.bits y)).toNat))
  | .eql => some (True, .bool (x == y))
  | .neq => some (True, .bool (x != y))
  | .lss => some (True, .bool (decide (x < y)))
  | .leq => some (True, .bool (decide (x ≤ y)))
  | .gtr => some (True, .bool (decide (y < x)))
  | .geq => some (True, .bool (decide (y ≤ x)))
  | _ => none

theorem evInt_sound {op : BinOp} {k : IntKind} {x y : Int} {p : Prop} {u : Value} {t : TypeId} (h : evInt op k x y = some (p, u)) (hp : p) (w : World) :
    (binOp op t (.int k x) (.int k y)).run P w = .ok u w ∧ u.oneCell' = true := by
  cases op <;> simp only [evInt, Option.some.injEq, Prod.mk.injEq, reduceCtorEq] at h <;> obtain ⟨rfl, rfl⟩ := h <;> refine ⟨?_, rfl⟩ <;>
    simp_all [binOp_add, binOp_sub, binOp_mul, binOp_quo, binOp_rem, binOp_and, binOp_or, binOp_xor, binOp_eql, binOp_neq, binOp_lss, binOp_leq, binOp_gtr, binOp_geq,
      Op.intArith, Op.intDiv, Op.intBits]

/-- Comparable cells: integers of one kind each, and whether they are equal. -/
def eqCs : List C → List C → Option Bool
  | [], [] => some true
  | .d (.v (.int k x)) :: xs, .d (.v (.int k' y)) :: ys => match decide (k = k'), eqCs xs ys with
    | true, some b => some ((x == y) && b)
    | _, _ => none
  | _, _ => none

def eqVs : List Value → List Value → Option Bool
  | [], [] => some true
  | .int k x :: xs, .int k' y :: ys => match decide (k = k'), eqVs xs ys with
    | true, some b => some ((x == y) && b)
    | _, _ => none
  | _, _ => none

/-- Structs and arrays of integers, compared: cell by cell. -/
def EqOk (P : Program) (t : TypeId) (n : Nat) : Prop :=
  P.eqGuardType P.depth t = false ∧ (∀ (w : World) (xs ys : List Value) (b : Bool), xs.length = n → eqVs xs ys = some b → (Op.equal t (.agg xs.toArray) (.agg ys.toArray)).run P w = .ok b w) ∧
  ∀ (em : Bool) (w : World) (kk : IntKind) (k : List Int), k.length = n → (Instr.checkKey em 10000 t (MD.keyV kk k)).run P w = .ok () w

theorem eqCs_vs {en : En} : ∀ {xs ys : List C} {us vs : List Value} {b : Bool}, CsRel en xs us → CsRel en ys vs → eqCs xs ys = some b → eqVs us vs = some b
  | [], [], us, vs, b, h1, h2, h => by
    cases us <;> cases vs <;> simp_all [CsRel, eqCs, eqVs]
  | x :: xs, [], us, vs, b, _, _, h => by simp [eqCs] at h
  | [], y :: ys, us, vs, b, _, _, h => by simp [eqCs] at h
  | x :: xs, y :: ys, [], _, _, h, _, _ => h.elim
  | x :: xs, y :: ys, _ :: _, [], _, _, h, _ => h.elim
  | x :: xs, y :: ys, u :: us, v :: vs, b, h1, h2, h => by
    unfold eqCs at h
    split at h
    · rename_i heq1 heq2; cases heq1
    · rename_i k p xs' k' q ys' heq1 heq2
      obtain ⟨rfl, rfl⟩ := List.cons.inj heq1
      obtain ⟨rfl, rfl⟩ := List.cons.inj heq2
      obtain ⟨hx, hxs⟩ := h1
      obtain ⟨hy, hys⟩ := h2
      simp only [CRel, Rd] at hx hy
      obtain ⟨_, _, rfl, _⟩ := hx
      obtain ⟨_, _, rfl, _⟩ := hy
      split at h
      · rename_i b' hd hq
        have := eqCs_vs hxs hys hq
        simp only [eqVs, this, hd]; exact h
      · cases h
    · cases h

def evBin (T : Tab) (E : List (Nat × Nat)) (op : BinOp) (t : Nat) (x y : FV) : Option (Prop × FV) :=
  match x, y with
  | .c (.d (.v (.int k m))), .c (.d (.v (.int k' n))) => match op with
    | .shl => some (0 ≤ n, .c (.d (.v (.int k (k.wrap (m * 2 ^ (min n.toNat k.bits)))))))
    | .shr => some (0 ≤ n, .c (.d (.v (.int k (m.fdiv (2 ^ (min n.toNat k.bits)))))))
    | _ => match decide (k = k') with
      | true => match evInt op k m n with
        | some (p, u) => some (p, .c (.d (.v u)))
        | none => none
      | false => none
  | .c (.d (.v (.bool m))), .c (.d (.v (.bool n))) => match lk T t with
    | some ti => match ti.k with
      | .bool => match op with
        | .eql => some (True, .c (.d (.v (.bool (m == n)))))
        | .neq => some (True, .c (.d (.v (.bool (!(m == n))))))
        | _ => none
      | _ => none
    | none => none
  | .c (.d (.v (.string m))), .c (.d (.v (.string n))) => match op with
      | .eql => some (True, .c (.d (.v (.bool (m == n)))))
      | .neq => some (True, .c (.d (.v (.bool (!(m == n))))))
      | _ => none
  | .g xs, .g ys => match lk E t with
    | some n => match Nat.beq xs.length n, eqCs xs ys with
      | true, some b => match op with
        | .eql => some (True, .c (.d (.v (.bool b))))
        | .neq => some (True, .c (.d (.v (.bool (!b)))))
        | _ => none
      | _, _ => none
    | none => none
  | _, _ => none

theorem run_eqGuard_ok {op : BinOp} {t : TypeId} {x y : Operand} {u v : Value} (w : World) (h : (∃ xs ys, u = .agg xs ∧ v = .agg ys ∧ P.eqGuardType P.depth t = false) ∨
    (∃ k n, u = .int k n) ∨ (∃ b, u = .bool b) ∨ (∃ s, u = .string s)) : (eqGuard op t x y u v).run P w = .ok () w := by
  rcases h with ⟨xs, ys, rfl, rfl, h⟩ | ⟨k, n, rfl⟩ | ⟨b, rfl⟩ | ⟨s, rfl⟩
  · exact run_eqGuard_agg w op t x y xs ys h
  · rw [eqGuard_at_int]; rfl
  · rw [eqGuard_at_bool]; rfl
  · rw [eqGuard_at_string]; rfl

theorem evBin_sound {T : Tab} {E : List (Nat × Nat)} (hT : TabOk P T) (hE : ∀ t n, lk E t = some n → EqOk P t n) {en : En} {w : World} {op : BinOp} {t : Nat} {x y f : FV} {p : Prop} {u v : Value}
    (h : evBin T E op t x y = some (p, f)) (hp : p) (hx : FVRel en x u) (hy : FVRel en y v) (ox oy : Operand) :
    ∃ val, (do eqGuard op t ox oy u v; binOp op t u v : Sem Value).run P w = .ok val w ∧ FVRel en f val := by
  unfold evBin at h
  split at h
  · rename_i k m k' n
    obtain rfl := int_rel hx
    obtain rfl := int_rel hy
    have hg : (eqGuard op t ox oy (.int k m) (.int k' n)).run P w = .ok () w := run_eqGuard_ok w (.inr (.inl ⟨k, m, rfl⟩))
    split at h
    · simp only [Option.some.injEq, Prod.mk.injEq] at h; obtain ⟨rfl, rfl⟩ := h
      refine ⟨_, ?_, rel_int _ _⟩
      have : ¬ n < 0 := by omega
      simp [hg, binOp_shl, Op.shift, this]
    · simp only [Option.some.injEq, Prod.mk.injEq] at h; obtain ⟨rfl, rfl⟩ := h
      refine ⟨_, ?_, rel_int _ _⟩
      have : ¬ n < 0 := by omega
      simp [hg, binOp_shr, Op.shift, this]
    · split at h
      · rename_i hk
        have hk := of_decide_eq_true hk
        subst hk
        split at h
        · rename_i p' u' hq
          simp only [Option.some.injEq, Prod.mk.injEq] at h; obtain ⟨rfl, rfl⟩ := h
          obtain ⟨h1, h2⟩ := evInt_sound (P := P) (t := t) hq hp w
          exact ⟨_, by simp [hg, h1], rel_val h2⟩
        · cases h
      · cases h
  · rename_i m n
    obtain rfl := bool_rel hx
    obtain rfl := bool_rel hy
    have hg : (eqGuard op t ox oy (.bool m) (.bool n)).run P w = .ok () w := run_eqGuard_ok w (.inr (.inr (.inl ⟨m, rfl⟩)))
    split at h
    · rename_i ti hti
      split at h
      · rename_i hk
        have hu := (hT t ti hti).bool hk
        split at h
        · simp only [Option.some.injEq, Prod.mk.injEq] at h; obtain ⟨rfl, rfl⟩ := h
          exact ⟨_, by simp [hg, run_eql_bool w t m n hu], rel_bool _⟩
        · simp only [Option.some.injEq, Prod.mk.injEq] at h; obtain ⟨rfl, rfl⟩ := h
          exact ⟨_, by simp [hg, run_neq_bool w t m n hu], rel_bool _⟩
        · cases h
      · cases h
    · cases h
  · rename_i m n
    obtain rfl := val_rel hx
    obtain rfl := val_rel hy
    have hg : (eqGuard op t ox oy (.string m) (.string n)).run P w = .ok () w := run_eqGuard_ok w (.inr (.inr (.inr ⟨m, rfl⟩)))
    split at h
    · simp only [Option.some.injEq, Prod.mk.injEq] at h; obtain ⟨rfl, rfl⟩ := h
      exact ⟨_, by simp [hg, binOp, Op.stringOp, beq_toListBytes], rel_bool _⟩
    · simp only [Option.some.injEq, Prod.mk.injEq] at h; obtain ⟨rfl, rfl⟩ := h
      exact ⟨_, by simp [hg, binOp, Op.stringOp, beq_toListBytes], rel_bool _⟩
    · cases h
  · rename_i xs ys
    split at h
    · rename_i n hEt
      obtain ⟨hgd, heq, _⟩ := hE t n hEt
      split at h
      · rename_i b hn hb
        have hn := nat_beq hn
        simp only [FVRel] at hx hy
        obtain ⟨us, rfl, hus⟩ := hx
        obtain ⟨vs, rfl, hvs⟩ := hy
        have hl : us.length = n := by rw [← hus.length]; exact hn
        have hr := heq w us vs b hl (eqCs_vs hus hvs hb)
        have hg : (eqGuard op t ox oy (.agg us.toArray) (.agg vs.toArray)).run P w = .ok () w := run_eqGuard_ok w (.inl ⟨_, _, rfl, rfl, hgd⟩)
        split at h
        · simp only [Option.some.injEq, Prod.mk.injEq] at h; obtain ⟨rfl, rfl⟩ := h
          exact ⟨_, by simp [hg, binOp, hr], rel_bool _⟩
        · simp only [Option.some.injEq, Prod.mk.injEq] at h; obtain ⟨rfl, rfl⟩ := h
          exact ⟨_, by simp [hg, binOp, hr], rel_bool _⟩
        · cases h
      · cases h
    · cases h
  · cases h

end Go.Sm
