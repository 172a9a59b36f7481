/- The code of a function in the symbolic state: conditions over pure data from which the contract follows. -/
import Derived.Test.YtihinogdolhjcaaSmM
import Derived.Tactics
namespace Go.Sm
open Go.RowKit

variable {P : Program} {N : Nat} {w0 : Base} {s : St} {a : Act} {w : World} {β : Nat → Value}

inductive It where
  | code (c : Code)
  | ops (all : Array Oper) (l : List Oper)
  | blk (id : Nat)
  | inv (p : St → Prop)

def cont (P : Program) (N : Nat) (w0 : Base) (Q : Exit → Act → World → Prop) : List It → Exit → Act → World → Prop
  | [], e, a, w => Q e a w
  | .code c :: k, .normal, a, w => c.wp P (cont P N w0 Q k) a w
  | .ops all l :: k, .normal, a, w => wpList P all (cont P N w0 Q k) l a w
  | .blk id :: k, .exit id', a, w => if id' = id then cont P N w0 Q k .normal a w else cont P N w0 Q k (.exit id') a w
  | .inv p :: _, .normal, a, w => ∃ s β, p s ∧ Rel N w0 s a w β
  | _ :: k, e, a, w => cont P N w0 Q k e a w

/-- Whatever frame and world fit the symbolic state: the rest of the code comes to the end asked for. -/
def J (P : Program) (N : Nat) (w0 : Base) (Q : Exit → Act → World → Prop) (k : List It) (s : St) : Prop :=
  ∀ a w β, Rel N w0 s a w β → cont P N w0 Q k .normal a w

def unw (id : Nat) : List It → Option (List It)
  | [] => none
  | .blk id' :: k => match Nat.beq id id' with
    | true => some k
    | false => unw id k
  | _ :: k => unw id k

def St.put (s : St) (d : Option Tmp) (f : FV) : St :=
  match d with
  | some d => ⟨(d, f) :: s.tm, s.ob⟩
  | none => s

/-- The results of a function in the symbolic state. -/
def resC (T : Tab) (s : St) : ResultVar → Option FV
  | .tmp t => lk s.tm t
  | .cell p ty => match lk s.tm p with
    | some f => match f with
      | .c (.ref k off) => evLoad T (lk s.ob) ty (.c (.ref k off))
      | _ => none
    | none => none

def expC (ob : Nat → Option Ob) : C → Option (D × List Nat)
  | .d (.v x) => some (.v x, [])
  | .ob k => match ob k with
    | some (.arr e z xs) => some (.own e z xs, [k])
    | _ => none
  | _ => none
def expCs (ob : Nat → Option Ob) : List C → Option (List D × List Nat)
  | [] => some ([], [])
  | c :: cs => match expC ob c, expCs ob cs with
    | some (d, k), some (ds, ks) => some (d :: ds, k ++ ks)
    | _, _ => none
def expF (ob : Nat → Option Ob) : FV → Option ((Bool × List D) × List Nat)
  | .c x => match expC ob x with
    | some (d, k) => some ((false, [d]), k)
    | none => none
  | .g xs => match expCs ob xs with
    | some (ds, k) => some ((true, ds), k)
    | none => none
  | _ => none
def expRs (T : Tab) (s : St) : List ResultVar → Option (List (Bool × List D) × List Nat)
  | [] => some ([], [])
  | r :: rs => match resC T s r with
    | some f => match expF (lk s.ob) f, expRs T s rs with
      | some (p, k), some (ps, ks) => some (p :: ps, k ++ ks)
      | _, _ => none
    | none => none
def toRV : List (Bool × List D) → RV
  | [(false, [d])] => .one d
  | [(true, ds)] => .agg ds
  | ps => .tup ps

/-- What a body leaves: its result; and the new contents of the arguments that it may change, by key. -/
structure Res where
  r : RV
  outs : List (Nat × D)

def expOs (ob : Nat → Option Ob) : List (Nat × D) → Option (List D)
  | [] => some []
  | (k, _) :: r => match ob k, expOs ob r with
    | some (.arr e z xs), some ds => some (.own e z xs :: ds)
    | _, _ => none

/-- At the end: the results are these data, made of objects of the function's own, each once. -/
def RetVC (T : Tab) (rs : List ResultVar) (r : Res) (s : St) : Prop :=
  match expRs T s rs, expOs (lk s.ob) r.outs with
  | some (ps, ks), some ds => (r.outs.map (·.1) ++ ks).Nodup ∧ freshCs ds = true ∧ freshCs (ps.flatMap (·.2)) = true ∧ toRV ps = r.r ∧ ds = r.outs.map (·.2)
  | _, _ => False

/-- A result, and the changed arguments: their memory is one's own, and no two parts share. -/
def OwnR (w : World) (w0 : Base) (r : Res) (v : Value) : Prop :=
  ∃ us vs, RShape r.r v vs ∧ us.map some = r.outs.map (fun p => w0.fix p.1) ∧ freshCs (r.outs.map (·.2) ++ cellsR r.r) = true ∧
    DsV (Rd w (fun _ => False) fun _ => False) (r.outs.map (·.2) ++ cellsR r.r) (us ++ vs) ∧
    (fpDs w (r.outs.map (·.2) ++ cellsR r.r) (us ++ vs)).Nodup ∧ ∀ b ∈ fpDs w (r.outs.map (·.2) ++ cellsR r.r) (us ++ vs), w0.mine b

structure Fn where
  P : Program
  T : Tab
  E : List (Nat × Nat)
  N : Nat
  rs : List ResultVar

def Fn.post (F : Fn) (w0 : Base) (r : Res) (fn : Func) : Exit → Act → World → Prop :=
  bodyPost F.P fn fun e w' => ∃ v, e = .returned v ∧ OwnR w' w0 r v ∧ Low w0 w0.toWorld w'

/-- A call: it comes back, and the rest goes on. -/
def CallW (P : Program) (N : Nat) (w0 : Base) (Q : Exit → Act → World → Prop) (k : List It) (s : St) (d : Nat) (f : FuncId) (fs : List FV) : Prop :=
  Entered P f ∧ ∀ a w β, Rel N w0 s a w β → ∀ vs, FVsV (s.en w w0.arg β) fs vs →
    Calls P f vs.toArray w fun e w' => ∃ v, e = .returned v ∧ ∃ s' β', Rel N w0 s' (a.put (some d) v) w' β' ∧ J P N w0 Q k s'

/-- A slice's literal that takes arrays of one's own in: the rest goes on. -/
def BsW (P : Program) (N : Nat) (w0 : Base) (Q : Exit → Act → World → Prop) (k : List It) (s : St) (d t len : Nat) (qs : List (Nat × List C)) : Prop :=
  ∀ a w β, Rel N w0 s a w β → ∀ vs, PartsRel (s.en w w0.arg β) qs vs →
    ∃ val w' s' β', (Instr.buildSlice t len vs.toArray).run P w = .ok val w' ∧ Rel N w0 s' (a.put (some d) val) w' β' ∧ J P N w0 Q k s'

/-- An operation with a rule of its own: it is carried out, and the rest goes on. -/
def OpW (P : Program) (N : Nat) (w0 : Base) (Q : Exit → Act → World → Prop) (all : Array Oper) (os : List Oper) (k : List It) (s : St) (o : Oper) : Prop :=
  ∀ a w β, Rel N w0 s a w β → o.wp P a w (wpList P all (cont P N w0 Q k) os) (cont P N w0 Q k)

/-- A key for what an operation makes. -/
def base : List (Nat × Ob) → Nat → Nat
  | [], d => d * 64
  | (k, _) :: r, d => match Nat.beq (k / 64) d with
    | true => max (k + 1) (base r d)
    | false => base r d

/-- The end of a round. -/
def InvW (p : St → Prop) (s : St) : Prop := p s

/-- What simp is to leave alone. -/
def Later (p : Prop) : Prop := p
theorem Later.mk {p : Prop} (h : p) : Later p := h
@[simp] theorem later_true : Later True := trivial
@[congr] theorem Later.weak (p : Prop) : Later p = Later p := rfl

/-- Two ways to go on. -/
def br (b w : Bool) (A B : Prop) : Prop := Later (b = w → A) ∧ Later (b = (!w) → B)

def vc (F : Fn) (w0 : Base) (Q : Exit → Act → World → Prop) (r : Res) : Nat → List It → St → Prop
  | 0, k, s => J F.P F.N w0 Q k s
  | _ + 1, [], s => RetVC F.T F.rs r s
  | n + 1, .code c :: k, s => match c with
    | .skip => vc F w0 Q r n k s
    | .seq x y => vc F w0 Q r n (.code x :: .code y :: k) s
    | .block id c => vc F w0 Q r n (.code c :: .blk id :: k) s
    | .exit id => match unw id k with
      | some k' => vc F w0 Q r n k' s
      | none => False
    | .cond c x y => match s.opd c with
      | some (.c (.d (.v (.bool b)))) => br b true (vc F w0 Q r n (.code x :: k) s) (vc F w0 Q r n (.code y :: k) s)
      | _ => False
    | .region _ ops false => vc F w0 Q r n (.ops ops ops.toList :: k) s
    | .ret => RetVC F.T F.rs r s
    | c => J F.P F.N w0 Q (.code c :: k) s
  | n + 1, .blk _ :: k, s => vc F w0 Q r n k s
  | _ + 1, .inv p :: _, s => InvW p s
  | n + 1, .ops _ [] :: k, s => vc F w0 Q r n k s
  | n + 1, .ops all (o :: os) :: k, s =>
    let go (s : St) : Prop := match o.dst with
      | some d => Nat.blt d F.N = true ∧ match ev F.T F.E s.opd (lk s.ob) (base s.ob d) o.type o.op with
        | .q p v ns => p ∧ freshOs s.ob ns = true ∧ vc F w0 Q r n (.ops all os :: k) ⟨(d, v) :: s.tm, ns ++ s.ob⟩
        | .el xs i => (0 ≤ i ∧ i < xs.length) ∧ Later (∀ e, xs[i.toNat]? = some e → vc F w0 Q r n (.ops all os :: k) ⟨(d, .c (.rd e)) :: s.tm, s.ob⟩)
        | .ld xs i j size agg => i < xs.length ∧ Later (∀ e, xs[i]? = some e → vc F w0 Q r n (.ops all os :: k) ⟨(d, ldV e j size agg) :: s.tm, s.ob⟩)
        | .call f fs => CallW F.P F.N w0 Q (.ops all os :: k) s d f fs
        | .bs t len qs => BsW F.P F.N w0 Q (.ops all os :: k) s d t len qs
        | .ef p v ns => p ∧ (lk s.ob (base s.ob d)).isNone = true ∧ vc F w0 Q r n (.ops all os :: k) ⟨(d, v) :: s.tm, ns ++ s.ob⟩
        | .fail => OpW F.P F.N w0 Q all os k s o
      | none => match ev F.T F.E s.opd (lk s.ob) 0 o.type o.op with
        | .ef p .und ns => p ∧ vc F w0 Q r n (.ops all os :: k) ⟨s.tm, ns ++ s.ob⟩
        | _ => OpW F.P F.N w0 Q all os k s o
    match o.guard with
    | none => go s
    | some (j, want) => match (all[j]?).bind (·.dst) with
      | some d => match lk s.tm d with
        | some (.c (.d (.v (.bool b)))) => br b want (go ⟨(d, .c (.d (.v (.bool want)))) :: s.tm, s.ob⟩)
            (vc F w0 Q r n (.ops all os :: k) ((⟨(d, .c (.d (.v (.bool (!want))))) :: s.tm, s.ob⟩ : St).put o.dst .und))
        | some .und => vc F w0 Q r n (.ops all os :: k) (s.put o.dst .und)
        | _ => False
      | none => False

end Go.Sm
