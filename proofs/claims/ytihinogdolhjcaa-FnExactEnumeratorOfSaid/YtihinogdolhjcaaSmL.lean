/- One operation in the symbolic state, and that the machine agrees. -/
import Derived.Test.YtihinogdolhjcaaSmKa
namespace Go.Sm
open Go.RowKit

variable {P : Program} {N : Nat} {w0 : Base} {s : St} {a : Act} {w : World} {β : Nat → Value}

inductive Ev where
  | q (p : Prop) (v : FV) (os : List (Nat × Ob))
  | el (xs : List (List D)) (i : Int)
  | ld (xs : List (List D)) (i j size : Nat) (agg : Bool)
  | call (f : Nat) (args : List FV)
  | bs (t len : Nat) (qs : List (Nat × List C))
  | ef (p : Prop) (v : FV) (os : List (Nat × Ob))
  | fail

def optF : Option FV → Ev
  | some f => .q True f []
  | none => .fail

def isNil : Operand → Bool
  | .const (.slice none 0 0) => true
  | _ => false

def evAssign (T : Tab) (ρ : Operand → Option FV) (k : Nat) (ty : TypeId) (x : Operand) : Ev :=
  match isNil x with
  | true => match lk T ty with
    | some ti => match ti.k with
      | .sl e => match lk T e with
        | some te => .q True (.c (.ob k)) [(k, .arr e te.size [])]
        | none => .fail
      | _ => optF (ρ x)
    | none => optF (ρ x)
  | false => optF (ρ x)

def partsC (ρ : Operand → Option FV) : List (Nat × Operand) → Option (List (Nat × List C))
  | [] => some []
  | (i, x) :: r => match ρ x, partsC ρ r with
    | some f, some ps => match f.cells with
      | some cs => some ((i, cs) :: ps)
      | none => none
    | _, _ => none

def evUn (op : UnOp) : FV → Option FV
  | .c (.d (.v (.bool b))) => match op with
    | .not => some (.c (.d (.v (.bool (!b)))))
    | _ => none
  | .c (.d (.v (.int k n))) => match op with
    | .neg => some (.c (.d (.v (.int k (k.wrap (0 - n))))))
    | _ => none
  | _ => none

def evConv (T : Tab) (src dst : TypeId) : FV → Option FV
  | .c (.d (.v (.int _ n))) => match lk T src, lk T dst with
    | some _, some ti => match ti.k with
      | .int k => some (.c (.d (.v (.int k (k.wrap n)))))
      | _ => none
    | _, _ => none
  | _ => none

def evLen (T : Tab) (ob : Nat → Option Ob) (t : TypeId) (x : FV) : Option FV :=
  match lk T t with
  | some ti => match ti.k, x with
    | .sl _, .c (.ob k) => match ob k with
      | some (.arr _ _ xs) => some (.c (.d (.v (.int .i64 (xs.length : Nat)))))
      | _ => none
    | .sl _, .c (.win _ _ _ n) => some (.c (.d (.v (.int .i64 (n : Nat)))))
    | .sl _, .c (.d (.vw _ _ xs)) => some (.c (.d (.v (.int .i64 (xs.length : Nat)))))
    | .mp _ _, .c (.ob k) => match ob k with
      | some (.mp m) => some (.c (.d (.v (.int .i64 (m.xs.length : Nat)))))
      | _ => none
    | .str, .c (.d (.v (.string s))) => some (.c (.d (.v (.int .i64 (s.size : Nat)))))
    | _, _ => none
  | none => none

def evMM (mx : Bool) (x y : FV) : Option FV :=
  match x, y with
  | .c (.d (.v (.int k m))), .c (.d (.v (.int _ n))) => match mx with
    | true => some (.c (.d (.v (.int k (if m < n then n else m)))))
    | false => some (.c (.d (.v (.int k (if n < m then n else m)))))
  | _, _ => none

mutual
def okNo : List (List D) → Bool
  | [] => true
  | e :: es => okNoC e && okNo es
def okNoC : List D → Bool
  | [] => true
  | x :: xs => noOwn x && okNoC xs
end

theorem okNoC_all : ∀ (xs : List D), okNoC xs = xs.all noOwn
  | [] => rfl
  | x :: xs => by simp [okNoC, okNoC_all xs]
theorem okNo_all : ∀ (xs : List (List D)), okNo xs = xs.all (fun e => e.all noOwn)
  | [] => rfl
  | x :: xs => by simp [okNo, okNo_all xs, okNoC_all]

def evApp (T : Tab) (ob : Nat → Option Ob) (k : Nat) (t t' : TypeId) (x y : FV) : Ev :=
  match Nat.beq t t', lk T t, x with
  | true, some ti, .c (.ob k1) => match ti.k, ob k1 with
    | .sl e, some (.arr e' z xs) => match lk T e with
      | some te => match Nat.beq e e' && Nat.beq z te.size with
        | true => match y with
          | .c (.ob k3) => match ob k3 with
            | some (.arr _ z' ys) => match Nat.beq z z' && !Nat.beq k1 k3 with
              | true => match okNo ys with
                | true => .ef ((xs.length + ys.length) * te.bytes ≤ 140737488355328 ∧ xs.length + ys.length ≤ 9223372036854775807) (.c (.ob k)) [(k, .arr e z (xs ++ ys)), (k1, .dead)]
                | false => .ef ((xs.length + ys.length) * te.bytes ≤ 140737488355328 ∧ xs.length + ys.length ≤ 9223372036854775807) (.c (.ob k)) [(k, .arr e z (xs ++ ys)), (k1, .dead), (k3, .dead)]
              | false => .fail
            | _ => .fail
          | .c (.d (.vw _ z' ys)) => match Nat.beq z z' && okNo ys with
            | true => .ef ((xs.length + ys.length) * te.bytes ≤ 140737488355328 ∧ xs.length + ys.length ≤ 9223372036854775807) (.c (.ob k)) [(k, .arr e z (xs ++ ys)), (k1, .dead)]
            | false => .fail
          | _ => .fail
        | false => .fail
      | none => .fail
    | _, _ => .fail
  | _, _, _ => .fail

def bnd (ρ : Operand → Option FV) (d : Int) : Option Operand → Option Int
  | none => some d
  | some x => match ρ x with
    | some (.c (.d (.v (.int _ n)))) => some n
    | _ => none

def evSlice (T : Tab) (ρ : Operand → Option FV) (ob : Nat → Option Ob) (t : TypeId) (x : FV) (lo hi : Option Operand) : Ev :=
  match lk T t with
  | some ti => match ti.k with
    | .sl e => match lk T e with
      | some te => match x with
        | .c (.d (.vw b z xs)) => match Nat.beq z te.size, bnd ρ 0 lo, bnd ρ (xs.length : Nat) hi with
          | true, some l, some h => .q (0 ≤ l ∧ l ≤ h ∧ h ≤ (xs.length : Nat)) (.c (.d (.vw b z ((xs.drop l.toNat).take (h.toNat - l.toNat))))) []
          | _, _, _ => .fail
        | .c (.ob k) => match ob k with
          | some (.arr _ z xs) => match Nat.beq z te.size, bnd ρ 0 lo, bnd ρ (xs.length : Nat) hi with
            | true, some l, some h => .q (0 ≤ l ∧ l ≤ h ∧ h ≤ (xs.length : Nat)) (.c (.win k z l.toNat (h.toNat - l.toNat))) []
            | _, _, _ => .fail
          | _ => .fail
        | _ => .fail
      | none => .fail
    | _ => .fail
  | none => .fail

def argsV (ρ : Operand → Option FV) : List Operand → Option (List FV)
  | [] => some []
  | x :: r => match ρ x, argsV ρ r with
    | some f, some fs => some (f :: fs)
    | _, _ => none

def argsR (ob : Nat → Option Ob) : List FV → Option (List RV)
  | [] => some []
  | f :: r => match argF ob f, argsR ob r with
    | some d, some ds => some (d :: ds)
    | _, _ => none

def FVsV (en : En) : List FV → List Value → Prop
  | [], vs => vs = []
  | f :: fs, vs => ∃ v q, vs = v :: q ∧ FVRel en f v ∧ FVsV en fs q

def ev (T : Tab) (E : List (Nat × Nat)) (ρ : Operand → Option FV) (ob : Nat → Option Ob) (k : Nat) (ty : TypeId) : Op → Ev
  | .move x => evAssign T ρ k ty x
  | .assign x => evAssign T ρ k ty x
  | .pick c x y => match ρ c with
    | some (.c (.d (.v (.bool true)))) => optF (ρ x)
    | some (.c (.d (.v (.bool false)))) => optF (ρ y)
    | _ => .fail
  | .alloc t => match lk T t with
    | some ti => .q True (.c (.ref k 0)) ((k, .var (zCs (k + 1) ti.zero)) :: zOs (k + 1) ti.zero)
    | none => .fail
  | .box _ x => match ρ x with
    | some f => match f.cells with
      | some cs => .q True (.c (.ref k 0)) [(k, .var cs)]
      | none => .fail
    | none => .fail
  | .build t ps => match partsC ρ ps.toList with
    | some qs => match evBuild T (k + 1) t qs with
      | some (cs, os) => .q True (.g cs) os
      | none => .fail
    | none => .fail
  | .buildSlice t len ps => match partsC ρ ps.toList with
    | some qs => match evBS T t len qs with
      | some o => .q True (.c (.ob k)) [(k, o)]
      | none => .bs t len qs
    | none => .fail
  | .load t x => match ρ x with
    | some (.c (.re k' z i j)) => match ob k', lk T t with
      | some (.arr _ z' xs), some ti => match Nat.beq z z' && Nat.ble (j + ti.size) z && (ti.k.agg || Nat.beq ti.size 1) with
        | true => .ld xs i j ti.size ti.k.agg
        | false => .fail
      | _, _ => .fail
    | some f => optF (evLoad T ob t f)
    | none => .fail
  | .store t p x => match ρ p, ρ x with
    | some f, some g => match evStore T ob t f g with
      | some (pr, k', o) => .ef pr .und [(k', o)]
      | none => .fail
    | _, _ => .fail
  | .fieldAddr t x i => match ρ x with
    | some f => optF (evFA T t i f)
    | none => .fail
  | .indexAddr t x i => match ρ x, ρ i with
    | some f, some g => match evIA T ob t f g with
      | .at p v => .q p v []
      | .el xs n => .el xs n
      | .no => .fail
    | _, _ => .fail
  | .binOp op t x y _ => match ρ x, ρ y with
    | some f, some g => match evBin T E op t f g with
      | some (p, v) => .q p v []
      | none => .fail
    | _, _ => .fail
  | .unOp op _ x => match ρ x with
    | some f => optF (evUn op f)
    | none => .fail
  | .convert src dst x => match ρ x with
    | some f => optF (evConv T src dst f)
    | none => .fail
  | .extract x i => match ρ x with
    | some (.t xs) => optF xs[i]?
    | _ => .fail
  | .makeSlice t l c => match ρ l, ρ c with
    | some f, some g => match evMake T t f g with
      | some (p, o) => .q p (.c (.ob k)) [(k, o)]
      | none => .fail
    | _, _ => .fail
  | .slice t x lo hi none => match ρ x with
    | some f => evSlice T ρ ob t f lo hi
    | none => .fail
  | .nilCheck x => match ρ x with
    | some (.c (.ref k' off)) => .q True (.c (.ref k' off)) []
    | some (.c (.re k' z i j)) => .q True (.c (.re k' z i j)) []
    | some (.c (.rd xs)) => .q True (.c (.rd xs)) []
    | _ => .fail
  | .makeMap t none => match evMM' T E t with
    | some m => .q True (.c (.ob k)) [(k, .mp m)]
    | none => .fail
  | .lookup t x i co => match ρ x, ρ i with
    | some f, some g => optF (evLk T E ob t f g co)
    | _, _ => .fail
  | .mapUpdate t m i x => match ρ m, ρ i, ρ x with
    | some f, some g, some h => match evMU T E ob t f g h with
      | some (k', o) => .ef True .und [(k', o)]
      | none => .fail
    | _, _, _ => .fail
  | .insert t m i x => match ρ m, ρ i, ρ x with
    | some f, some g, some h => match evMU T E ob t f g h with
      | some (k', o) => .ef True .und [(k', o)]
      | none => .fail
    | _, _, _ => .fail
  | .mapEntry t m i => match ρ m, ρ i with
    | some f, some g => match evME T E ob t f g with
      | some (v, k', o) => .ef True v [(k', o)]
      | none => .fail
    | _, _ => .fail
  | .entryStore _ m i x => match ρ m, ρ i, ρ x with
    | some f, some g, some h => match evES ob f g h with
      | some (p, k', o) => .ef p .und [(k', o)]
      | none => .fail
    | _, _, _ => .fail
  | .range t x => match ρ x with
    | some f => match evRg T E t f with
      | some m => .q True (.c (.ref k 0)) [(k, .it m m.xs none)]
      | none => .fail
    | none => .fail
  | .entry x => match ρ x with
    | some f => optF (evEn ob f)
    | none => .fail
  | .call c => match c.callee, c.args.toList, c.argTypes.toList with
    | .builtin .len, [x], [t] => match ρ x with
      | some f => optF (evLen T ob t f)
      | none => .fail
    | .builtin .append, [x, y], [t, t'] => match ρ x, ρ y with
      | some f, some g => evApp T ob k t t' f g
      | _, _ => .fail
    | .builtin .min, [x, y], _ => match ρ x, ρ y with
      | some f, some g => optF (evMM false f g)
      | _, _ => .fail
    | .builtin .max, [x, y], _ => match ρ x, ρ y with
      | some f, some g => optF (evMM true f g)
      | _, _ => .fail
    | .value f, args, _ => match ρ f with
      | some (.c (.d (.v (.func (.func g) fst cap)))) => match fst.size, cap.size with
        | 0, 0 => match argsV ρ args with
          | some rs => .call g rs
          | none => .fail
        | _, _ => .fail
      | _ => .fail
    | _, _, _ => .fail
  | _ => .fail

def ldV (e : List D) (j size : Nat) (agg : Bool) : FV :=
  match agg with
  | true => .g ((locCs ((e.drop j).take size)).map C.d)
  | false => match (e.drop j).take size with
    | [x] => .c (.d x.loc)
    | _ => .und

/-- What is asked of a quiet operation. -/
def QOk (P : Program) (N : Nat) (w0 : Base) (s : St) (a : Act) (w : World) (o : Oper) (v : FV) (os : List (Nat × Ob)) : Prop :=
  ∃ val w' β', (execOp a.eval o).run P w = .ok (.value val) w' ∧ Rel N w0 ⟨s.tm, os ++ s.ob⟩ a w' β' ∧ FVRel (St.en ⟨s.tm, os ++ s.ob⟩ w' w0.arg β') v val

theorem QOk.same (R : Rel N w0 s a w β) {o : Oper} {v : FV} {val : Value} (h : (execOp a.eval o).run P w = .ok (.value val) w) (hv : FVRel (s.en w w0.arg β) v val) :
    QOk P N w0 s a w o v [] := ⟨val, w, β, h, R, hv⟩

theorem optF_q {o : Option FV} {p : Prop} {v : FV} {os : List (Nat × Ob)} (h : optF o = .q p v os) : o = some v ∧ os = [] := by
  cases o with
  | none => simp [optF] at h
  | some f => simp only [optF, Ev.q.injEq] at h; obtain ⟨_, rfl, rfl⟩ := h; exact ⟨rfl, rfl⟩

theorem evAssign_sound {T : Tab} {o : Oper} {x : Operand} (ho : o.op = .move x ∨ o.op = .assign x) (R : Rel N w0 s a w β) {k : Nat} {p : Prop} {v : FV} {os : List (Nat × Ob)}
    (h : evAssign T s.opd k o.type x = .q p v os) (hf : freshOs s.ob os = true) : QOk P N w0 s a w o v os := by
  have hrun : (execOp a.eval o).run P w = .ok (.value (a.eval x)) w := by rcases ho with ho | ho <;> simp [execOp, ho]
  have hopt : ∀ v, s.opd x = some v → QOk P N w0 s a w o v [] := fun v hv => QOk.same R hrun (R.opd hv)
  unfold evAssign at h
  split at h
  · rename_i hn
    split at h
    · split at h
      · split at h
        · simp only [Ev.q.injEq] at h
          obtain ⟨_, rfl, rfl⟩ := h
          simp only [freshOs, Bool.and_eq_true, Option.isNone_iff_eq_none] at hf
          have hx : x = .const nilV := by
            unfold isNil at hn
            split at hn
            · rfl
            · cases hn
          subst hx
          exact ⟨_, w, _, hrun, R.addNil hf.2, by simp [FVRel, CRel, St.en, lk_cons_self, upd_self, Act.eval, Value.oneCell']⟩
        · cases h
      · obtain ⟨h', rfl⟩ := optF_q h; exact hopt _ h'
    · obtain ⟨h', rfl⟩ := optF_q h; exact hopt _ h'
  · obtain ⟨h', rfl⟩ := optF_q h; exact hopt _ h'

theorem partsC_rel (R : Rel N w0 s a w β) : ∀ {ps : List (Nat × Operand)} {qs : List (Nat × List C)}, partsC s.opd ps = some qs →
    PartsRel (s.en w w0.arg β) qs (ps.map fun x => (x.1, a.eval x.2))
  | [], qs, h => by simp [partsC] at h; subst h; trivial
  | (i, x) :: ps, qs, h => by
    simp only [partsC] at h
    split at h
    · rename_i f qs' hf hq
      split at h
      · rename_i cs hcs
        simp only [Option.some.injEq] at h; subst h
        exact ⟨rfl, FV.cells_rel hcs (R.opd hf), partsC_rel R hq⟩
      · cases h
    · cases h

theorem evUn_sound {en : En} {w : World} {op : UnOp} {x f : FV} {u : Value} (h : evUn op x = some f) (hx : FVRel en x u) : ∃ val, (Op.unary op u).run P w = .ok val w ∧ FVRel en f val := by
  unfold evUn at h
  split at h
  · split at h
    · simp only [Option.some.injEq] at h; subst h
      obtain rfl := bool_rel hx
      exact ⟨_, by simp [Op.unary], rel_bool _⟩
    · cases h
  · split at h
    · simp only [Option.some.injEq] at h; subst h
      obtain rfl := int_rel hx
      exact ⟨_, by simp [Op.unary, Op.intArith], rel_int _ _⟩
    · cases h
  · cases h

theorem evConv_sound {T : Tab} (hT : TabOk P T) {en : En} {w : World} {src dst : TypeId} {x f : FV} {u : Value} (h : evConv T src dst x = some f) (hx : FVRel en x u) :
    ∃ val, (convert src dst u).run P w = .ok val w ∧ FVRel en f val := by
  unfold evConv at h
  split at h
  · rename_i k' n
    obtain rfl := int_rel hx
    split at h
    · rename_i ts ti hs hd
      split at h
      · rename_i k hk
        simp only [Option.some.injEq] at h; subst h
        obtain ⟨ds, hds, _⟩ := (hT src ts hs).desc
        have hdd := (hT dst ti hd).int hk
        refine ⟨_, ?_, rel_int _ _⟩
        simp [convert, run_underlying hds, run_underlying hdd, Conv.intToInt]
      · cases h
    · cases h
  · cases h

theorem evLen_sound {T : Tab} (hT : TabOk P T) (R : Rel N w0 s a w β) {t ty : TypeId} {x f : FV} {u : Value} (h : evLen T (lk s.ob) t x = some f) (hx : FVRel (s.en w w0.arg β) x u) :
    ∃ val, (Builtin.len_ #[t] ty #[u]).run P w = .ok val w ∧ FVRel (s.en w w0.arg β) f val := by
  unfold evLen at h
  split at h
  · rename_i ti hti
    have hty := hT t ti hti
    split at h
    · rename_i e k hk
      have hu := hty.sl hk
      split at h
      · rename_i e' z xs hob
        simp only [Option.some.injEq] at h; subst h
        simp only [FVRel, CRel] at hx
        obtain ⟨_, rfl, _⟩ := hx
        have hr : OwnRel w w0.arg (s.en w w0.arg β).M e' z xs (β k) := R.ob k _ hob
        show ∃ val, (Builtin.len_ #[t] ty #[β k]).run P w = _ ∧ _
        rcases hr with ⟨rfl, h⟩ | ⟨g, cap, cur, h, _⟩
        · rw [h]; exact ⟨_, by simp [Builtin.len_, run_underlying hu, nilV, goInt], rel_int _ _⟩
        · rw [h]; exact ⟨_, by simp [Builtin.len_, run_underlying hu, goInt], rel_int _ _⟩
      · cases h
    · rename_i e k z lo n hk
      have hu := hty.sl hk
      simp only [Option.some.injEq] at h; subst h
      simp only [FVRel, CRel] at hx
      rcases hx.2 with ⟨_, rfl, rfl⟩ | ⟨g, M, cap, off, c', _, rfl, _⟩
      · exact ⟨_, by simp [Builtin.len_, run_underlying hu, nilV, goInt], rel_int _ _⟩
      · exact ⟨_, by simp [Builtin.len_, run_underlying hu, goInt], rel_int _ _⟩
    · rename_i e b z xs hk
      have hu := hty.sl hk
      simp only [Option.some.injEq] at h; subst h
      simp only [FVRel, CRel, Rd] at hx
      rcases hx.2.2 with ⟨rfl, rfl⟩ | ⟨b, off, cap, rfl, _⟩
      · exact ⟨_, by simp [Builtin.len_, run_underlying hu, nilV, goInt], rel_int _ _⟩
      · exact ⟨_, by simp [Builtin.len_, run_underlying hu, goInt], rel_int _ _⟩
    · rename_i ke e k hk
      have hu := hty.mp hk
      split at h
      · rename_i xs hob
        simp only [Option.some.injEq] at h; subst h
        simp only [FVRel, CRel] at hx
        obtain ⟨_, rfl, _⟩ := hx
        obtain ⟨r, es, clock, h1, h2, h3, _⟩ := R.ob k _ hob
        have h1' : β k = .map (some r) := h1
        have h2' : w.heap[r]? = some (.map es clock) := h2
        show ∃ val, (Builtin.len_ #[t] ty #[β k]).run P w = _ ∧ _
        rw [h1']
        have hl : xs.xs.length = es.size := by rw [← Array.length_toList, h3]; simp [MD.ents]
        exact ⟨goInt es.size, by simp [Builtin.len_, run_underlying hu, getObj, Sem.run, h2'], by rw [hl]; exact rel_int _ _⟩
      · cases h
    · rename_i st hk
      have hu := hty.str hk
      simp only [Option.some.injEq] at h; subst h
      obtain rfl := val_rel hx
      exact ⟨_, by simp [Builtin.len_, run_underlying hu, goInt], rel_int _ _⟩
    · cases h
  · cases h

theorem evMM_sound {en : En} {w : World} {x y f : FV} {u v : Value} {ts : Array TypeId} {t : TypeId} {mx : Bool} (h : evMM mx x y = some f) (hx : FVRel en x u) (hy : FVRel en y v) :
    ∃ val, (match mx with | true => Builtin.max_ ts t #[u, v] | false => Builtin.min_ ts t #[u, v]).run P w = .ok val w ∧ FVRel en f val := by
  unfold evMM at h
  split at h
  · obtain rfl := int_rel hx
    obtain rfl := int_rel hy
    split at h
    · simp only [Option.some.injEq] at h; subst h
      exact ⟨_, run_max_int2 _ _ _ _ _ _ _, rel_int _ _⟩
    · simp only [Option.some.injEq] at h; subst h
      exact ⟨_, run_min_int2 _ _ _ _ _ _ _, rel_int _ _⟩
  · cases h

theorem bnd_rel (R : Rel N w0 s a w β) {d l : Int} {x : Option Operand} (h : bnd s.opd d x = some l) : (x = none ∧ l = d) ∨ ∃ y k, x = some y ∧ a.eval y = .int k l := by
  cases x with
  | none => simp [bnd] at h; exact .inl ⟨rfl, h.symm⟩
  | some y =>
    simp only [bnd] at h
    split at h
    · rename_i k n hq
      simp only [Option.some.injEq] at h; subst h
      exact .inr ⟨y, k, rfl, int_rel (R.opd hq)⟩
    · cases h

theorem run_slice_bounds {len cap : Nat} {lo hi : Option Value} {l h : Int} (hlc : len ≤ cap) (hl : (lo = none ∧ l = 0) ∨ ∃ k, lo = some (.int k l)) (hh : (hi = none ∧ h = len) ∨ ∃ k, hi = some (.int k h))
    (h0 : 0 ≤ l) (h1 : l ≤ h) (h2 : h ≤ len) : (Instr.sliceBounds true len cap lo hi none).run P w = .ok (l.toNat, h.toNat, cap) w := by
  have hb : ∀ (k : IntKind) (n : Int) (y : Nat) (c : BoundsCode), 0 ≤ n → n ≤ y → (Instr.sliceBound (.int k n) y c).run P w = .ok n.toNat w := by
    intro k n y c a1 a2
    simp [Instr.sliceBound, asIntOf, a1, a2]
  rcases hl with ⟨rfl, rfl⟩ | ⟨kl, rfl⟩ <;> rcases hh with ⟨rfl, rfl⟩ | ⟨kh, rfl⟩
  · simp [Instr.sliceBounds]
  · simp [Instr.sliceBounds, hb kh h cap _ (by omega) (by omega)]
  · simp [Instr.sliceBounds, hb kl l len _ (by omega) (by omega)]
  · have e : ((h.toNat : Nat) : Int) = h := by omega
    simp [Instr.sliceBounds, hb kh h cap _ (by omega) (by omega), hb kl l h.toNat _ (by omega) (by omega)]

theorem evSlice_sound {T : Tab} (hT : TabOk P T) (R : Rel N w0 s a w β) {o : Oper} {t : TypeId} {x : Operand} {lo hi : Option Operand} (ho : o.op = .slice t x lo hi none) {f v : FV} {p : Prop} {os : List (Nat × Ob)}
    (hx : s.opd x = some f) (h : evSlice T s.opd (lk s.ob) t f lo hi = .q p v os) (hp : p) : QOk P N w0 s a w o v os := by
  have hf := R.opd hx
  unfold evSlice at h
  split at h
  · rename_i ti hti
    split at h
    · rename_i e hk
      have hu := (hT t ti hti).sl hk
      split at h
      · rename_i te hte
        have hs := fun w => (hT e te hte).sizeOf w
        have hrun : ∀ (b off len cap : Nat) (l h : Int), len ≤ cap → a.eval x = .slice (some ⟨b, off, none⟩) len cap → bnd s.opd 0 lo = some l → bnd s.opd (len : Nat) hi = some h → 0 ≤ l → l ≤ h → h ≤ (len : Nat) →
            (execOp a.eval o).run P w = .ok (.value (.slice (some (if cap = l.toNat then ⟨b, off, none⟩ else ⟨b, off + l.toNat * te.size, none⟩)) (h.toNat - l.toNat) (cap - l.toNat))) w := by
          intro b off len cap l h hlc hxe hlo hhi h0 h1 h2
          have hlo' : (lo.map a.eval = none ∧ l = 0) ∨ ∃ k, lo.map a.eval = some (.int k l) := by
            rcases bnd_rel R hlo with ⟨rfl, rfl⟩ | ⟨y, k, rfl, hy⟩
            · exact .inl ⟨rfl, rfl⟩
            · exact .inr ⟨k, by simp [hy]⟩
          have hhi' : (hi.map a.eval = none ∧ h = len) ∨ ∃ k, hi.map a.eval = some (.int k h) := by
            rcases bnd_rel R hhi with ⟨rfl, rfl⟩ | ⟨y, k, rfl, hy⟩
            · exact .inl ⟨rfl, rfl⟩
            · exact .inr ⟨k, by simp [hy]⟩
          have hb := run_slice_bounds (P := P) (w := w) hlc hlo' hhi' h0 h1 h2
          simp [execOp, ho, Instr.sliceAt, run_underlying hu, Instr.slice, hxe, hb, hs, Addr.add_lit]
          split <;> rfl
        have hnil : ∀ (l h : Int), a.eval x = nilV → bnd s.opd 0 lo = some l → bnd s.opd ((0 : Nat) : Int) hi = some h → 0 ≤ l → l ≤ h → h ≤ ((0 : Nat) : Int) → (execOp a.eval o).run P w = .ok (.value nilV) w := by
          intro l h hxe hlo hhi h0 h1 h2
          have hlo' : (lo.map a.eval = none ∧ l = 0) ∨ ∃ k, lo.map a.eval = some (.int k l) := by
            rcases bnd_rel R hlo with ⟨rfl, rfl⟩ | ⟨y, k, rfl, hy⟩
            · exact .inl ⟨rfl, rfl⟩
            · exact .inr ⟨k, by simp [hy]⟩
          have hhi' : (hi.map a.eval = none ∧ h = ((0 : Nat) : Int)) ∨ ∃ k, hi.map a.eval = some (.int k h) := by
            rcases bnd_rel R hhi with ⟨rfl, rfl⟩ | ⟨y, k, rfl, hy⟩
            · exact .inl ⟨rfl, rfl⟩
            · exact .inr ⟨k, by simp [hy]⟩
          have hb := run_slice_bounds (P := P) (w := w) (Nat.le_refl 0) hlo' hhi' h0 h1 h2
          have e1 : l.toNat = 0 := by omega
          have e2 : h.toNat = 0 := by omega
          simp [execOp, ho, Instr.sliceAt, run_underlying hu, Instr.slice, hxe, nilV, hb, hs, e1, e2]
        split at h
        · rename_i bb z xs
          split at h
          · rename_i l hh hz hlo hhi
            obtain rfl := nat_beq hz
            simp only [Ev.q.injEq] at h
            obtain ⟨rfl, rfl, rfl⟩ := h
            obtain ⟨h0, h1, h2⟩ := hp
            simp only [FVRel, CRel, Rd] at hf
            obtain ⟨_, _, hf⟩ := hf
            rcases hf with ⟨rfl, he⟩ | ⟨b, off, cap, he, q1, q2, q3, q4, q5⟩
            · refine QOk.same R (hnil l hh he hlo hhi h0 h1 h2) ?_
              simp [FVRel, CRel, Rd, D.isOwn, nilV, Value.oneCell']
            · refine QOk.same R (hrun b off _ cap l hh q1 he hlo hhi h0 h1 h2) ?_
              simp only [FVRel, CRel, Rd]
              refine ⟨rfl, rfl, .inr ?_⟩
              have hlen : ((xs.drop l.toNat).take (hh.toNat - l.toNat)).length = hh.toNat - l.toNat := by simp; omega
              split
              · rename_i hc
                refine ⟨b, off, cap - l.toNat, by rw [hlen], by rw [hlen]; omega, q2, q3, q4, ?_⟩
                have : (xs.drop l.toNat).take (hh.toNat - l.toNat) = [] := List.eq_nil_of_length_eq_zero (by rw [hlen]; omega)
                rw [this]; simp only [RdEs]
              · exact ⟨b, _, cap - l.toNat, by rw [hlen], by rw [hlen]; omega, q2, q3, q4, (q5.dropE l.toNat).takeE _⟩
          · cases h
        · rename_i k
          split at h
          · rename_i e' z xs hob
            split at h
            · rename_i l hh hz hlo hhi
              obtain rfl := nat_beq hz
              simp only [Ev.q.injEq] at h
              obtain ⟨rfl, rfl, rfl⟩ := h
              obtain ⟨h0, h1, h2⟩ := hp
              simp only [FVRel, CRel] at hf
              obtain ⟨hk1, he, _⟩ := hf
              have hr : OwnRel w w0.arg (s.en w w0.arg β).M e' te.size xs (β k) := R.ob k _ hob
              have he' : a.eval x = β k := he
              rcases hr with ⟨rfl, hβ⟩ | ⟨g, cap, cur, hβ, q1, q2, q3, q4, q5⟩
              · rw [hβ] at he'
                refine QOk.same R (hnil l hh he' hlo hhi h0 h1 h2) ?_
                simp only [FVRel, CRel]
                exact ⟨hk1, .inl ⟨hβ, by simp at h2; omega, trivial⟩⟩
              · rw [hβ] at he'
                refine QOk.same R (hrun g 0 _ cap l hh q1 he' hlo hhi h0 h1 h2) ?_
                simp only [FVRel, CRel]
                refine ⟨hk1, ?_⟩
                split
                · exact .inr ⟨g, _, cap, 0, cap - l.toNat, hβ, by simp, .inl (by omega), by omega, by omega⟩
                · exact .inr ⟨g, _, cap, l.toNat * te.size, cap - l.toNat, hβ, by simp, .inr rfl, by omega, by omega⟩
            · cases h
          · cases h
        · cases h
      · cases h
    · cases h
  · cases h

end Go.Sm
