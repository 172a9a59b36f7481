/- Towards the rows of this seat: what the functions do, as contracts over plain data. -/
import Derived.Tactics
import Derived.Test.YtemedeiolhgoeaaPkQrCountOrbitsBK0
namespace Go.Sm
open Go.RowKit

variable {P : Program} {N : Nat} {w0 : Base} {s : St} {a : Act} {w : World} {β : Nat → Value}

def optF : Option FV → Ev
  | some f => .q True f []
  | none => .fail

def isNil : Operand → Bool
  | .const (.slice none 0 0) => true
  | _ => false

def evAssign (T : Tab) (ρ : Operand → Option FV) (k : Nat) (ty : TypeId) (x : Operand) : Ev :=
  match isNil x with
  | true => match lk T ty with
    | some ti => match ti.k with
      | .sl e => match lk T e with
        | some te => .q True (.c (.ob k)) [(k, .arr e te.size [])]
        | none => .fail
      | _ => optF (ρ x)
    | none => optF (ρ x)
  | false => optF (ρ x)

def partsC (ρ : Operand → Option FV) : List (Nat × Operand) → Option (List (Nat × List C))
  | [] => some []
  | (i, x) :: r => match ρ x, partsC ρ r with
    | some f, some ps => match f.cells with
      | some cs => some ((i, cs) :: ps)
      | none => none
    | _, _ => none

def evUn (op : UnOp) : FV → Option FV
  | .c (.d (.v (.bool b))) => match op with
    | .not => some (.c (.d (.v (.bool (!b)))))
    | _ => none
  | .c (.d (.v (.int k n))) => match op with
    | .neg => some (.c (.d (.v (.int k (k.wrap (0 - n))))))
    | _ => none
  | _ => none

def evConv (T : Tab) (src dst : TypeId) : FV → Option FV
  | .c (.d (.v (.int _ n))) => match lk T src, lk T dst with
    | some _, some ti => match ti.k with
      | .int k => some (.c (.d (.v (.int k (k.wrap n)))))
      | _ => none
    | _, _ => none
  | _ => none

def evLen (T : Tab) (ob : Nat → Option Ob) (t : TypeId) (x : FV) : Option FV :=
  match lk T t with
  | some ti => match ti.k, x with
    | .sl _, .c (.ob k) => match ob k with
      | some (.arr _ _ xs) => some (.c (.d (.v (.int .i64 (xs.length : Nat)))))
      | _ => none
    | .sl _, .c (.win _ _ _ n) => some (.c (.d (.v (.int .i64 (n : Nat)))))
    | .sl _, .c (.d (.vw _ _ xs)) => some (.c (.d (.v (.int .i64 (xs.length : Nat)))))
    | .mp _ _, .c (.ob k) => match ob k with
      | some (.mp m) => some (.c (.d (.v (.int .i64 (m.xs.length : Nat)))))
      | _ => none
    | .str, .c (.d (.v (.string s))) => some (.c (.d (.v (.int .i64 (s.size : Nat)))))
    | _, _ => none
  | none => none

def evMM (mx : Bool) (x y : FV) : Option FV :=
  match x, y with
  | .c (.d (.v (.int k m))), .c (.d (.v (.int _ n))) => match mx with
    | true => some (.c (.d (.v (.int k (if m < n then n else m)))))
    | false => some (.c (.d (.v (.int k (if n < m then n else m)))))
  | _, _ => none

def evApp (T : Tab) (ob : Nat → Option Ob) (k : Nat) (t t' : TypeId) (x y : FV) : Ev :=
  match Nat.beq t t', lk T t, x with
  | true, some ti, .c (.ob k1) => match ti.k, ob k1 with
    | .sl e, some (.arr e' z xs) => match lk T e with
      | some te => match Nat.beq e e' && Nat.beq z te.size with
        | true => match y with
          | .c (.ob k3) => match ob k3 with
            | some (.arr _ z' ys) => match Nat.beq z z' && !Nat.beq k1 k3 with
              | true => match okNo ys with
                | true => .ef ((xs.length + ys.length) * te.bytes ≤ 140737488355328 ∧ xs.length + ys.length ≤ 9223372036854775807) (.c (.ob k)) [(k, .arr e z (xs ++ ys)), (k1, .dead)]
                | false => .ef ((xs.length + ys.length) * te.bytes ≤ 140737488355328 ∧ xs.length + ys.length ≤ 9223372036854775807) (.c (.ob k)) [(k, .arr e z (xs ++ ys)), (k1, .dead), (k3, .dead)]
              | false => .fail
            | _ => .fail
          | .c (.d (.vw _ z' ys)) => match Nat.beq z z' && okNo ys with
            | true => .ef ((xs.length + ys.length) * te.bytes ≤ 140737488355328 ∧ xs.length + ys.length ≤ 9223372036854775807) (.c (.ob k)) [(k, .arr e z (xs ++ ys)), (k1, .dead)]
            | false => .fail
          | _ => .fail
        | false => .fail
      | none => .fail
    | _, _ => .fail
  | false, some ti, .c (.ob k1) => match ti.k, ob k1, y with
    | .sl e, some (.arr e' z xs), .c (.d (.v (.int _ n))) => match lk T e, lk T t' with
      | some te, some ti' => match ti'.k, Nat.beq e e' && Nat.beq z te.size with
        | .int _, true => .ef (0 ≤ n ∧ (xs.length + n.toNat) * te.bytes ≤ 140737488355328 ∧ xs.length + n.toNat ≤ 9223372036854775807) (.c (.ob k)) [(k, .arr e z (xs ++ List.replicate n.toNat (te.zero.map Z.toD))), (k1, .dead)]
        | _, _ => .fail
      | _, _ => .fail
    | _, _, _ => .fail
  | _, _, _ => .fail

def bnd (ρ : Operand → Option FV) (d : Int) : Option Operand → Option Int
  | none => some d
  | some x => match ρ x with
    | some (.c (.d (.v (.int _ n)))) => some n
    | _ => none

def evSlice (T : Tab) (ρ : Operand → Option FV) (ob : Nat → Option Ob) (t : TypeId) (x : FV) (lo hi : Option Operand) : Ev :=
  match lk T t with
  | some ti => match ti.k with
    | .sl e => match lk T e with
      | some te => match x with
        | .c (.d (.vw b z xs)) => match Nat.beq z te.size, bnd ρ 0 lo, bnd ρ (xs.length : Nat) hi with
          | true, some l, some h => .q (0 ≤ l ∧ l ≤ h ∧ h ≤ (xs.length : Nat)) (.c (.d (.vw b z ((xs.drop l.toNat).take (h.toNat - l.toNat))))) []
          | _, _, _ => .fail
        | .c (.ob k) => match ob k with
          | some (.arr _ z xs) => match Nat.beq z te.size, bnd ρ 0 lo, bnd ρ (xs.length : Nat) hi with
            | true, some l, some h => .q (0 ≤ l ∧ l ≤ h ∧ h ≤ (xs.length : Nat)) (.c (.win k z l.toNat (h.toNat - l.toNat))) []
            | _, _, _ => .fail
          | _ => .fail
        | _ => .fail
      | none => .fail
    | .ar len e => match lk T e with
      | some te => match x, lo, hi with
        | .c (.rd xs), none, none => match Nat.beq te.size 1, Nat.ble len xs.length, Nat.ble 1 len with
          | true, true, true => .q True (.c (.d (.vw false 1 ((xs.take len).map fun d => [d])))) []
          | _, _, _ => .fail
        | _, _, _ => .fail
      | none => .fail
    | _ => .fail
  | none => .fail

def argsV (ρ : Operand → Option FV) : List Operand → Option (List FV)
  | [] => some []
  | x :: r => match ρ x, argsV ρ r with
    | some f, some fs => some (f :: fs)
    | _, _ => none

def argsR (ob : Nat → Option Ob) : List FV → Option (List RV)
  | [] => some []
  | f :: r => match argF ob f, argsR ob r with
    | some d, some ds => some (d :: ds)
    | _, _ => none

def FVsV (en : En) : List FV → List Value → Prop
  | [], vs => vs = []
  | f :: fs, vs => ∃ v q, vs = v :: q ∧ FVRel en f v ∧ FVsV en fs q

def ev (T : Tab) (E : List (Nat × Nat)) (ρ : Operand → Option FV) (ob : Nat → Option Ob) (k : Nat) (ty : TypeId) : Op → Ev
  | .move x => evAssign T ρ k ty x
  | .assign x => evAssign T ρ k ty x
  | .pick c x y => match ρ c with
    | some (.c (.d (.v (.bool true)))) => optF (ρ x)
    | some (.c (.d (.v (.bool false)))) => optF (ρ y)
    | _ => .fail
  | .alloc t => match lk T t with
    | some ti => .q True (.c (.ref k 0)) ((k, .var (zCs (k + 1) ti.zero)) :: zOs (k + 1) ti.zero)
    | none => .fail
  | .box _ x => match ρ x with
    | some f => match f.cells with
      | some cs => .q True (.c (.ref k 0)) [(k, .var cs)]
      | none => .fail
    | none => .fail
  | .build t ps => match partsC ρ ps.toList with
    | some qs => match evBuild T (k + 1) t qs with
      | some (cs, os) => .q True (.g cs) os
      | none => .fail
    | none => .fail
  | .buildSlice t len ps => match partsC ρ ps.toList with
    | some qs => match evBS T t len qs with
      | some o => .q True (.c (.ob k)) [(k, o)]
      | none => .bs t len qs
    | none => .fail
  | .load t x => match ρ x with
    | some (.c (.re k' z i j)) => match ob k', lk T t with
      | some (.arr _ z' xs), some ti => match Nat.beq z z' && Nat.ble (j + ti.size) z && (ti.k.agg || Nat.beq ti.size 1) with
        | true => .ld xs i j ti.size ti.k.agg
        | false => .fail
      | _, _ => .fail
    | some f => optF (evLoad T ob t f)
    | none => .fail
  | .store t p x => match ρ p, ρ x with
    | some f, some g => match evStore T ob t f g with
      | some (pr, k', o) => .ef pr .und [(k', o)]
      | none => .fail
    | _, _ => .fail
  | .fieldAddr t x i => match ρ x with
    | some f => optF (evFA T t i f)
    | none => .fail
  | .field t x i => match ρ x with
    | some f => optF (evFd T t i f)
    | none => .fail
  | .indexAddr t x i => match ρ x, ρ i with
    | some f, some g => match evIA T ob t f g with
      | .at p v => .q p v []
      | .el xs n => .el xs n
      | .no => .fail
    | _, _ => .fail
  | .binOp op t x y _ => match ρ x, ρ y with
    | some f, some g => match evBin T E op t f g with
      | some (p, v) => .q p v []
      | none => .fail
    | _, _ => .fail
  | .unOp op _ x => match ρ x with
    | some f => optF (evUn op f)
    | none => .fail
  | .convert src dst x => match ρ x with
    | some f => optF (evConv T src dst f)
    | none => .fail
  | .extract x i => match ρ x with
    | some (.t xs) => optF xs[i]?
    | _ => .fail
  | .makeSlice t l c => match ρ l, ρ c with
    | some f, some g => match evMake T t f g with
      | some (p, o) => .q p (.c (.ob k)) [(k, o)]
      | none => .fail
    | _, _ => .fail
  | .slice t x lo hi none => match ρ x with
    | some f => evSlice T ρ ob t f lo hi
    | none => .fail
  | .nilCheck x => match ρ x with
    | some (.c (.ref k' off)) => .q True (.c (.ref k' off)) []
    | some (.c (.re k' z i j)) => .q True (.c (.re k' z i j)) []
    | some (.c (.rd xs)) => .q True (.c (.rd xs)) []
    | _ => .fail
  | .makeMap t none => match evMM' T E t with
    | some m => .q True (.c (.ob k)) [(k, .mp m)]
    | none => .fail
  | .lookup t x i co => match ρ x, ρ i with
    | some f, some g => optF (evLk T E ob t f g co)
    | _, _ => .fail
  | .mapUpdate t m i x => match ρ m, ρ i, ρ x with
    | some f, some g, some h => match evMU T E ob t f g h with
      | some (k', o) => .ef True .und [(k', o)]
      | none => .fail
    | _, _, _ => .fail
  | .insert t m i x => match ρ m, ρ i, ρ x with
    | some f, some g, some h => match evMU T E ob t f g h with
      | some (k', o) => .ef True .und [(k', o)]
      | none => .fail
    | _, _, _ => .fail
  | .mapEntry t m i => match ρ m, ρ i with
    | some f, some g => match evME T E ob t f g with
      | some (v, k', o) => .ef True v [(k', o)]
      | none => .fail
    | _, _ => .fail
  | .entryStore _ m i x => match ρ m, ρ i, ρ x with
    | some f, some g, some h => match evES ob f g h with
      | some (p, k', o) => .ef p .und [(k', o)]
      | none => .fail
    | _, _, _ => .fail
  | .range t x => match ρ x with
    | some f => match evRg T E t f with
      | some m => .q True (.c (.ref k 0)) [(k, .it m m.xs none)]
      | none => .fail
    | none => .fail
  | .entry x => match ρ x with
    | some f => optF (evEn ob f)
    | none => .fail
  | .call c => match c.callee, c.args.toList, c.argTypes.toList with
    | .builtin .len, [x], [t] => match ρ x with
      | some f => optF (evLen T ob t f)
      | none => .fail
    | .builtin .append, [x, y], [t, t'] => match ρ x, ρ y with
      | some f, some g => evApp T ob k t t' f g
      | _, _ => .fail
    | .builtin .copy, [x, y], [t, _] => match ρ x, ρ y with
      | some f, some g => evCopy T ob t f g
      | _, _ => .fail
    | .builtin .min, [x, y], _ => match ρ x, ρ y with
      | some f, some g => optF (evMM false f g)
      | _, _ => .fail
    | .builtin .max, [x, y], _ => match ρ x, ρ y with
      | some f, some g => optF (evMM true f g)
      | _, _ => .fail
    | .value f, args, _ => match ρ f with
      | some (.c (.d (.v (.func (.func g) fst cap)))) => match fst.size, cap.size with
        | 0, 0 => match argsV ρ args with
          | some rs => .call g rs
          | none => .fail
        | _, _ => .fail
      | _ => .fail
    | _, _, _ => .fail
  | _ => .fail

def ldV (e : List D) (j size : Nat) (agg : Bool) : FV :=
  match agg with
  | true => .g ((locCs ((e.drop j).take size)).map C.d)
  | false => match (e.drop j).take size with
    | [x] => .c (.d x.loc)
    | _ => .und

/-- What is asked of a quiet operation. -/
def QOk (P : Program) (N : Nat) (w0 : Base) (s : St) (a : Act) (w : World) (o : Oper) (v : FV) (os : List (Nat × Ob)) : Prop :=
  ∃ val w' β', (execOp a.eval o).run P w = .ok (.value val) w' ∧ Rel N w0 ⟨s.tm, os ++ s.ob⟩ a w' β' ∧ FVRel (St.en ⟨s.tm, os ++ s.ob⟩ w' w0.arg β') v val

theorem QOk.same (R : Rel N w0 s a w β) {o : Oper} {v : FV} {val : Value} (h : (execOp a.eval o).run P w = .ok (.value val) w) (hv : FVRel (s.en w w0.arg β) v val) :
    QOk P N w0 s a w o v [] := ⟨val, w, β, h, R, hv⟩

theorem optF_q {o : Option FV} {p : Prop} {v : FV} {os : List (Nat × Ob)} (h : optF o = .q p v os) : o = some v ∧ os = [] := by
  cases o with
  | none => simp [optF] at h
  | some f => simp only [optF, Ev.q.injEq] at h; obtain ⟨_, rfl, rfl⟩ := h; exact ⟨rfl, rfl⟩

theorem evAssign_sound {T : Tab} {o : Oper} {x : Operand} (ho : o.op = .move x ∨ o.op = .assign x) (R : Rel N w0 s a w β) {k : Nat} {p : Prop} {v : FV} {os : List (Nat × Ob)}
    (h : evAssign T s.opd k o.type x = .q p v os) (hf : freshOs s.ob os = true) : QOk P N w0 s a w o v os := by
  have hrun : (execOp a.eval o).run P w = .ok (.value (a.eval x)) w := by rcases ho with ho | ho <;> simp [execOp, ho]
  have hopt : ∀ v, s.opd x = some v → QOk P N w0 s a w o v [] := fun v hv => QOk.same R hrun (R.opd hv)
  unfold evAssign at h
  split at h
  · rename_i hn
    split at h
    · split at h
      · split at h
        · simp only [Ev.q.injEq] at h
          obtain ⟨_, rfl, rfl⟩ := h
          simp only [freshOs, Bool.and_eq_true, Option.isNone_iff_eq_none] at hf
          have hx : x = .const nilV := by
            unfold isNil at hn
            split at hn
            · rfl
            · cases hn
          subst hx
          exact ⟨_, w, _, hrun, R.addNil hf.2, by simp [FVRel, CRel, St.en, lk_cons_self, upd_self, Act.eval, Value.oneCell']⟩
        · cases h
      · obtain ⟨h', rfl⟩ := optF_q h; exact hopt _ h'
    · obtain ⟨h', rfl⟩ := optF_q h; exact hopt _ h'
  · obtain ⟨h', rfl⟩ := optF_q h; exact hopt _ h'

theorem partsC_rel (R : Rel N w0 s a w β) : ∀ {ps : List (Nat × Operand)} {qs : List (Nat × List C)}, partsC s.opd ps = some qs →
    PartsRel (s.en w w0.arg β) qs (ps.map fun x => (x.1, a.eval x.2))
  | [], qs, h => by simp [partsC] at h; subst h; trivial
  | (i, x) :: ps, qs, h => by
    simp only [partsC] at h
    split at h
    · rename_i f qs' hf hq
      split at h
      · rename_i cs hcs
        simp only [Option.some.injEq] at h; subst h
        exact ⟨rfl, FV.cells_rel hcs (R.opd hf), partsC_rel R hq⟩
      · cases h
    · cases h

theorem evUn_sound {en : En} {w : World} {op : UnOp} {x f : FV} {u : Value} (h : evUn op x = some f) (hx : FVRel en x u) : ∃ val, (Op.unary op u).run P w = .ok val w ∧ FVRel en f val := by
  unfold evUn at h
  split at h
  · split at h
    · simp only [Option.some.injEq] at h; subst h
      obtain rfl := bool_rel hx
      exact ⟨_, by simp [Op.unary], rel_bool _⟩
    · cases h
  · split at h
    · simp only [Option.some.injEq] at h; subst h
      obtain rfl := int_rel hx
      exact ⟨_, by simp [Op.unary, Op.intArith], rel_int _ _⟩
    · cases h
  · cases h

theorem evConv_sound {T : Tab} (hT : TabOk P T) {en : En} {w : World} {src dst : TypeId} {x f : FV} {u : Value} (h : evConv T src dst x = some f) (hx : FVRel en x u) :
    ∃ val, (convert src dst u).run P w = .ok val w ∧ FVRel en f val := by
  unfold evConv at h
  split at h
  · rename_i k' n
    obtain rfl := int_rel hx
    split at h
    · rename_i ts ti hs hd
      split at h
      · rename_i k hk
        simp only [Option.some.injEq] at h; subst h
        obtain ⟨ds, hds, _⟩ := (hT src ts hs).desc
        have hdd := (hT dst ti hd).int hk
        refine ⟨_, ?_, rel_int _ _⟩
        simp [convert, run_underlying hds, run_underlying hdd, Conv.intToInt]
      · cases h
    · cases h
  · cases h

theorem evLen_sound {T : Tab} (hT : TabOk P T) (R : Rel N w0 s a w β) {t ty : TypeId} {x f : FV} {u : Value} (h : evLen T (lk s.ob) t x = some f) (hx : FVRel (s.en w w0.arg β) x u) :
    ∃ val, (Builtin.len_ #[t] ty #[u]).run P w = .ok val w ∧ FVRel (s.en w w0.arg β) f val := by
  unfold evLen at h
  split at h
  · rename_i ti hti
    have hty := hT t ti hti
    split at h
    · rename_i e k hk
      have hu := hty.sl hk
      split at h
      · rename_i e' z xs hob
        simp only [Option.some.injEq] at h; subst h
        simp only [FVRel, CRel] at hx
        obtain ⟨_, rfl, _⟩ := hx
        have hr : OwnRel w w0.arg (s.en w w0.arg β).M e' z xs (β k) := R.ob k _ hob
        show ∃ val, (Builtin.len_ #[t] ty #[β k]).run P w = _ ∧ _
        rcases hr with ⟨rfl, h⟩ | ⟨g, cap, cur, h, _⟩
        · rw [h]; exact ⟨_, by simp [Builtin.len_, run_underlying hu, nilV, goInt], rel_int _ _⟩
        · rw [h]; exact ⟨_, by simp [Builtin.len_, run_underlying hu, goInt], rel_int _ _⟩
      · cases h
    · rename_i e k z lo n hk
      have hu := hty.sl hk
      simp only [Option.some.injEq] at h; subst h
      simp only [FVRel, CRel] at hx
      rcases hx.2 with ⟨_, rfl, rfl⟩ | ⟨g, M, cap, off, c', _, rfl, _⟩
      · exact ⟨_, by simp [Builtin.len_, run_underlying hu, nilV, goInt], rel_int _ _⟩
      · exact ⟨_, by simp [Builtin.len_, run_underlying hu, goInt], rel_int _ _⟩
    · rename_i e b z xs hk
      have hu := hty.sl hk
      simp only [Option.some.injEq] at h; subst h
      simp only [FVRel, CRel, Rd] at hx
      rcases hx.2.2 with ⟨rfl, _, _, rfl, _⟩ | ⟨b, off, cap, rfl, _⟩
      · exact ⟨_, by simp [Builtin.len_, run_underlying hu, goInt], rel_int _ _⟩
      · exact ⟨_, by simp [Builtin.len_, run_underlying hu, goInt], rel_int _ _⟩
    · rename_i ke e k hk
      have hu := hty.mp hk
      split at h
      · rename_i xs hob
        simp only [Option.some.injEq] at h; subst h
        simp only [FVRel, CRel] at hx
        obtain ⟨_, rfl, _⟩ := hx
        obtain ⟨r, es, clock, h1, h2, h3, _⟩ := R.ob k _ hob
        have h1' : β k = .map (some r) := h1
        have h2' : w.heap[r]? = some (.map es clock) := h2
        show ∃ val, (Builtin.len_ #[t] ty #[β k]).run P w = _ ∧ _
        rw [h1']
        have hl : xs.xs.length = es.size := by rw [← Array.length_toList, h3]; simp [MD.ents]
        exact ⟨goInt es.size, by simp [Builtin.len_, run_underlying hu, getObj, Sem.run, h2'], by rw [hl]; exact rel_int _ _⟩
      · cases h
    · rename_i st hk
      have hu := hty.str hk
      simp only [Option.some.injEq] at h; subst h
      obtain rfl := val_rel hx
      exact ⟨_, by simp [Builtin.len_, run_underlying hu, goInt], rel_int _ _⟩
    · cases h
  · cases h

theorem evMM_sound {en : En} {w : World} {x y f : FV} {u v : Value} {ts : Array TypeId} {t : TypeId} {mx : Bool} (h : evMM mx x y = some f) (hx : FVRel en x u) (hy : FVRel en y v) :
    ∃ val, (match mx with | true => Builtin.max_ ts t #[u, v] | false => Builtin.min_ ts t #[u, v]).run P w = .ok val w ∧ FVRel en f val := by
  unfold evMM at h
  split at h
  · obtain rfl := int_rel hx
    obtain rfl := int_rel hy
    split at h
    · simp only [Option.some.injEq] at h; subst h
      exact ⟨_, run_max_int2 _ _ _ _ _ _ _, rel_int _ _⟩
    · simp only [Option.some.injEq] at h; subst h
      exact ⟨_, run_min_int2 _ _ _ _ _ _ _, rel_int _ _⟩
  · cases h

theorem bnd_rel (R : Rel N w0 s a w β) {d l : Int} {x : Option Operand} (h : bnd s.opd d x = some l) : (x = none ∧ l = d) ∨ ∃ y k, x = some y ∧ a.eval y = .int k l := by
  cases x with
  | none => simp [bnd] at h; exact .inl ⟨rfl, h.symm⟩
  | some y =>
    simp only [bnd] at h
    split at h
    · rename_i k n hq
      simp only [Option.some.injEq] at h; subst h
      exact .inr ⟨y, k, rfl, int_rel (R.opd hq)⟩
    · cases h

theorem run_slice_bounds {len cap : Nat} {lo hi : Option Value} {l h : Int} (hlc : len ≤ cap) (hl : (lo = none ∧ l = 0) ∨ ∃ k, lo = some (.int k l)) (hh : (hi = none ∧ h = len) ∨ ∃ k, hi = some (.int k h))
    (h0 : 0 ≤ l) (h1 : l ≤ h) (h2 : h ≤ len) : (Instr.sliceBounds true len cap lo hi none).run P w = .ok (l.toNat, h.toNat, cap) w := by
  have hb : ∀ (k : IntKind) (n : Int) (y : Nat) (c : BoundsCode), 0 ≤ n → n ≤ y → (Instr.sliceBound (.int k n) y c).run P w = .ok n.toNat w := by
    intro k n y c a1 a2
    simp [Instr.sliceBound, asIntOf, a1, a2]
  rcases hl with ⟨rfl, rfl⟩ | ⟨kl, rfl⟩ <;> rcases hh with ⟨rfl, rfl⟩ | ⟨kh, rfl⟩
  · simp [Instr.sliceBounds]
  · simp [Instr.sliceBounds, hb kh h cap _ (by omega) (by omega)]
  · simp [Instr.sliceBounds, hb kl l len _ (by omega) (by omega)]
  · have e : ((h.toNat : Nat) : Int) = h := by omega
    simp [Instr.sliceBounds, hb kh h cap _ (by omega) (by omega), hb kl l h.toNat _ (by omega) (by omega)]

theorem RdEs_single {w : World} {B M : Nat → Prop} {b : Nat} : ∀ (n : Nat) (xs : List D) (off : Nat), RdCs w B M xs b off → RdEs w B M 1 ((xs.take n).map fun d => [d]) b off
  | 0, _, _, _ => by simp [RdEs]
  | n + 1, [], _, _ => by simp [RdEs]
  | n + 1, x :: xs, off, h => by
    simp only [RdCs] at h
    simp only [List.take_succ_cons, List.map_cons, RdEs, RdCs]
    exact ⟨rfl, ⟨h.1, trivial⟩, RdEs_single n xs (off + 1) h.2⟩

theorem evSlice_sound {T : Tab} (hT : TabOk P T) (R : Rel N w0 s a w β) {o : Oper} {t : TypeId} {x : Operand} {lo hi : Option Operand} (ho : o.op = .slice t x lo hi none) {f v : FV} {p : Prop} {os : List (Nat × Ob)}
    (hx : s.opd x = some f) (h : evSlice T s.opd (lk s.ob) t f lo hi = .q p v os) (hp : p) : QOk P N w0 s a w o v os := by
  have hf := R.opd hx
  unfold evSlice at h
  split at h
  · rename_i ti hti
    split at h
    · rename_i e hk
      have hu := (hT t ti hti).sl hk
      split at h
      · rename_i te hte
        have hs := fun w => (hT e te hte).sizeOf w
        have hrun : ∀ (b off len cap : Nat) (l h : Int), len ≤ cap → a.eval x = .slice (some ⟨b, off, none⟩) len cap → bnd s.opd 0 lo = some l → bnd s.opd (len : Nat) hi = some h → 0 ≤ l → l ≤ h → h ≤ (len : Nat) →
            (execOp a.eval o).run P w = .ok (.value (.slice (some (if cap = l.toNat then ⟨b, off, none⟩ else ⟨b, off + l.toNat * te.size, none⟩)) (h.toNat - l.toNat) (cap - l.toNat))) w := by
          intro b off len cap l h hlc hxe hlo hhi h0 h1 h2
          have hlo' : (lo.map a.eval = none ∧ l = 0) ∨ ∃ k, lo.map a.eval = some (.int k l) := by
            rcases bnd_rel R hlo with ⟨rfl, rfl⟩ | ⟨y, k, rfl, hy⟩
            · exact .inl ⟨rfl, rfl⟩
            · exact .inr ⟨k, by simp [hy]⟩
          have hhi' : (hi.map a.eval = none ∧ h = len) ∨ ∃ k, hi.map a.eval = some (.int k h) := by
            rcases bnd_rel R hhi with ⟨rfl, rfl⟩ | ⟨y, k, rfl, hy⟩
            · exact .inl ⟨rfl, rfl⟩
            · exact .inr ⟨k, by simp [hy]⟩
          have hb := run_slice_bounds (P := P) (w := w) hlc hlo' hhi' h0 h1 h2
          simp [execOp, ho, Instr.sliceAt, run_underlying hu, Instr.slice, hxe, hb, hs, Addr.add_lit]
          split <;> rfl
        have hnil : ∀ (l h : Int), a.eval x = nilV → bnd s.opd 0 lo = some l → bnd s.opd ((0 : Nat) : Int) hi = some h → 0 ≤ l → l ≤ h → h ≤ ((0 : Nat) : Int) → (execOp a.eval o).run P w = .ok (.value nilV) w := by
          intro l h hxe hlo hhi h0 h1 h2
          have hlo' : (lo.map a.eval = none ∧ l = 0) ∨ ∃ k, lo.map a.eval = some (.int k l) := by
            rcases bnd_rel R hlo with ⟨rfl, rfl⟩ | ⟨y, k, rfl, hy⟩
            · exact .inl ⟨rfl, rfl⟩
            · exact .inr ⟨k, by simp [hy]⟩
          have hhi' : (hi.map a.eval = none ∧ h = ((0 : Nat) : Int)) ∨ ∃ k, hi.map a.eval = some (.int k h) := by
            rcases bnd_rel R hhi with ⟨rfl, rfl⟩ | ⟨y, k, rfl, hy⟩
            · exact .inl ⟨rfl, rfl⟩
            · exact .inr ⟨k, by simp [hy]⟩
          have hb := run_slice_bounds (P := P) (w := w) (Nat.le_refl 0) hlo' hhi' h0 h1 h2
          have e1 : l.toNat = 0 := by omega
          have e2 : h.toNat = 0 := by omega
          simp [execOp, ho, Instr.sliceAt, run_underlying hu, Instr.slice, hxe, nilV, hb, hs, e1, e2]
        have hemp : ∀ (ad : Option Addr) (cap : Nat) (l h : Int), a.eval x = .slice ad 0 cap → (ad = none → cap = 0) → bnd s.opd 0 lo = some l → bnd s.opd ((0 : Nat) : Int) hi = some h → 0 ≤ l → l ≤ h → h ≤ ((0 : Nat) : Int) →
            ∃ ad' cap', (execOp a.eval o).run P w = .ok (.value (.slice ad' 0 cap')) w ∧ (ad' = none → cap' = 0) := by
          intro ad cap l h hxe hne hlo hhi h0 h1 h2
          have hlo' : (lo.map a.eval = none ∧ l = 0) ∨ ∃ k, lo.map a.eval = some (.int k l) := by
            rcases bnd_rel R hlo with ⟨rfl, rfl⟩ | ⟨y, k, rfl, hy⟩
            · exact .inl ⟨rfl, rfl⟩
            · exact .inr ⟨k, by simp [hy]⟩
          have hhi' : (hi.map a.eval = none ∧ h = ((0 : Nat) : Int)) ∨ ∃ k, hi.map a.eval = some (.int k h) := by
            rcases bnd_rel R hhi with ⟨rfl, rfl⟩ | ⟨y, k, rfl, hy⟩
            · exact .inl ⟨rfl, rfl⟩
            · exact .inr ⟨k, by simp [hy]⟩
          have hb := run_slice_bounds (P := P) (w := w) (Nat.zero_le cap) hlo' hhi' h0 h1 h2
          have e1 : l.toNat = 0 := by omega
          have e2 : h.toNat = 0 := by omega
          cases ad with
          | none => exact ⟨none, cap, by simp [execOp, ho, Instr.sliceAt, run_underlying hu, Instr.slice, hxe, hb, hs, e1, e2], hne⟩
          | some ad =>
            by_cases hc : cap = 0
            · subst hc
              exact ⟨some ad, 0, by simp [execOp, ho, Instr.sliceAt, run_underlying hu, Instr.slice, hxe, hb, hs, e1, e2], fun h => nomatch h⟩
            · exact ⟨some ad, cap, by simp [execOp, ho, Instr.sliceAt, run_underlying hu, Instr.slice, hxe, hb, hs, e1, e2, hc, Addr.add], fun h => nomatch h⟩
        split at h
        · rename_i bb z xs
          split at h
          · rename_i l hh hz hlo hhi
            obtain rfl := nat_beq hz
            simp only [Ev.q.injEq] at h
            obtain ⟨rfl, rfl, rfl⟩ := h
            obtain ⟨h0, h1, h2⟩ := hp
            simp only [FVRel, CRel, Rd] at hf
            obtain ⟨_, _, hf⟩ := hf
            rcases hf with ⟨rfl, ad, cap, he, hne⟩ | ⟨b, off, cap, he, q1, q2, q3, q4, q5⟩
            · obtain ⟨ad', cap', hr, hne'⟩ := hemp ad cap l hh he hne hlo hhi h0 h1 h2
              refine QOk.same R hr ?_
              simp [FVRel, CRel, Rd, D.isOwn, Value.oneCell']
              exact .inl ⟨ad', cap', ⟨rfl, rfl⟩, hne'⟩
            · refine QOk.same R (hrun b off _ cap l hh q1 he hlo hhi h0 h1 h2) ?_
              simp only [FVRel, CRel, Rd]
              refine ⟨rfl, rfl, .inr ?_⟩
              have hlen : ((xs.drop l.toNat).take (hh.toNat - l.toNat)).length = hh.toNat - l.toNat := by simp; omega
              split
              · rename_i hc
                refine ⟨b, off, cap - l.toNat, by rw [hlen], by rw [hlen]; omega, q2, q3, q4, ?_⟩
                have : (xs.drop l.toNat).take (hh.toNat - l.toNat) = [] := List.eq_nil_of_length_eq_zero (by rw [hlen]; omega)
                rw [this]; simp only [RdEs]
              · exact ⟨b, _, cap - l.toNat, by rw [hlen], by rw [hlen]; omega, q2, q3, q4, (q5.dropE l.toNat).takeE _⟩
          · cases h
        · rename_i k
          split at h
          · rename_i e' z xs hob
            split at h
            · rename_i l hh hz hlo hhi
              obtain rfl := nat_beq hz
              simp only [Ev.q.injEq] at h
              obtain ⟨rfl, rfl, rfl⟩ := h
              obtain ⟨h0, h1, h2⟩ := hp
              simp only [FVRel, CRel] at hf
              obtain ⟨hk1, he, _⟩ := hf
              have hr : OwnRel w w0.arg (s.en w w0.arg β).M e' te.size xs (β k) := R.ob k _ hob
              have he' : a.eval x = β k := he
              rcases hr with ⟨rfl, hβ⟩ | ⟨g, cap, cur, hβ, q1, q2, q3, q4, q5⟩
              · rw [hβ] at he'
                refine QOk.same R (hnil l hh he' hlo hhi h0 h1 h2) ?_
                simp only [FVRel, CRel]
                exact ⟨hk1, .inl ⟨hβ, by simp at h2; omega, trivial⟩⟩
              · rw [hβ] at he'
                refine QOk.same R (hrun g 0 _ cap l hh q1 he' hlo hhi h0 h1 h2) ?_
                simp only [FVRel, CRel]
                refine ⟨hk1, ?_⟩
                split
                · exact .inr ⟨g, _, cap, 0, cap - l.toNat, hβ, by simp, .inl (by omega), by omega, by omega⟩
                · exact .inr ⟨g, _, cap, l.toNat * te.size, cap - l.toNat, hβ, by simp, .inr rfl, by omega, by omega⟩
            · cases h
          · cases h
        · cases h
      · cases h
    · rename_i len e hk
      have hu := (hT t ti hti).ar hk
      split at h
      · rename_i te hte
        have hs := fun w => (hT e te hte).sizeOf w
        split at h
        · rename_i xs
          split at h
          · rename_i hz hl h1
            have hz := nat_beq hz
            have hl := Nat.le_of_ble_eq_true hl
            have h1 := Nat.le_of_ble_eq_true h1
            simp only [Ev.q.injEq] at h
            obtain ⟨rfl, rfl, rfl⟩ := h
            simp only [FVRel, CRel] at hf
            obtain ⟨b, off, he, q1, q2, q3⟩ := hf
            have he' : a.eval x = .pointer (some ⟨b, off, none⟩) := he
            have hne : ¬ len = 0 := by omega
            have hrun : (execOp a.eval o).run P w = .ok (.value (.slice (some ⟨b, off, none⟩) len len)) w := by
              simp [execOp, ho, Instr.sliceAt, run_underlying hu, Instr.sureAddr, Instr.sliceBounds, he', hs, Addr.add_lit, hne]
            refine QOk.same R hrun ?_
            simp only [FVRel, CRel, Rd]
            have hlen : ((xs.take len).map fun d => [d]).length = len := by rw [List.length_map, List.length_take]; omega
            exact ⟨rfl, rfl, .inr ⟨b, off, len, by rw [hlen], by rw [hlen]; exact Nat.le_refl _, q1, q2, fun h => (nomatch h), RdEs_single len xs off q3⟩⟩
          · cases h
        · cases h
      · cases h
    · cases h
  · cases h

end Go.Sm

namespace Go.Sm
open Go.RowKit

variable {P : Program} {N : Nat} {w0 : Base} {s : St} {a : Act} {w : World} {β : Nat → Value}

theorem evApp_sound {T : Tab} (hT : TabOk P T) (R : Rel N w0 s a w β) {k : Nat} {t t' ty : TypeId} {x y : FV} {p : Prop} {v : FV} {os : List (Nat × Ob)} {u u' : Value}
    (h : evApp T (lk s.ob) k t t' x y = .ef p v os) (hp : p) (hk : lk s.ob k = none) (hx : FVRel (s.en w w0.arg β) x u) (hy : FVRel (s.en w w0.arg β) y u') :
    ∃ val w' β', (Builtin.append_ #[t, t'] ty #[u, u']).run P w = .ok val w' ∧ Rel N w0 ⟨s.tm, os ++ s.ob⟩ a w' β' ∧ FVRel (St.en ⟨s.tm, os ++ s.ob⟩ w' w0.arg β') v val := by
  unfold evApp at h
  split at h
  · rename_i ti k1 htt hti
    obtain rfl := nat_beq htt
    split at h
    · rename_i e e' z xs hkk hob1
      have hu := (hT t ti hti).sl hkk
      split at h
      · rename_i te hte
        have hty := hT e te hte
        split at h
        · rename_i hez
          simp only [Bool.and_eq_true] at hez
          obtain rfl := nat_beq hez.1
          have hz := nat_beq hez.2
          simp only [FVRel, CRel] at hx
          obtain ⟨_, rfl, _⟩ := hx
          -- the end, the same on all ways
          have fin : ∀ (ys : List (List D)) (ks : List Nat) (x : Value) (news : List Value), EsV (Rd w w0.arg (s.en w w0.arg β).M) z ys news → (∀ u ∈ news, u.oneCell' = true) →
              ((x = nilV ∧ ys.length = 0) ∨ ∃ ad c, x = .slice (some ad) ys.length c ∧ ∀ j u, news[j]? = some u → w.cell? (ad.add j) = some u) →
              ((ks = [] ∧ fpVs w z ys news = []) ∨ ∃ k3, ks = [k3] ∧ k3 ≠ k1 ∧ (∃ o, lk s.ob k3 = some o) ∧ List.Sublist (fpVs w z ys news) (obFp (s.en w w0.arg β) k3)) →
              (xs.length + ys.length) * te.bytes ≤ 140737488355328 ∧ xs.length + ys.length ≤ 9223372036854775807 →
              ∃ val w' β', (Builtin.append_ #[t, t] ty #[(s.en w w0.arg β).β k1, x]).run P w = .ok val w' ∧ Rel N w0 ⟨s.tm, ((k, .arr e z (xs ++ ys)) :: (k1, .dead) :: deadOs ks) ++ s.ob⟩ a w' β' ∧
                FVRel (St.en ⟨s.tm, ((k, .arr e z (xs ++ ys)) :: (k1, .dead) :: deadOs ks) ++ s.ob⟩ w' w0.arg β') (.c (.ob k)) val := by
            intro ys ks x news h1 h2 h3 h4 h5
            obtain ⟨v', w', r1, r2, r3⟩ := R.append (ty := ty) hu hty hz hob1 hk h1 h2 h3 h4 (by simp only [maxLen]; exact h5.2) h5.1
            exact ⟨v', w', _, r1, r3, by simp only [FVRel, CRel]; exact ⟨by simp [St.en, lk_cons_self], by simp [St.en, upd_self], r2⟩⟩
          split at h
          · rename_i k3
            split at h
            · rename_i e3 z' ys hob3
              split at h
              · rename_i hzz
                simp only [Bool.and_eq_true, Bool.not_eq_true'] at hzz
                obtain rfl := nat_beq hzz.1
                have hne : k3 ≠ k1 := fun e => by subst e; simp at hzz
                simp only [FVRel, CRel] at hy
                obtain ⟨_, rfl, _⟩ := hy
                have hr3 : OwnRel w w0.arg (s.en w w0.arg β).M e3 z ys (β k3) := R.ob k3 _ hob3
                have hsrc : ∃ news, EsV (Rd w w0.arg (s.en w w0.arg β).M) z ys news ∧ (∀ u ∈ news, u.oneCell' = true) ∧
                    ((β k3 = nilV ∧ ys.length = 0) ∨ ∃ ad c, β k3 = .slice (some ad) ys.length c ∧ ∀ j u, news[j]? = some u → w.cell? (ad.add j) = some u) ∧
                    List.Sublist (fpVs w z ys news) (obFp (s.en w w0.arg β) k3) := by
                  rcases hr3 with ⟨rfl, hβ⟩ | ⟨g, cap, cur, hβ, q1, q2, q3, q4, q5⟩
                  · exact ⟨[], rfl, by simp, .inl ⟨hβ, rfl⟩, by simp [fpVs]⟩
                  · obtain ⟨news, n1, n2, n3⟩ := q5.cellsV
                    refine ⟨news, n1, n2, .inr ⟨_, _, hβ, n3⟩, ?_⟩
                    rw [obFp_arr (en := s.en w w0.arg β) hob3]
                    show List.Sublist _ (fp w (.own e3 z ys) (β k3))
                    rw [hβ, fp_own_some, fpEs_vals ys news 0 n1 (fun j u hj => by have := n3 j u hj; rwa [Addr.add_lit] at this)]
                    exact List.sublist_cons_self _ _
                obtain ⟨news, n1, n2, n3, n4⟩ := hsrc
                split at h
                · rename_i hno
                  simp only [Ev.ef.injEq] at h
                  obtain ⟨rfl, rfl, rfl⟩ := h
                  rw [okNo_all] at hno
                  exact fin ys [] _ news n1 n2 n3 (.inl ⟨rfl, fpVs_noOwn _ hno⟩) hp
                · simp only [Ev.ef.injEq] at h
                  obtain ⟨rfl, rfl, rfl⟩ := h
                  exact fin ys [k3] _ news n1 n2 n3 (.inr ⟨k3, rfl, hne, ⟨_, hob3⟩, n4⟩) hp
              · cases h
            · cases h
          · rename_i b z' ys
            split at h
            · rename_i hzz
              simp only [Bool.and_eq_true] at hzz
              obtain rfl := nat_beq hzz.1
              have hno := hzz.2
              rw [okNo_all] at hno
              simp only [Ev.ef.injEq] at h
              obtain ⟨rfl, rfl, rfl⟩ := h
              simp only [FVRel, CRel, Rd] at hy
              rcases hy.2.2 with ⟨rfl, ad, cap, rfl, hne⟩ | ⟨b, off, cap, rfl, q1, q2, q3, q4, q5⟩
              · cases ad with
                | none => rw [hne rfl]; exact fin [] [] _ [] rfl (by simp) (.inl ⟨rfl, rfl⟩) (.inl ⟨rfl, by simp [fpVs]⟩) hp
                | some ad => exact fin [] [] _ [] rfl (by simp) (.inr ⟨_, _, rfl, fun j u h => by simp at h⟩) (.inl ⟨rfl, by simp [fpVs]⟩) hp
              · obtain ⟨news, n1, n2, n3⟩ := q5.cellsV
                exact fin ys [] _ news n1 n2 (.inr ⟨_, _, rfl, n3⟩) (.inl ⟨rfl, fpVs_noOwn _ hno⟩) hp
            · cases h
          · cases h
        · cases h
      · cases h
    · cases h
  · rename_i ti k1 htt hti
    split at h
    · rename_i e e' z xs kn n hkk hob1
      have hu := (hT t ti hti).sl hkk
      split at h
      · rename_i te ti' hte hti'
        have hty := hT e te hte
        split at h
        · rename_i kk hk' hez
          have hu' := (hT t' ti' hti').int hk'
          simp only [Bool.and_eq_true] at hez
          obtain rfl := nat_beq hez.1
          obtain rfl := nat_beq hez.2
          simp only [FVRel, CRel] at hx
          obtain ⟨_, rfl, _⟩ := hx
          obtain rfl := int_rel hy
          simp only [Ev.ef.injEq] at h
          obtain ⟨rfl, rfl, rfl⟩ := h
          obtain ⟨hn0, hby, h63⟩ := hp
          obtain ⟨m, rfl⟩ : ∃ m : Nat, n = m := ⟨n.toNat, by omega⟩
          rw [Int.toNat_natCast] at hby h63 ⊢
          obtain ⟨i, hi, his, hib⟩ : ∃ i, P.info? e = some i ∧ i.size = te.size ∧ i.bytes = te.bytes := by
            have := hty.size
            cases hi : P.info? e with
            | none => simp [hi] at this
            | some i => simp [hi] at this; exact ⟨i, rfl, this.1, this.2⟩
          obtain ⟨z, hz, hzc⟩ : ∃ z, i.zero = some z ∧ z.cells.toList = te.zero.map Z.val := by
            have := hty.zero
            cases hz : i.zero with
            | none => simp [hi, hz] at this
            | some z => simp [hi, hz] at this; exact ⟨z, rfl, this⟩
          have hzs : z.cells.size = te.size := by have := congrArg List.length hzc; simpa [hty.zlen] using this
          have hlen : (List.replicate m (te.zero.map Z.toD)).length = m := List.length_replicate ..
          have hEv := EsV_zero (w := w) (B := w0.arg) (M := (s.en w w0.arg β).M) te.zero hty.ones m
          have hfp := fpVs_zero (w := w) te.zero m
          rw [hty.zlen] at hEv hfp
          have hone : ∀ u ∈ z.cells.toList, u.oneCell' = true := by
            have := hty.ones
            rw [hzc]
            intro u hu
            obtain ⟨q, hq, rfl⟩ := List.mem_map.1 hu
            exact List.all_eq_true.1 this q hq
          obtain ⟨v', w', r1, r2, r3⟩ := R.appendR (m := Builtin.append_ #[t, t'] ty #[(s.en w w0.arg β).β k1, .int kn (m : Nat)]) (ys := List.replicate m (te.zero.map Z.toD)) hob1 hk hEv (.inl ⟨rfl, hfp⟩) fun vals hl hown => by
            have := run_appendN_cases (P := P) (w := w) (ty := ty) (ki := kn) hu hu' hi hz his hib hzs hone hl hown (m := m) (by simp only [maxLen]; exact h63) hby
            rw [hlen]
            rwa [hzc] at this
          exact ⟨v', w', _, r1, r3, by simp only [FVRel, CRel]; exact ⟨by simp [St.en, lk_cons_self], by simp [St.en, upd_self], r2⟩⟩
        · cases h
      · cases h
    · cases h
  · cases h

theorem getElem?_FVs {en : En} : ∀ {xs : List FV} {vs : List Value} {i : Nat} {f : FV}, FVsRel en xs vs → xs[i]? = some f → ∃ v, vs[i]? = some v ∧ FVRel en f v
  | [], _, i, f, _, h => by simp at h
  | x :: xs, vs, i, f, hr, h => by
    simp only [FVsRel] at hr
    obtain ⟨v, r, rfl, h1, h2⟩ := hr
    cases i with
    | zero => simp at h; subst h; exact ⟨v, rfl, h1⟩
    | succ i => simpa using getElem?_FVs h2 (by simpa using h)

/-- A quiet operation. -/
theorem ev_q {T : Tab} {E : List (Nat × Nat)} (hT : TabOk P T) (hE : ∀ t n, lk E t = some n → EqOk P t n) (R : Rel N w0 s a w β) {o : Oper} {k : Nat} {p : Prop} {v : FV} {os : List (Nat × Ob)}
    (h : ev T E s.opd (lk s.ob) k o.type o.op = .q p v os) (hp : p) (hf : freshOs s.ob os = true) : QOk P N w0 s a w o v os := by
  cases ho : o.op with
  | move x => rw [ho] at h; exact evAssign_sound (.inl ho) R h hf
  | assign x => rw [ho] at h; exact evAssign_sound (.inr ho) R h hf
  | pick c x y =>
    rw [ho] at h; simp only [ev] at h
    split at h
    · rename_i hc
      obtain ⟨h', rfl⟩ := optF_q h
      refine QOk.same R ?_ (R.opd h')
      simp [execOp, ho, bool_rel (R.opd hc), asBool]
    · rename_i hc
      obtain ⟨h', rfl⟩ := optF_q h
      refine QOk.same R ?_ (R.opd h')
      simp [execOp, ho, bool_rel (R.opd hc), asBool]
    · cases h
  | alloc t =>
    rw [ho] at h; simp only [ev] at h
    split at h
    · rename_i ti hti
      simp only [Ev.q.injEq] at h
      obtain ⟨_, rfl, rfl⟩ := h
      have hty := hT t ti hti
      simp only [freshOs, Bool.and_eq_true, Option.isNone_iff_eq_none] at hf
      obtain ⟨β', h1, h2, h3⟩ := R.addZeros ti.zero (k + 1) hf.1 hty.ones
      obtain ⟨z, hz, hzc⟩ := hty.zeroValue w
      rw [← hzc] at h2
      obtain ⟨β'', r1, r2, r3⟩ := h1.allocVar (P := P) (T := t) hf.2 h2
      refine ⟨_, _, β'', ?_, r2, by simp only [FVRel]; exact r3⟩
      have r1' := r1
      simp only [Sem.run_bind] at r1'
      simp [execOp, ho, Instr.alloc, hz, newVar, newRow]
    · cases h
  | box t x =>
    rw [ho] at h; simp only [ev] at h
    split at h
    · rename_i f hx
      split at h
      · rename_i cs hcs
        simp only [Ev.q.injEq] at h
        obtain ⟨_, rfl, rfl⟩ := h
        simp only [freshOs, Bool.and_eq_true, Option.isNone_iff_eq_none] at hf
        obtain ⟨β'', r1, r2, r3⟩ := R.allocVar (P := P) (T := t) (v := a.eval x) hf.2 (FV.cells_rel hcs (R.opd hx))
        exact ⟨.pointer (some ⟨w.heap.size, 0, none⟩), _, β'', by simp [execOp, ho, Instr.box, newVar, newRow], r2, by simp only [FVRel]; exact r3⟩
      · cases h
    · cases h
  | build t ps =>
    rw [ho] at h; simp only [ev] at h
    split at h
    · rename_i qs hq
      split at h
      · rename_i cs os' hb
        simp only [Ev.q.injEq] at h
        obtain ⟨_, rfl, rfl⟩ := h
        obtain ⟨val, β', r1, r2, r3⟩ := evBuild_sound hT R hb (partsC_rel R hq) hf
        refine ⟨val, w, β', ?_, r2, r3⟩
        have : ps.map (fun (x : Nat × Operand) => (x.1, a.eval x.2)) = (ps.toList.map fun x => (x.1, a.eval x.2)).toArray := by apply Array.ext'; simp
        simp only [execOp, ho, Sem.run_bind, this]
        simp [r1]
      · cases h
    · cases h
  | buildSlice t len ps =>
    rw [ho] at h; simp only [ev] at h
    split at h
    · rename_i qs hq
      split at h
      · rename_i o' hb
        simp only [Ev.q.injEq] at h
        obtain ⟨_, rfl, rfl⟩ := h
        simp only [freshOs, Bool.and_eq_true, Option.isNone_iff_eq_none] at hf
        obtain ⟨val, w', β', r1, r2, r3⟩ := evBS_sound hT R hb (partsC_rel R hq) hf.2
        refine ⟨val, w', β', ?_, r2, by simp only [FVRel]; exact r3⟩
        have : ps.map (fun (x : Nat × Operand) => (x.1, a.eval x.2)) = (ps.toList.map fun x => (x.1, a.eval x.2)).toArray := by apply Array.ext'; simp
        simp only [execOp, ho, Sem.run_bind, this]
        simp [r1]
      · cases h
    · cases h
  | load t x =>
    rw [ho] at h; simp only [ev] at h
    split at h
    · split at h
      · split at h <;> cases h
      · cases h
    · rename_i f hnot hx
      obtain ⟨h', rfl⟩ := optF_q h
      obtain ⟨val, r1, r2⟩ := evLoad_sound (P := P) hT R h' (R.opd hx)
      exact QOk.same R (by simp [execOp, ho, r1]) r2
    · cases h
  | store t x y =>
    rw [ho] at h; simp only [ev] at h
    split at h
    · split at h <;> cases h
    · cases h
  | fieldAddr t x i =>
    rw [ho] at h; simp only [ev] at h
    split at h
    · rename_i f hx
      obtain ⟨h', rfl⟩ := optF_q h
      obtain ⟨val, r1, r2⟩ := evFA_sound (P := P) (w := w) hT h' (R.opd hx)
      exact QOk.same R (by simp [execOp, ho, r1]) r2
    · cases h
  | field t x i =>
    rw [ho] at h; simp only [ev] at h
    split at h
    · rename_i f hx
      obtain ⟨h', rfl⟩ := optF_q h
      obtain ⟨val, r1, r2⟩ := evFd_sound (P := P) (w := w) hT h' (R.opd hx)
      exact QOk.same R (by simp [execOp, ho, r1]) r2
    · cases h
  | indexAddr t x i =>
    rw [ho] at h; simp only [ev] at h
    split at h
    · rename_i f g hx hi
      split at h
      · rename_i p' v' hia
        simp only [Ev.q.injEq] at h
        obtain ⟨rfl, rfl, rfl⟩ := h
        obtain ⟨val, r1, r2⟩ := evIA_at (P := P) hT R hia hp (R.opd hx) (R.opd hi)
        exact QOk.same R (by simp [execOp, ho, r1]) r2
      · cases h
      · cases h
    · cases h
  | binOp op t x y yt =>
    rw [ho] at h; simp only [ev] at h
    split at h
    · rename_i f g hx hy
      split at h
      · rename_i p' v' hb
        simp only [Ev.q.injEq] at h
        obtain ⟨rfl, rfl, rfl⟩ := h
        obtain ⟨val, r1, r2⟩ := evBin_sound (P := P) (w := w) hT hE hb hp (R.opd hx) (R.opd hy) x y
        refine QOk.same R ?_ r2
        simp only [execOp, ho, Sem.run_bind] at r1 ⊢
        rw [r1]; rfl
      · cases h
    · cases h
  | unOp op t x =>
    rw [ho] at h; simp only [ev] at h
    split at h
    · rename_i f hx
      obtain ⟨h', rfl⟩ := optF_q h
      obtain ⟨val, r1, r2⟩ := evUn_sound (P := P) (w := w) h' (R.opd hx)
      exact QOk.same R (by simp [execOp, ho, r1]) r2
    · cases h
  | convert src dst x =>
    rw [ho] at h; simp only [ev] at h
    split at h
    · rename_i f hx
      obtain ⟨h', rfl⟩ := optF_q h
      obtain ⟨val, r1, r2⟩ := evConv_sound (P := P) (w := w) hT h' (R.opd hx)
      exact QOk.same R (by simp [execOp, ho, r1]) r2
    · cases h
  | extract x i =>
    rw [ho] at h; simp only [ev] at h
    split at h
    · rename_i xs hx
      obtain ⟨h', rfl⟩ := optF_q h
      have hr := R.opd hx
      simp only [FVRel] at hr
      obtain ⟨vs, he, hvs⟩ := hr
      obtain ⟨u, h1, h2⟩ := getElem?_FVs hvs h'
      exact QOk.same R (by simp [execOp, ho, Instr.extract, he, h1]) h2
    · cases h
  | makeSlice t l c =>
    rw [ho] at h; simp only [ev] at h
    split at h
    · rename_i f g hx hy
      split at h
      · rename_i p' o' hm
        simp only [Ev.q.injEq] at h
        obtain ⟨rfl, rfl, rfl⟩ := h
        simp only [freshOs, Bool.and_eq_true, Option.isNone_iff_eq_none] at hf
        obtain ⟨val, w', β', r1, r2, r3⟩ := evMake_sound hT R hm hp (R.opd hx) (R.opd hy) hf.2
        exact ⟨val, w', β', by simp [execOp, ho, r1], r2, by simp only [FVRel]; exact r3⟩
      · cases h
    · cases h
  | slice t x lo hi mx =>
    rw [ho] at h
    cases mx with
    | none =>
      simp only [ev] at h
      split at h
      · rename_i f hx
        exact evSlice_sound hT R ho hx h hp
      · cases h
    | some m => simp [ev] at h
  | nilCheck x =>
    rw [ho] at h; simp only [ev] at h
    split at h
    · rename_i hx
      simp only [Ev.q.injEq] at h
      obtain ⟨_, rfl, rfl⟩ := h
      have hr := R.opd hx
      refine QOk.same R ?_ hr
      simp only [FVRel, CRel] at hr
      obtain ⟨_, g, _, he⟩ := hr
      simp [execOp, ho, he]
    · rename_i hx
      simp only [Ev.q.injEq] at h
      obtain ⟨_, rfl, rfl⟩ := h
      have hr := R.opd hx
      refine QOk.same R ?_ hr
      simp only [FVRel, CRel] at hr
      obtain ⟨_, g, _, _, _, he⟩ := hr
      simp [execOp, ho, he]
    · rename_i hx
      simp only [Ev.q.injEq] at h
      obtain ⟨_, rfl, rfl⟩ := h
      have hr := R.opd hx
      refine QOk.same R ?_ hr
      simp only [FVRel, CRel] at hr
      obtain ⟨b, off, he, _⟩ := hr
      simp [execOp, ho, he]
    · cases h
  | call c =>
    rw [ho] at h; simp only [ev] at h
    split at h
    · rename_i x t hc hargs hts
      split at h
      · rename_i f hx
        obtain ⟨h', rfl⟩ := optF_q h
        obtain ⟨val, r1, r2⟩ := evLen_sound (P := P) (ty := o.type) hT R h' (R.opd hx)
        refine QOk.same R ?_ r2
        have e1 : c.args = #[x] := by rw [← Array.toArray_toList (xs := c.args), hargs]
        have e2 : c.argTypes = #[t] := by rw [← Array.toArray_toList (xs := c.argTypes), hts]
        simp [execOp, ho, resolve, hc, e1, e2, invoke, builtin, r1]
      · cases h
    · split at h
      · unfold evApp at h
        repeat' split at h
        all_goals cases h
      · cases h
    · split at h
      · rename_i f g hx hy; obtain ⟨p, v, os, hq | hq⟩ := @evCopy_notq T (lk s.ob) _ f g <;> rw [hq] at h <;> cases h
      · cases h
    · rename_i x y hc hargs
      split at h
      · rename_i f g hx hy
        obtain ⟨h', rfl⟩ := optF_q h
        obtain ⟨val, r1, r2⟩ := evMM_sound (P := P) (w := w) (ts := c.argTypes) (t := o.type) h' (R.opd hx) (R.opd hy)
        refine QOk.same R ?_ r2
        have e1 : c.args = #[x, y] := by rw [← Array.toArray_toList (xs := c.args), hargs]
        simp only at r1
        simp [execOp, ho, resolve, hc, e1, invoke, builtin, r1]
      · cases h
    · rename_i x y hc hargs
      split at h
      · rename_i f g hx hy
        obtain ⟨h', rfl⟩ := optF_q h
        obtain ⟨val, r1, r2⟩ := evMM_sound (P := P) (w := w) (ts := c.argTypes) (t := o.type) h' (R.opd hx) (R.opd hy)
        refine QOk.same R ?_ r2
        have e1 : c.args = #[x, y] := by rw [← Array.toArray_toList (xs := c.args), hargs]
        simp only at r1
        simp [execOp, ho, resolve, hc, e1, invoke, builtin, r1]
      · cases h
    · split at h
      · split at h
        · split at h <;> cases h
        · cases h
      · cases h
    · cases h
  | makeMap t r =>
    rw [ho] at h
    cases r with
    | none =>
      simp only [ev] at h
      split at h
      · rename_i m hm
        simp only [Ev.q.injEq] at h
        obtain ⟨_, rfl, rfl⟩ := h
        simp only [freshOs, Bool.and_eq_true, Option.isNone_iff_eq_none] at hf
        have hx : m.xs = [] := by
          unfold evMM' at hm
          split at hm
          · split at hm
            · simp only [Option.some.injEq] at hm; subst hm; rfl
            · cases hm
          · cases hm
        obtain ⟨val, w', β', r1, r2, r3⟩ := makeMap_sound (P := P) R hx hf.2 t
        exact ⟨val, w', β', by simp [execOp, ho, r1], r2, r3⟩
      · cases h
    | some r => simp [ev] at h
  | lookup t x i co =>
    rw [ho] at h; simp only [ev] at h
    split at h
    · rename_i f g hx hi
      obtain ⟨h', rfl⟩ := optF_q h
      obtain ⟨val, r1, r2⟩ := evLk_sound (P := P) hT hE R h' (R.opd hx) (R.opd hi)
      exact QOk.same R (by simp [execOp, ho, r1]) r2
    · cases h
  | mapUpdate t m i x =>
    rw [ho] at h; simp only [ev] at h
    repeat' split at h
    all_goals cases h
  | insert t m i x =>
    rw [ho] at h; simp only [ev] at h
    repeat' split at h
    all_goals cases h
  | mapEntry t m i =>
    rw [ho] at h; simp only [ev] at h
    repeat' split at h
    all_goals cases h
  | entryStore t m i x =>
    rw [ho] at h; simp only [ev] at h
    repeat' split at h
    all_goals cases h
  | range t x =>
    rw [ho] at h; simp only [ev] at h
    split at h
    · rename_i f hx
      split at h
      · rename_i m hm
        simp only [Ev.q.injEq] at h
        obtain ⟨_, rfl, rfl⟩ := h
        simp only [freshOs, Bool.and_eq_true, Option.isNone_iff_eq_none] at hf
        obtain ⟨val, w', β', r1, r2, r3⟩ := evRg_sound (P := P) hT hE R hm (R.opd hx) hf.2
        exact ⟨val, w', β', by simp [execOp, ho, r1], r2, r3⟩
      · cases h
    · cases h
  | entry x =>
    rw [ho] at h; simp only [ev] at h
    split at h
    · rename_i f hx
      obtain ⟨h', rfl⟩ := optF_q h
      obtain ⟨val, r1, r2⟩ := evEn_sound (P := P) R h' (R.opd hx)
      exact QOk.same R (by simp [execOp, ho, r1]) r2
    · cases h
  | _ => rw [ho] at h; simp [ev] at h

end Go.Sm

namespace Go.Sm
open Go.RowKit

variable {P : Program} {N : Nat} {w0 : Base} {s : St} {a : Act} {w : World} {β : Nat → Value}

inductive It where
  | code (c : Code)
  | ops (all : Array Oper) (l : List Oper)
  | blk (id : Nat)
  | inv (p : St → Prop)

def cont (P : Program) (N : Nat) (w0 : Base) (Q : Exit → Act → World → Prop) : List It → Exit → Act → World → Prop
  | [], e, a, w => Q e a w
  | .code c :: k, .normal, a, w => c.wp P (cont P N w0 Q k) a w
  | .ops all l :: k, .normal, a, w => wpList P all (cont P N w0 Q k) l a w
  | .blk id :: k, .exit id', a, w => if id' = id then cont P N w0 Q k .normal a w else cont P N w0 Q k (.exit id') a w
  | .inv p :: _, .normal, a, w => ∃ s β, p s ∧ Rel N w0 s a w β
  | _ :: k, e, a, w => cont P N w0 Q k e a w

/-- Whatever frame and world fit the symbolic state: the rest of the code comes to the end asked for. -/
def J (P : Program) (N : Nat) (w0 : Base) (Q : Exit → Act → World → Prop) (k : List It) (s : St) : Prop :=
  ∀ a w β, Rel N w0 s a w β → cont P N w0 Q k .normal a w

def unw (id : Nat) : List It → Option (List It)
  | [] => none
  | .blk id' :: k => match Nat.beq id id' with
    | true => some k
    | false => unw id k
  | _ :: k => unw id k

def St.put (s : St) (d : Option Tmp) (f : FV) : St :=
  match d with
  | some d => ⟨(d, f) :: s.tm, s.ob⟩
  | none => s

/-- The results of a function in the symbolic state. -/
def resC (T : Tab) (s : St) : ResultVar → Option FV
  | .tmp t => lk s.tm t
  | .cell p ty => match lk s.tm p with
    | some f => match f with
      | .c (.ref k off) => evLoad T (lk s.ob) ty (.c (.ref k off))
      | _ => none
    | none => none

def expC (ob : Nat → Option Ob) : C → Option (D × List Nat)
  | .d (.v x) => some (.v x, [])
  | .ob k => match ob k with
    | some (.arr e z xs) => some (.own e z xs, [k])
    | _ => none
  | _ => none
def expCs (ob : Nat → Option Ob) : List C → Option (List D × List Nat)
  | [] => some ([], [])
  | c :: cs => match expC ob c, expCs ob cs with
    | some (d, k), some (ds, ks) => some (d :: ds, k ++ ks)
    | _, _ => none
def expF (ob : Nat → Option Ob) : FV → Option ((Bool × List D) × List Nat)
  | .c x => match expC ob x with
    | some (d, k) => some ((false, [d]), k)
    | none => none
  | .g xs => match expCs ob xs with
    | some (ds, k) => some ((true, ds), k)
    | none => none
  | _ => none
def expRs (T : Tab) (s : St) : List ResultVar → Option (List (Bool × List D) × List Nat)
  | [] => some ([], [])
  | r :: rs => match resC T s r with
    | some f => match expF (lk s.ob) f, expRs T s rs with
      | some (p, k), some (ps, ks) => some (p :: ps, k ++ ks)
      | _, _ => none
    | none => none
def toRV : List (Bool × List D) → RV
  | [(false, [d])] => .one d
  | [(true, ds)] => .agg ds
  | ps => .tup ps

/-- What a body leaves: its result; and the new contents of the arguments that it may change, by key. -/
structure Res where
  r : RV
  outs : List (Nat × D)

def expOs (ob : Nat → Option Ob) : List (Nat × D) → Option (List D)
  | [] => some []
  | (k, _) :: r => match ob k, expOs ob r with
    | some (.arr e z xs), some ds => some (.own e z xs :: ds)
    | _, _ => none

/-- At the end: the results are these data, made of objects of the function's own, each once. -/
def RetVC (T : Tab) (rs : List ResultVar) (r : Res) (s : St) : Prop :=
  match expRs T s rs, expOs (lk s.ob) r.outs with
  | some (ps, ks), some ds => (r.outs.map (·.1) ++ ks).Nodup ∧ freshCs ds = true ∧ freshCs (ps.flatMap (·.2)) = true ∧ toRV ps = r.r ∧ ds = r.outs.map (·.2)
  | _, _ => False

/-- A result, and the changed arguments: their memory is one's own, and no two parts share. -/
def OwnR (w : World) (w0 : Base) (r : Res) (v : Value) : Prop :=
  ∃ us vs, RShape r.r v vs ∧ us.map some = r.outs.map (fun p => w0.fix p.1) ∧ freshCs (r.outs.map (·.2) ++ cellsR r.r) = true ∧
    DsV (Rd w (fun _ => False) fun _ => False) (r.outs.map (·.2) ++ cellsR r.r) (us ++ vs) ∧
    (fpDs w (r.outs.map (·.2) ++ cellsR r.r) (us ++ vs)).Nodup ∧ ∀ b ∈ fpDs w (r.outs.map (·.2) ++ cellsR r.r) (us ++ vs), w0.mine b

structure Fn where
  P : Program
  T : Tab
  E : List (Nat × Nat)
  N : Nat
  rs : List ResultVar

def Fn.post (F : Fn) (w0 : Base) (r : Res) (fn : Func) : Exit → Act → World → Prop :=
  bodyPost F.P fn fun e w' => ∃ v, e = .returned v ∧ OwnR w' w0 r v ∧ Low w0 w0.toWorld w'

/-- A call: it comes back, and the rest goes on. -/
def CallW (P : Program) (N : Nat) (w0 : Base) (Q : Exit → Act → World → Prop) (k : List It) (s : St) (d : Nat) (f : FuncId) (fs : List FV) : Prop :=
  Entered P f ∧ ∀ a w β, Rel N w0 s a w β → ∀ vs, FVsV (s.en w w0.arg β) fs vs →
    Calls P f vs.toArray w fun e w' => ∃ v, e = .returned v ∧ ∃ s' β', Rel N w0 s' (a.put (some d) v) w' β' ∧ J P N w0 Q k s'

/-- A slice's literal that takes arrays of one's own in: the rest goes on. -/
def BsW (P : Program) (N : Nat) (w0 : Base) (Q : Exit → Act → World → Prop) (k : List It) (s : St) (d t len : Nat) (qs : List (Nat × List C)) : Prop :=
  ∀ a w β, Rel N w0 s a w β → ∀ vs, PartsRel (s.en w w0.arg β) qs vs →
    ∃ val w' s' β', (Instr.buildSlice t len vs.toArray).run P w = .ok val w' ∧ Rel N w0 s' (a.put (some d) val) w' β' ∧ J P N w0 Q k s'

/-- An operation with a rule of its own: it is carried out, and the rest goes on. -/
def OpW (P : Program) (N : Nat) (w0 : Base) (Q : Exit → Act → World → Prop) (all : Array Oper) (os : List Oper) (k : List It) (s : St) (o : Oper) : Prop :=
  ∀ a w β, Rel N w0 s a w β → o.wp P a w (wpList P all (cont P N w0 Q k) os) (cont P N w0 Q k)

/-- A key for what an operation makes. -/
def base : List (Nat × Ob) → Nat → Nat
  | [], d => d * 64
  | (k, _) :: r, d => match Nat.beq (k / 64) d with
    | true => max (k + 1) (base r d)
    | false => base r d

/-- The end of a round. -/
def InvW (p : St → Prop) (s : St) : Prop := p s

/-- What simp is to leave alone. -/
def Later (p : Prop) : Prop := p
theorem Later.mk {p : Prop} (h : p) : Later p := h
@[simp] theorem later_true : Later True := trivial
/-- Two ways to go on. -/
def br (b w : Bool) (A B : Prop) : Prop := Later (b = w → A) ∧ Later (b = (!w) → B)

def vc (F : Fn) (w0 : Base) (Q : Exit → Act → World → Prop) (E : St → Prop) : Nat → List It → St → Prop
  | 0, k, s => J F.P F.N w0 Q k s
  | _ + 1, [], s => E s
  | n + 1, .code c :: k, s => match c with
    | .skip => vc F w0 Q E n k s
    | .seq x y => vc F w0 Q E n (.code x :: .code y :: k) s
    | .block id c => vc F w0 Q E n (.code c :: .blk id :: k) s
    | .exit id => match unw id k with
      | some k' => vc F w0 Q E n k' s
      | none => False
    | .cond c x y => match s.opd c with
      | some (.c (.d (.v (.bool b)))) => br b true (vc F w0 Q E n (.code x :: k) s) (vc F w0 Q E n (.code y :: k) s)
      | _ => False
    | .region _ ops false => vc F w0 Q E n (.ops ops ops.toList :: k) s
    | .ret => E s
    | c => J F.P F.N w0 Q (.code c :: k) s
  | n + 1, .blk _ :: k, s => vc F w0 Q E n k s
  | _ + 1, .inv p :: _, s => InvW p s
  | n + 1, .ops _ [] :: k, s => vc F w0 Q E n k s
  | n + 1, .ops all (o :: os) :: k, s =>
    let go (s : St) : Prop := match o.dst with
      | some d => Nat.blt d F.N = true ∧ match ev F.T F.E s.opd (lk s.ob) (base s.ob d) o.type o.op with
        | .q p v ns => p ∧ freshOs s.ob ns = true ∧ vc F w0 Q E n (.ops all os :: k) ⟨(d, v) :: s.tm, ns ++ s.ob⟩
        | .el xs i => (0 ≤ i ∧ i < xs.length) ∧ Later (∀ e, xs[i.toNat]? = some e → vc F w0 Q E n (.ops all os :: k) ⟨(d, .c (.rd e)) :: s.tm, s.ob⟩)
        | .ld xs i j size agg => i < xs.length ∧ Later (∀ e, xs[i]? = some e → vc F w0 Q E n (.ops all os :: k) ⟨(d, ldV e j size agg) :: s.tm, s.ob⟩)
        | .call f fs => CallW F.P F.N w0 Q (.ops all os :: k) s d f fs
        | .bs t len qs => BsW F.P F.N w0 Q (.ops all os :: k) s d t len qs
        | .ef p v ns => p ∧ (lk s.ob (base s.ob d)).isNone = true ∧ vc F w0 Q E n (.ops all os :: k) ⟨(d, v) :: s.tm, ns ++ s.ob⟩
        | .fail => OpW F.P F.N w0 Q all os k s o
      | none => match ev F.T F.E s.opd (lk s.ob) 0 o.type o.op with
        | .ef p .und ns => p ∧ vc F w0 Q E n (.ops all os :: k) ⟨s.tm, ns ++ s.ob⟩
        | _ => OpW F.P F.N w0 Q all os k s o
    match o.guard with
    | none => go s
    | some (j, want) => match (all[j]?).bind (·.dst) with
      | some d => match lk s.tm d with
        | some (.c (.d (.v (.bool b)))) => br b want (go ⟨(d, .c (.d (.v (.bool want)))) :: s.tm, s.ob⟩)
            (vc F w0 Q E n (.ops all os :: k) ((⟨(d, .c (.d (.v (.bool (!want))))) :: s.tm, s.ob⟩ : St).put o.dst .und))
        | some .und => vc F w0 Q E n (.ops all os :: k) (s.put o.dst .und)
        | _ => False
      | none => False

end Go.Sm

namespace Go.Sm
open Go.RowKit

variable {P : Program} {N : Nat} {w0 : Base} {s : St} {a : Act} {w : World} {β : Nat → Value}

/-! ### the rest of the code -/

theorem cont_then {Q : Exit → Act → World → Prop} (y : Code) (k : List It) (e : Exit) (a : Act) (w : World) (h : cont P N w0 Q (.code y :: k) e a w) :
    Exit.then (y.wp P (cont P N w0 Q k)) (cont P N w0 Q k) e a w := by
  cases e <;> simpa only [cont, Exit.then] using h

theorem cont_seq {Q : Exit → Act → World → Prop} {x y : Code} {k : List It} {a : Act} {w : World} (h : cont P N w0 Q (.code x :: .code y :: k) .normal a w) : cont P N w0 Q (.code (.seq x y) :: k) .normal a w := by
  simp only [cont] at h ⊢
  exact wp_seq (wp_mono h fun e a w h => cont_then y k e a w h)

theorem cont_block {Q : Exit → Act → World → Prop} {c : Code} {id : Nat} {k : List It} {a : Act} {w : World} (h : cont P N w0 Q (.code c :: .blk id :: k) .normal a w) : cont P N w0 Q (.code (.block id c) :: k) .normal a w := by
  simp only [cont] at h ⊢
  refine wp_block (wp_mono h fun e a w h => ?_)
  cases e <;> simpa only [cont, Exit.inBlock] using h

theorem cont_unw {Q : Exit → Act → World → Prop} {id : Nat} {a : Act} {w : World} : ∀ {k k' : List It}, unw id k = some k' → cont P N w0 Q k' .normal a w → cont P N w0 Q k (.exit id) a w
  | [], k', h, _ => by simp [unw] at h
  | .blk id' :: k, k', h, hc => by
    simp only [unw] at h
    simp only [cont]
    split at h
    · rename_i hb
      simp only [Option.some.injEq] at h; subst h
      rw [if_pos (nat_beq hb)]; exact hc
    · rename_i hb
      rw [if_neg (fun e => by rw [e] at hb; simp at hb)]
      exact cont_unw h hc
  | .code c :: k, k', h, hc => by simp only [unw] at h; simp only [cont]; exact cont_unw h hc
  | .ops a l :: k, k', h, hc => by simp only [unw] at h; simp only [cont]; exact cont_unw h hc
  | .inv p :: k, k', h, hc => by simp only [unw] at h; simp only [cont]; exact cont_unw h hc

/-! ### the results -/

theorem expC_sound (R : Rel N w0 s a w β) {c : C} {d : D} {ks : List Nat} {v : Value} (h : expC (lk s.ob) c = some (d, ks)) (hv : CRel (s.en w w0.arg β) c v) (hf : d.fresh = true) :
    Rd w (fun _ => False) (fun _ => False) d v ∧ fp w d v = ks.flatMap (obFp (s.en w w0.arg β)) := by
  unfold expC at h
  split at h
  · simp only [Option.some.injEq, Prod.mk.injEq] at h
    obtain ⟨rfl, rfl⟩ := h
    have := hv.2.2
    simp only [Rd] at this ⊢
    exact ⟨this, by simp [fp]⟩
  · rename_i k
    split at h
    · rename_i e z xs hob
      simp only [Option.some.injEq, Prod.mk.injEq] at h
      obtain ⟨rfl, rfl⟩ := h
      obtain ⟨_, rfl, _⟩ := hv
      have hr : OwnRel w w0.arg (s.en w w0.arg β).M e z xs (β k) := R.ob k _ hob
      refine ⟨?_, ?_⟩
      · show Rd w (fun _ => False) _ _ (β k)
        simp only [Rd]
        rcases hr with hr | ⟨b, cap, cur, h1, h2, h3, h4, h5, h6⟩
        · exact .inl hr
        · exact .inr ⟨b, cap, cur, h1, h2, not_false, h3, h4, h5, RdEs.free xs 0 hf h6 fun _ _ => not_false⟩
      · simp only [List.flatMap_cons, List.flatMap_nil, List.append_nil]
        rw [obFp_arr (en := s.en w w0.arg β) hob]; rfl
    · cases h
  · cases h

theorem expCs_sound (R : Rel N w0 s a w β) : ∀ {cs : List C} {ds : List D} {ks : List Nat} {vs : List Value}, expCs (lk s.ob) cs = some (ds, ks) → CsRel (s.en w w0.arg β) cs vs → freshCs ds = true →
    DsV (Rd w (fun _ => False) fun _ => False) ds vs ∧ fpDs w ds vs = ks.flatMap (obFp (s.en w w0.arg β))
  | [], ds, ks, [], h, _, _ => by simp [expCs] at h; obtain ⟨rfl, rfl⟩ := h; exact ⟨rfl, rfl⟩
  | [], _, _, _ :: _, _, h, _ => h.elim
  | _ :: _, _, _, [], _, h, _ => h.elim
  | c :: cs, ds, ks, v :: vs, h, hv, hf => by
    simp only [expCs] at h
    split at h
    · rename_i d k ds' ks' h1 h2
      simp only [Option.some.injEq, Prod.mk.injEq] at h
      obtain ⟨rfl, rfl⟩ := h
      simp only [freshCs, Bool.and_eq_true] at hf
      obtain ⟨a1, a2⟩ := expC_sound R h1 hv.1 hf.1
      obtain ⟨b1, b2⟩ := expCs_sound R h2 hv.2 hf.2
      exact ⟨⟨v, vs, rfl, a1, b1⟩, by simp only [fpDs, List.headD_cons, List.tail_cons]; rw [a2, b2, List.flatMap_append]⟩
    · cases h

theorem expF_sound (R : Rel N w0 s a w β) {f : FV} {p : Bool × List D} {ks : List Nat} {v : Value} (h : expF (lk s.ob) f = some (p, ks)) (hv : FVRel (s.en w w0.arg β) f v) (hf : freshCs p.2 = true) :
    ∃ x, x.length = p.2.length ∧ (match p.1 with | true => v = .agg x.toArray | false => x = [v]) ∧ DsV (Rd w (fun _ => False) fun _ => False) p.2 x ∧ fpDs w p.2 x = ks.flatMap (obFp (s.en w w0.arg β)) := by
  unfold expF at h
  split at h
  · split at h
    · rename_i d k hd
      simp only [Option.some.injEq, Prod.mk.injEq] at h
      obtain ⟨rfl, rfl⟩ := h
      simp only [freshCs, Bool.and_true] at hf
      simp only [FVRel] at hv
      obtain ⟨a1, a2⟩ := expC_sound R hd hv hf
      exact ⟨[v], rfl, rfl, ⟨v, [], rfl, a1, rfl⟩, by simp [fpDs, a2]⟩
    · cases h
  · split at h
    · rename_i ds k hd
      simp only [Option.some.injEq, Prod.mk.injEq] at h
      obtain ⟨rfl, rfl⟩ := h
      simp only [FVRel] at hv
      obtain ⟨vs, rfl, hv⟩ := hv
      obtain ⟨a1, a2⟩ := expCs_sound R hd hv hf
      exact ⟨vs, a1.length, rfl, a1, a2⟩
    · cases h
  · cases h

def resultOne (tmps : Array Value) : ResultVar → Sem Value
  | .tmp t => pure (tmps.getD t undef)
  | .cell x t => do loadVar t (← asAddr (tmps.getD x undef))

theorem freshCs_append : ∀ (xs ys : List D), freshCs (xs ++ ys) = (freshCs xs && freshCs ys)
  | [], ys => by simp [freshCs]
  | x :: xs, ys => by simp [freshCs, freshCs_append xs ys, Bool.and_assoc]

theorem expRs_sound {T : Tab} (hT : TabOk P T) (R : Rel N w0 s a w β) : ∀ {rs : List ResultVar} {ps : List (Bool × List D)} {ks : List Nat}, expRs T s rs = some (ps, ks) → freshCs (ps.flatMap (·.2)) = true →
    ∃ us vs, (rs.mapM (resultOne a.tmps)).run P w = .ok us w ∧ CompShape ps us vs ∧ DsV (Rd w (fun _ => False) fun _ => False) (ps.flatMap (·.2)) vs ∧
      fpDs w (ps.flatMap (·.2)) vs = ks.flatMap (obFp (s.en w w0.arg β)) ∧ us.length = ps.length
  | [], ps, ks, h, _ => by simp [expRs] at h; obtain ⟨rfl, rfl⟩ := h; exact ⟨[], [], by simp, ⟨rfl, rfl⟩, rfl, rfl, rfl⟩
  | r :: rs, ps, ks, h, hf => by
    simp only [expRs] at h
    split at h
    · rename_i f hres
      split at h
      · rename_i p k ps' ks' h1 h2
        simp only [Option.some.injEq, Prod.mk.injEq] at h
        obtain ⟨rfl, rfl⟩ := h
        simp only [List.flatMap_cons, freshCs_append, Bool.and_eq_true] at hf
        obtain ⟨us, vs, q1, q2, q3, q4, q5⟩ := expRs_sound hT R h2 hf.2
        have hone : ∃ u, (resultOne a.tmps r).run P w = .ok u w ∧ FVRel (s.en w w0.arg β) f u := by
          cases r with
          | tmp t => exact ⟨_, rfl, R.tm t f hres⟩
          | cell x ty =>
            simp only [resC] at hres
            split at hres
            · rename_i g hx
              split at hres
              · have hr := R.tm x _ hx
                obtain ⟨val, l1, l2⟩ := evLoad_sound (P := P) hT R hres hr
                refine ⟨val, ?_, l2⟩
                simp only [FVRel, CRel] at hr
                obtain ⟨_, g, _, he⟩ := hr
                rw [he] at l1
                simp [Instr.loadAt, Instr.sureAddr] at l1
                simp only [resultOne, he]
                simp [asAddr, l1]
              · cases hres
            · cases hres
        obtain ⟨u, u1, u2⟩ := hone
        obtain ⟨x, x1, x2, x3, x4⟩ := expF_sound R h1 u2 hf.1
        refine ⟨u :: us, x ++ vs, by simp [List.mapM_cons, u1, q1], ⟨u, us, x, vs, rfl, rfl, x1, ?_, q2⟩, ?_, ?_, by simp [q5]⟩
        · exact x2
        · simp only [List.flatMap_cons]; exact x3.append q3
        · simp only [List.flatMap_cons, List.flatMap_append]
          rw [fpDs_app x3, x4, q4]
      · cases h
    · cases h

theorem results_run (fn : Func) (tmps : Array Value) {us : List Value} (h : (fn.results.toList.mapM (resultOne tmps)).run P w = .ok us w) :
    (results fn tmps).run P w = .ok (match us with | [u] => u | us => .tuple us.toArray) w := by
  have e : (fn.results.mapM (resultOne tmps)).run P w = .ok us.toArray w := by
    rw [← Array.toArray_toList (xs := fn.results), List.mapM_toArray]
    simp only [Sem.run_map, h, Result.andThen_ok]
  have hres : results fn tmps = (do
      let vs ← fn.results.mapM (resultOne tmps)
      pure (if h : vs.size = 1 then vs[0] else .tuple vs)) := by
    unfold results
    congr 1

  rw [hres]
  simp only [Sem.run_bind]
  rw [e]
  simp only [Result.andThen_ok, Sem.run_pure]
  match us with
  | [] => simp
  | [u] => simp
  | u :: v :: r => simp

theorem nodup_obFp (R : Rel N w0 s a w β) : ∀ {ks : List Nat}, ks.Nodup → (ks.flatMap (obFp (s.en w w0.arg β))).Nodup
  | [], _ => by simp
  | k :: ks, h2 => by
    obtain ⟨n1, n2⟩ := List.nodup_cons.1 h2
    rw [List.flatMap_cons]
    refine List.nodup_append.2 ⟨R.nd k, nodup_obFp R n2, ?_⟩
    intro x hx y hy e
    subst e
    obtain ⟨k', hk', hy'⟩ := List.mem_flatMap.1 hy
    exact R.dj k k' (fun e => n1 (by subst e; exact hk')) x hx hy'

theorem expOs_sound (R : Rel N w0 s a w β) : ∀ {os : List (Nat × D)} {ds : List D}, expOs (lk s.ob) os = some ds → freshCs ds = true →
    DsV (Rd w (fun _ => False) fun _ => False) ds (os.map fun p => β p.1) ∧ fpDs w ds (os.map fun p => β p.1) = (os.map (·.1)).flatMap (obFp (s.en w w0.arg β)) ∧ ∀ p ∈ os, (lk s.ob p.1).isSome = true
  | [], ds, h, _ => by simp [expOs] at h; subst h; exact ⟨rfl, rfl, fun _ h => nomatch h⟩
  | (k, d0) :: os, ds, h, hf => by
    simp only [expOs] at h
    split at h
    · rename_i e z xs ds' hk hds
      simp only [Option.some.injEq] at h; subst h
      simp only [freshCs, Bool.and_eq_true] at hf
      obtain ⟨h1, h2, h3⟩ := expOs_sound R hds hf.2
      have hr : OwnRel w w0.arg (s.en w w0.arg β).M e z xs (β k) := R.ob k _ hk
      have hone : (β k).oneCell' = true := by rcases hr with ⟨_, h⟩ | ⟨b, cap, cur, h, _⟩ <;> rw [h] <;> rfl
      obtain ⟨g1, g2⟩ := expC_sound R (c := .ob k) (d := .own e z xs) (ks := [k]) (v := β k) (by simp only [expC, hk]) ⟨by simp [St.en, hk], rfl, hone⟩ hf.1
      refine ⟨⟨β k, _, rfl, g1, h1⟩, ?_, ?_⟩
      · simp only [List.map_cons, fpDs, List.headD_cons, List.tail_cons, List.flatMap_cons]
        rw [g2, h2]; simp
      · intro p hp
        rcases List.mem_cons.1 hp with rfl | hp
        · simp [hk]
        · exact h3 p hp
    · cases h

theorem ret_sound {T : Tab} (hT : TabOk P T) (R : Rel N w0 s a w β) {rs : List ResultVar} {r : Res} (hfix : ∀ p ∈ r.outs, (w0.fix p.1).isSome = true) (h : RetVC T rs r s) (fn : Func) (hfn : fn.results.toList = rs) :
    a.defers = [] ∧ ∃ v, (results fn a.tmps).run P w = .ok v w ∧ ∃ v', Ending.returned v = .returned v' ∧ OwnR w w0 r v' ∧ Low w0 w0.toWorld w := by
  unfold RetVC at h
  split at h
  · rename_i ps ks ds h1 ho
    obtain ⟨h2, hfd, h3, hr, hds⟩ := h
    obtain ⟨us, vs, q1, q2, q3, q4, q5⟩ := expRs_sound hT R h1 h3
    obtain ⟨o1, o2, o3⟩ := expOs_sound R ho hfd
    subst hfn
    refine ⟨R.df, _, results_run fn a.tmps q1, _, rfl, ⟨r.outs.map fun p => β p.1, vs, ?_, ?_, ?_, ?_, ?_⟩, R.low⟩
    · rw [← hr]
      match ps, us, q2, q5 with
      | [], [], q2, _ => exact ⟨[], rfl, q2⟩
      | [(b, ds)], [u], q2, _ =>
        obtain ⟨u', r', x, c, hu, rfl, hx, hb, hr, rfl⟩ := q2
        simp only [List.cons.injEq] at hu
        obtain ⟨rfl, rfl⟩ := hu
        cases b with
        | true => simp only [toRV, RShape, List.append_nil]; exact hb
        | false =>
          simp only at hb
          subst hb
          match ds, hx with
          | [d], _ => simp [toRV, RShape]
      | p1 :: p2 :: ps, u1 :: u2 :: us, q2, _ =>
        simp only [toRV, RShape]
        exact ⟨_, rfl, q2⟩
    · simp only [List.map_map]
      refine List.map_congr_left fun p hp => ?_
      obtain ⟨c, hc⟩ := Option.isSome_iff_exists.1 (hfix p hp)
      simp only [Function.comp, hc, (R.fx _ _ hc).2]
    all_goals
      have hc : cellsR r.r = ps.flatMap (·.2) := by
        rw [← hr]
        match ps with
        | [] => rfl
        | [(true, ds)] => simp [toRV, cellsR]
        | [(false, [])] => simp [toRV, cellsR]
        | [(false, [d])] => simp [toRV, cellsR]
        | [(false, d :: e :: ds)] => simp [toRV, cellsR]
        | p1 :: p2 :: ps => simp [toRV, cellsR]
      rw [hc, ← hds]
    · rw [freshCs_append, hfd, h3]; rfl
    · exact o1.append q3
    · rw [fpDs_app o1, o2, q4, ← List.flatMap_append]
      refine ⟨nodup_obFp R h2, ?_⟩
      intro b hb
      obtain ⟨k, _, hb⟩ := List.mem_flatMap.1 hb
      exact R.ge k b hb
  · exact h.elim

end Go.Sm

namespace Go.Sm
open Go.RowKit

variable {P : Program} {N : Nat} {w0 : Base} {s : St} {a : Act} {w : World} {β : Nat → Value}

theorem evApp_notq {T : Tab} {ob : Nat → Option Ob} {k : Nat} {t t' : TypeId} {x y : FV} : ∃ p v os, evApp T ob k t t' x y = .ef p v os ∨ evApp T ob k t t' x y = .fail := by
  unfold evApp
  repeat' split
  all_goals first
    | exact ⟨_, _, _, .inl rfl⟩
    | exact ⟨True, .und, [], .inr rfl⟩

theorem evApp_v {T : Tab} {ob : Nat → Option Ob} {k : Nat} {t t' : TypeId} {x y v : FV} {p : Prop} {os : List (Nat × Ob)} (h : evApp T ob k t t' x y = .ef p v os) : v = .c (.ob k) := by
  unfold evApp at h
  repeat' split at h
  all_goals first
    | (simp only [Ev.ef.injEq] at h; exact h.2.1.symm)
    | cases h

/-- An element's address in a view. -/
theorem ev_el {T : Tab} {E : List (Nat × Nat)} (hT : TabOk P T) (R : Rel N w0 s a w β) {o : Oper} {k : Nat} {xs : List (List D)} {i : Int}
    (h : ev T E s.opd (lk s.ob) k o.type o.op = .el xs i) (hi : 0 ≤ i ∧ i < xs.length) :
    ∃ val, (execOp a.eval o).run P w = .ok (.value val) w ∧ ∀ e, xs[i.toNat]? = some e → FVRel (s.en w w0.arg β) (.c (.rd e)) val := by
  have hopt : ∀ {f : Option FV}, optF f ≠ .el xs i := by intro f; cases f <;> simp [optF]
  cases ho : o.op <;> rw [ho] at h <;> simp only [ev] at h
  case indexAddr t x ix =>
    split at h
    · rename_i f g hx hy
      split at h
      · cases h
      · rename_i xs' n hia
        simp only [Ev.el.injEq] at h
        obtain ⟨rfl, rfl⟩ := h
        obtain ⟨val, r1, r2⟩ := evIA_el (P := P) (en := s.en w w0.arg β) (w := w) hT hia hi (R.opd hx) (R.opd hy)
        exact ⟨val, by simp [execOp, ho, r1], r2⟩
      · cases h
    · cases h
  case call c =>
    exfalso
    repeat' split at h
    all_goals first
      | exact hopt h
      | (rename_i f g hx hy; obtain ⟨p, v, os, hq | hq⟩ := @evApp_notq T (lk s.ob) k _ _ f g <;> rw [hq] at h <;> cases h)
      | (rename_i f g hx hy; obtain ⟨p, v, os, hq | hq⟩ := @evCopy_notq T (lk s.ob) _ f g <;> rw [hq] at h <;> cases h)
      | cases h
  case makeMap t r =>
    exfalso
    cases r with
    | none =>
      simp only at h
      repeat' split at h
      all_goals cases h
    | some r => simp at h
  case slice t x lo hi mx =>
    exfalso
    cases mx with
    | none =>
      simp only at h
      unfold evSlice at h
      repeat' split at h
      all_goals cases h
    | some m => simp at h
  all_goals
    exfalso
    try unfold evAssign at h
    repeat' split at h
    all_goals first
      | exact hopt h
      | cases h

/-- A load from an element of an array of one's own. -/
theorem ev_ld {T : Tab} {E : List (Nat × Nat)} (hT : TabOk P T) (R : Rel N w0 s a w β) {o : Oper} {k : Nat} {xs : List (List D)} {i j size : Nat} {agg : Bool}
    (h : ev T E s.opd (lk s.ob) k o.type o.op = .ld xs i j size agg) {e : List D} (he : xs[i]? = some e) :
    ∃ val, (execOp a.eval o).run P w = .ok (.value val) w ∧ FVRel (s.en w w0.arg β) (ldV e j size agg) val := by
  have hopt : ∀ {f : Option FV}, optF f ≠ .ld xs i j size agg := by intro f; cases f <;> simp [optF]
  cases ho : o.op <;> rw [ho] at h <;> simp only [ev] at h
  case load t x =>
    split at h
    · rename_i k' z i' j' hx
      split at h
      · rename_i e' z' xs' ti hob hti
        split at h
        · rename_i hb
          simp only [Bool.and_eq_true, Bool.or_eq_true] at hb
          simp only [Ev.ld.injEq] at h
          obtain ⟨rfl, rfl, rfl, rfl, rfl⟩ := h
          obtain rfl := nat_beq hb.1.1
          have hfit := Nat.le_of_ble_eq_true hb.1.2
          have hty := hT t ti hti
          have hr := R.opd hx
          simp only [FVRel, CRel] at hr
          obtain ⟨_, g, L, cap, hβ, hav⟩ := hr
          have hβ' : β k' = .slice (some ⟨g, 0, none⟩) L cap := hβ
          have hown : OwnRel w w0.arg (s.en w w0.arg β).M e' z xs' (β k') := R.ob k' _ hob
          rcases hown with ⟨rfl, _⟩ | ⟨b, cap', cur, h1, h2, h3, h4, h5, h6⟩
          · simp at he
          · rw [hβ'] at h1
            simp only [Value.slice.injEq, Option.some.injEq, Addr.mk.injEq, and_true] at h1
            obtain ⟨rfl, rfl, rfl⟩ := h1
            obtain ⟨hel, hcs⟩ := RdEs.get _ _ _ _ h6 he
            rw [Nat.zero_add] at hcs
            have hd := (hcs.drop j').vals
            obtain ⟨vs, v1, v2⟩ := hd
            have hvl := v1.length
            have hsub : DsV (Rd w w0.arg (s.en w w0.arg β).M) ((e.drop j').take ti.size) (vs.take ti.size) := v1.take _
            have hlen : (vs.take ti.size).length = ti.size := by rw [List.length_take, hvl, List.length_drop, hel]; omega
            have hrun := run_loadVar_cells (P := P) (w := w) hty hlen (b := g) (off := i' * z + j') (fun n u hn => v2 n u (by
              rw [List.getElem?_take] at hn
              split at hn
              · exact hn
              · cases hn)) (fun ha => by
                rcases hb.2 with h | h
                · rw [ha] at h; cases h
                · exact nat_beq h)
            have hcsr : CsRel (s.en w w0.arg β) ((locCs ((e.drop j').take ti.size)).map C.d) (vs.take ti.size) := by
              refine CsRel_of_RdCs _ _ hsub.length fun n x u hx hu => ?_
              obtain ⟨v, hv, hq⟩ := hsub.get n x hx
              rw [hu] at hv
              simp only [Option.some.injEq] at hv; subst hv
              exact hq
            refine ⟨if ti.k.agg = true then .agg (vs.take ti.size).toArray else (vs.take ti.size).headD undef, ?_, ?_⟩
            · simp only [execOp, ho, Instr.loadAt, hav, Instr.sureAddr, Sem.run_bind, Sem.run_pure, Result.andThen_ok]
              rw [hrun]; rfl
            · unfold ldV
              cases ha : ti.k.agg with
              | true => simp only [if_true, FVRel]; exact ⟨_, rfl, hcsr⟩
              | false =>
                have h1 : ti.size = 1 := by
                  rcases hb.2 with h | h
                  · rw [ha] at h; cases h
                  · exact nat_beq h
                have hel1 : ((e.drop j').take ti.size).length = 1 := by rw [← hsub.length, hlen, h1]
                match hds : (e.drop j').take ti.size, hel1 with
                | [x], _ =>
                  rw [hds] at hcsr
                  match hvs : vs.take ti.size, hcsr with
                  | [u], hcsr =>
                    simp only [FVRel, Bool.false_eq_true, if_false]
                    simpa [locCs] using hcsr.1
        · cases h
      · cases h
    · exact absurd h hopt
    · cases h
  case call c =>
    exfalso
    repeat' split at h
    all_goals first
      | exact hopt h
      | (rename_i f g hx hy; obtain ⟨p, v, os, hq | hq⟩ := @evApp_notq T (lk s.ob) k _ _ f g <;> rw [hq] at h <;> cases h)
      | (rename_i f g hx hy; obtain ⟨p, v, os, hq | hq⟩ := @evCopy_notq T (lk s.ob) _ f g <;> rw [hq] at h <;> cases h)
      | cases h
  case makeMap t r =>
    exfalso
    cases r with
    | none =>
      simp only at h
      repeat' split at h
      all_goals cases h
    | some r => simp at h
  case slice t x lo hi mx =>
    exfalso
    cases mx with
    | none =>
      simp only at h
      unfold evSlice at h
      repeat' split at h
      all_goals cases h
    | some m => simp at h
  all_goals
    exfalso
    try unfold evAssign at h
    repeat' split at h
    all_goals first
      | exact hopt h
      | cases h

theorem argsV_sound (R : Rel N w0 s a w β) : ∀ {xs : List Operand} {fs : List FV}, argsV s.opd xs = some fs → FVsV (s.en w w0.arg β) fs (xs.map a.eval)
  | [], fs, h => by simp [argsV] at h; subst h; rfl
  | x :: xs, fs, h => by
    simp only [argsV] at h
    split at h
    · rename_i f fs' h1 h2
      simp only [Option.some.injEq] at h; subst h
      exact ⟨_, _, rfl, R.opd h1, argsV_sound R h2⟩
    · cases h

theorem argsR_sound (R : Rel N w0 s a w β) : ∀ {fs : List FV} {rs : List RV} {vs : List Value}, argsR (lk s.ob) fs = some rs → FVsV (s.en w w0.arg β) fs vs → AVs w rs vs
  | [], rs, vs, h, hv => by simp [argsR] at h; subst h; exact hv
  | f :: fs, rs, vs, h, hv => by
    simp only [argsR] at h
    obtain ⟨v, q, rfl, h3, h4⟩ := hv
    split at h
    · rename_i d ds h1 h2
      simp only [Option.some.injEq] at h; subst h
      exact ⟨_, _, rfl, argF_sound R h1 h3, argsR_sound R h2 h4⟩
    · cases h

theorem ev_call {T : Tab} {E : List (Nat × Nat)} (R : Rel N w0 s a w β) {o : Oper} {k f : Nat} {args : List FV} (h : ev T E s.opd (lk s.ob) k o.type o.op = .call f args) (hf : Entered P f) :
    ∃ vs, (execOp a.eval o).run P w = .ok (.enter f vs.toArray) w ∧ FVsV (s.en w w0.arg β) args vs := by
  have hopt : ∀ {g : Option FV}, optF g ≠ .call f args := by intro g; cases g <;> simp [optF]
  cases ho : o.op <;> rw [ho] at h <;> simp only [ev] at h
  case call c =>
    split at h
    · split at h
      · exact absurd h hopt
      · cases h
    · split at h
      · rename_i f g hx hy; obtain ⟨p, v, os, hq | hq⟩ := @evApp_notq T (lk s.ob) k _ _ f g <;> rw [hq] at h <;> cases h
      · cases h
    · split at h
      · rename_i f g hx hy; obtain ⟨p, v, os, hq | hq⟩ := @evCopy_notq T (lk s.ob) _ f g <;> rw [hq] at h <;> cases h
      · cases h
    · split at h
      · exact absurd h hopt
      · cases h
    · split at h
      · exact absurd h hopt
      · cases h
    · rename_i fo hc
      split at h
      · rename_i g fst cap hfo
        split at h
        · rename_i h1 h2
          split at h
          · rename_i rs hrs
            simp only [Ev.call.injEq] at h
            obtain ⟨rfl, rfl⟩ := h
            refine ⟨c.args.toList.map a.eval, ?_, argsV_sound R hrs⟩
            have hv := val_rel (R.opd hfo)
            have e1 : fst = #[] := Array.eq_empty_of_size_eq_zero h1
            have e2 : cap = #[] := Array.eq_empty_of_size_eq_zero h2
            subst e1; subst e2
            obtain ⟨fn, f1, f2, f3⟩ := hf
            have f2' : ¬ fn.name = "runtime.NumGoroutine" := by simpa using f2
            have f3' : ¬ fn.body = none := fun e => by rw [e] at f3; simp at f3
            simp [execOp, ho, resolve, hc, hv, Deferred.ofValue, invoke, callFunc, f1, f2', f3']
            apply Array.ext'; simp
          · cases h
        · cases h
      · cases h
    · cases h
  case makeMap t r =>
    exfalso
    cases r with
    | none =>
      simp only at h
      repeat' split at h
      all_goals cases h
    | some r => simp at h
  case slice t x lo hi mx =>
    exfalso
    cases mx with
    | none =>
      simp only at h
      unfold evSlice at h
      repeat' split at h
      all_goals cases h
    | some m => simp at h
  all_goals
    exfalso
    try unfold evAssign at h
    repeat' split at h
    all_goals first
      | exact hopt h
      | cases h

/-- A slice's literal that takes arrays of one's own in. -/
theorem ev_bs {T : Tab} {E : List (Nat × Nat)} (R : Rel N w0 s a w β) {o : Oper} {k t len : Nat} {qs : List (Nat × List C)} (h : ev T E s.opd (lk s.ob) k o.type o.op = .bs t len qs) :
    ∃ vs, PartsRel (s.en w w0.arg β) qs vs ∧ ∀ val w', (Instr.buildSlice t len vs.toArray).run P w = .ok val w' → (execOp a.eval o).run P w = .ok (.value val) w' := by
  have hopt : ∀ {f : Option FV}, optF f ≠ .bs t len qs := by intro f; cases f <;> simp [optF]
  cases ho : o.op <;> rw [ho] at h <;> simp only [ev] at h
  case buildSlice t' len' ps =>
    split at h
    · rename_i qs' hq
      split at h
      · cases h
      · simp only [Ev.bs.injEq] at h
        obtain ⟨rfl, rfl, rfl⟩ := h
        refine ⟨_, partsC_rel R hq, fun val w' hr => ?_⟩
        have : ps.map (fun (x : Nat × Operand) => (x.1, a.eval x.2)) = (ps.toList.map fun x => (x.1, a.eval x.2)).toArray := by apply Array.ext'; simp
        simp only [execOp, ho, Sem.run_bind, this]
        simp [hr]
    · cases h
  case call c =>
    split at h
    · split at h
      · exact absurd h hopt
      · cases h
    · split at h
      · rename_i f g hx hy; obtain ⟨p, v, os, hq | hq⟩ := @evApp_notq T (lk s.ob) k _ _ f g <;> rw [hq] at h <;> cases h
      · cases h
    · split at h
      · rename_i f g hx hy; obtain ⟨p, v, os, hq | hq⟩ := @evCopy_notq T (lk s.ob) _ f g <;> rw [hq] at h <;> cases h
      · cases h
    · split at h
      · exact absurd h hopt
      · cases h
    · split at h
      · exact absurd h hopt
      · cases h
    · split at h
      · split at h
        · split at h <;> cases h
        · cases h
      · cases h
    · cases h
  case makeMap t r =>
    exfalso
    cases r with
    | none =>
      simp only at h
      repeat' split at h
      all_goals cases h
    | some r => simp at h
  case slice t x lo hi mx =>
    exfalso
    cases mx with
    | none =>
      simp only at h
      unfold evSlice at h
      repeat' split at h
      all_goals cases h
    | some m => simp at h
  all_goals
    exfalso
    try unfold evAssign at h
    repeat' split at h
    all_goals first
      | exact hopt h
      | cases h

/-- An operation that writes. -/
theorem ev_ef {T : Tab} {E : List (Nat × Nat)} (hT : TabOk P T) (hE : ∀ t n, lk E t = some n → EqOk P t n) (R : Rel N w0 s a w β) {o : Oper} {k : Nat} {p : Prop} {v : FV} {os : List (Nat × Ob)}
    (h : ev T E s.opd (lk s.ob) k o.type o.op = .ef p v os) (hp : p) :
    (∃ w' β', (execOp a.eval o).run P w = .ok .skip w' ∧ v = .und ∧ Rel N w0 ⟨s.tm, os ++ s.ob⟩ a w' β') ∨
    (v ≠ .und ∧ (lk s.ob k = none → ∃ val w' β', (execOp a.eval o).run P w = .ok (.value val) w' ∧ Rel N w0 ⟨s.tm, os ++ s.ob⟩ a w' β' ∧ FVRel (St.en ⟨s.tm, os ++ s.ob⟩ w' w0.arg β') v val)) := by
  have hopt : ∀ {f : Option FV}, optF f ≠ .ef p v os := by intro f; cases f <;> simp [optF]
  cases ho : o.op <;> rw [ho] at h <;> simp only [ev] at h
  case store t x y =>
    split at h
    · rename_i f g hx hy
      split at h
      · rename_i pr k' o' hs
        simp only [Ev.ef.injEq] at h
        obtain ⟨rfl, rfl, rfl⟩ := h
        obtain ⟨w', r1, r2⟩ := evStore_sound (P := P) hT R hs hp (R.opd hx) (R.opd hy)
        exact .inl ⟨w', β, by simp [execOp, ho, r1], rfl, r2⟩
      · cases h
    · cases h
  case mapUpdate t m i x =>
    split at h
    · rename_i f g y hm hi hx
      split at h
      · rename_i k' o' hs
        simp only [Ev.ef.injEq] at h
        obtain ⟨_, rfl, rfl⟩ := h
        obtain ⟨w', r1, r2⟩ := evMU_sound (P := P) hT hE R hs (R.opd hm) (R.opd hi) (R.opd hx)
        exact .inl ⟨w', β, by simp [execOp, ho, r1], rfl, r2⟩
      · cases h
    · cases h
  case insert t m i x =>
    split at h
    · rename_i f g y hm hi hx
      split at h
      · rename_i k' o' hs
        simp only [Ev.ef.injEq] at h
        obtain ⟨_, rfl, rfl⟩ := h
        obtain ⟨w', r1, r2⟩ := evMU_sound (P := P) hT hE R hs (R.opd hm) (R.opd hi) (R.opd hx)
        exact .inl ⟨w', β, by simp [execOp, ho, r1], rfl, r2⟩
      · cases h
    · cases h
  case mapEntry t m i =>
    split at h
    · rename_i f g hm hi
      split at h
      · rename_i v' k' o' hs
        simp only [Ev.ef.injEq] at h
        obtain ⟨_, rfl, rfl⟩ := h
        obtain ⟨val, w', r1, r2, r3⟩ := evME_sound (P := P) hT hE R hs (R.opd hm) (R.opd hi)
        refine .inr ⟨?_, fun _ => ⟨val, w', β, by simp [execOp, ho, r1], r2, r3⟩⟩
        unfold evME at hs
        repeat' split at hs
        all_goals first
          | (simp only [Option.some.injEq, Prod.mk.injEq] at hs; rw [← hs.1]; simp)
          | cases hs
      · cases h
    · cases h
  case entryStore t m i x =>
    split at h
    · rename_i f g y hm hi hx
      split at h
      · rename_i pr k' o' hs
        simp only [Ev.ef.injEq] at h
        obtain ⟨rfl, rfl, rfl⟩ := h
        obtain ⟨w', r1, r2⟩ := evES_sound (P := P) (t := t) R hs hp (R.opd hm) (R.opd hi) (R.opd hx)
        exact .inl ⟨w', β, by simp [execOp, ho, r1], rfl, r2⟩
      · cases h
    · cases h
  case call c =>
    split at h
    · split at h
      · exact absurd h hopt
      · cases h
    · rename_i x y t t' hc hargs hts
      split at h
      · rename_i f g hx hy
        refine .inr ⟨by rw [evApp_v h]; simp, fun hk => ?_⟩
        obtain ⟨val, w', β', r1, r2, r3⟩ := evApp_sound (P := P) (ty := o.type) hT R h hp hk (R.opd hx) (R.opd hy)
        refine ⟨val, w', β', ?_, r2, r3⟩
        have e1 : c.args = #[x, y] := by rw [← Array.toArray_toList (xs := c.args), hargs]
        have e2 : c.argTypes = #[t, t'] := by rw [← Array.toArray_toList (xs := c.argTypes), hts]
        simp [execOp, ho, resolve, hc, e1, e2, invoke, builtin, r1]
      · cases h
    · rename_i x y t t' hc hargs hts
      split at h
      · rename_i f g hx hy
        obtain ⟨n, hn⟩ := evCopy_v h
        refine .inr ⟨by rw [hn]; simp, fun hk => ?_⟩
        obtain ⟨val, w', r1, r2, r3⟩ := evCopy_sound (P := P) (t' := t') (ty := o.type) hT R h hp (R.opd hx) (R.opd hy)
        refine ⟨val, w', β, ?_, r2, r3⟩
        have e1 : c.args = #[x, y] := by rw [← Array.toArray_toList (xs := c.args), hargs]
        have e2 : c.argTypes = #[t, t'] := by rw [← Array.toArray_toList (xs := c.argTypes), hts]
        simp [execOp, ho, resolve, hc, e1, e2, invoke, builtin, r1]
      · cases h
    · split at h
      · exact absurd h hopt
      · cases h
    · split at h
      · exact absurd h hopt
      · cases h
    · split at h
      · split at h
        · split at h <;> cases h
        · cases h
      · cases h
    · cases h
  case makeMap t r =>
    exfalso
    cases r with
    | none =>
      simp only at h
      repeat' split at h
      all_goals cases h
    | some r => simp at h
  case slice t x lo hi mx =>
    exfalso
    cases mx with
    | none =>
      simp only at h
      unfold evSlice at h
      repeat' split at h
      all_goals cases h
    | some m => simp at h
  all_goals
    exfalso
    try unfold evAssign at h
    repeat' split at h
    all_goals first
      | exact hopt h
      | cases h

end Go.Sm

namespace Go.Sm
open Go.RowKit

variable {P : Program} {N : Nat} {w0 : Base} {s : St} {a : Act} {w : World} {β : Nat → Value}

theorem impCs_append : ∀ (xs ys : List D) (k : Nat), impCs k (xs ++ ys) = impCs k xs ++ impCs (k + xs.length) ys
  | [], ys, k => by simp [impCs]
  | x :: xs, ys, k => by
    have := impCs_append xs ys (k + 1)
    rw [show k + 1 + xs.length = k + (xs.length + 1) by omega] at this
    cases x <;> simp [impCs, this]
theorem impCs_length : ∀ (xs : List D) (k : Nat), (impCs k xs).length = xs.length
  | [], k => rfl
  | x :: xs, k => by cases x <;> simp [impCs, impCs_length xs]

theorem CsRel.split {en : En} : ∀ {cs ds : List C} {vs us : List Value}, cs.length = vs.length → CsRel en (cs ++ ds) (vs ++ us) → CsRel en cs vs ∧ CsRel en ds us
  | [], ds, [], us, _, h => ⟨trivial, by simpa using h⟩
  | [], _, _ :: _, _, h, _ => by simp at h
  | _ :: _, _, [], _, h, _ => by simp at h
  | c :: cs, ds, v :: vs, us, hl, h => by
    obtain ⟨h1, h2⟩ := h
    obtain ⟨a, b⟩ := CsRel.split (cs := cs) (vs := vs) (by simpa using hl) h2
    exact ⟨⟨h1, a⟩, b⟩

theorem impOne_rel {en : En} {k : Nat} {x : D} {v : Value} (h : CsRel en (impCs k [x]) [v]) : FVRel en (match impCs k [x] with | [c] => .c c | _ => .und) v := by
  cases x <;> simp only [impCs] at h ⊢ <;> simp only [FVRel] <;> exact h.1

theorem impPs_rel {en : En} : ∀ {ps : List (Bool × List D)} {us vs : List Value} {k : Nat}, CompShape ps us vs → CsRel en (impCs k (ps.flatMap (·.2))) vs → FVsRel en (impPs k ps) us
  | [], us, vs, k, h, _ => by obtain ⟨rfl, _⟩ := h; simp [impPs, FVsRel]
  | (b, ds) :: ps, us, vs, k, h, hc => by
    obtain ⟨u, r, x, c, rfl, rfl, hx, hb, hr⟩ := h
    rw [List.flatMap_cons, impCs_append] at hc
    obtain ⟨h1, h2⟩ := CsRel.split (by rw [impCs_length, hx]) hc
    have ih := impPs_rel hr h2
    cases b with
    | true =>
      simp only at hb
      simp only [impPs, FVsRel]
      exact ⟨u, r, rfl, by simp only [FVRel]; exact ⟨x, hb, h1⟩, ih⟩
    | false =>
      simp only at hb
      subst hb
      match ds, hx with
      | [d], _ =>
        simp only [impPs, FVsRel]
        exact ⟨u, r, rfl, impOne_rel h1, by simpa using ih⟩

theorem impF_rel {en : En} {k : Nat} {q : RV} {v : Value} {vs : List Value} (h : RShape q v vs) (hc : CsRel en (impCs k (cellsR q)) vs) : FVRel en (impF k q) v := by
  cases q with
  | one x =>
    simp only [RShape] at h; subst h
    exact impOne_rel hc
  | agg xs => simp only [RShape] at h; simp only [impF, FVRel]; exact ⟨vs, h, hc⟩
  | tup ps =>
    obtain ⟨us, rfl, h⟩ := h
    simp only [impF, FVRel]
    exact ⟨us, rfl, impPs_rel h hc⟩

theorem Rel.retm (R : Rel N w0 s a w β) {d : Nat} {f : FV} (h : FVRel (s.en w w0.arg β) f (a.tmps.getD d undef)) : Rel N w0 ⟨(d, f) :: s.tm, s.ob⟩ a w β := by
  refine ⟨R.sz, R.df, ?_, R.ob, R.nd, R.dj, R.ge, R.low, R.fx⟩
  intro j g hj
  rw [lk_cons] at hj
  split at hj
  · rename_i e; subst e; simp only [Option.some.injEq] at hj; subst hj; exact h
  · exact R.tm j g hj

theorem Rel.putUnd (R : Rel N w0 s a w β) (d : Option Tmp) : Rel N w0 (s.put d .und) (a.put d undef) w β := by
  cases d with
  | none => exact R
  | some d =>
    by_cases hd : d < N
    · exact R.setTm hd (by simp only [FVRel])
    · have hd' : a.tmps.size ≤ d := by rw [R.sz]; exact Nat.le_of_not_lt hd
      have e : a.put (some d) undef = a := by
        simp only [Act.put]
        rw [Array.setIfInBounds_eq_of_size_le hd']
      rw [e]
      exact R.retm (by simp only [FVRel]; simp [hd'])

theorem yielded_bool {all : Array Oper} {j d : Nat} {b : Bool} {tmps : Array Value} (hj : (all[j]?).bind (·.dst) = some d) (h : tmps.getD d undef = .bool b) : yielded all tmps j = some b := by
  unfold yielded
  rw [hj]
  simp only [Option.bind_some]
  by_cases hd : d < tmps.size
  · simp [hd] at h ⊢
    rw [h]
  · simp [hd, undef] at h
theorem yielded_undef {all : Array Oper} {j d : Nat} {tmps : Array Value} (hj : (all[j]?).bind (·.dst) = some d) (h : tmps.getD d undef = undef) : yielded all tmps j = none := by
  unfold yielded
  rw [hj]
  simp only [Option.bind_some]
  by_cases hd : d < tmps.size
  · simp [hd] at h ⊢
    rw [h]; rfl
  · simp [hd]

structure FnOk (F : Fn) : Prop where
  T : TabOk F.P F.T
  E : ∀ t n, lk F.E t = some n → EqOk F.P t n

/-- One operation that is carried out. -/
theorem go_sound {F : Fn} (hF : FnOk F) {Q : Exit → Act → World → Prop} {all : Array Oper} {o : Oper} {os : List Oper} {k : List It}
    (R : Rel F.N w0 s a w β)
    (h : match o.dst with
      | some d => Nat.blt d F.N = true ∧ match ev F.T F.E s.opd (lk s.ob) (base s.ob d) o.type o.op with
        | .q p v ns => p ∧ freshOs s.ob ns = true ∧ J F.P F.N w0 Q (.ops all os :: k) ⟨(d, v) :: s.tm, ns ++ s.ob⟩
        | .el xs i => (0 ≤ i ∧ i < xs.length) ∧ ∀ e, xs[i.toNat]? = some e → J F.P F.N w0 Q (.ops all os :: k) ⟨(d, .c (.rd e)) :: s.tm, s.ob⟩
        | .ld xs i j size agg => i < xs.length ∧ ∀ e, xs[i]? = some e → J F.P F.N w0 Q (.ops all os :: k) ⟨(d, ldV e j size agg) :: s.tm, s.ob⟩
        | .call f fs => CallW F.P F.N w0 Q (.ops all os :: k) s d f fs
        | .bs t len qs => BsW F.P F.N w0 Q (.ops all os :: k) s d t len qs
        | .ef p v ns => p ∧ (lk s.ob (base s.ob d)).isNone = true ∧ J F.P F.N w0 Q (.ops all os :: k) ⟨(d, v) :: s.tm, ns ++ s.ob⟩
        | .fail => OpW F.P F.N w0 Q all os k s o
      | none => match ev F.T F.E s.opd (lk s.ob) 0 o.type o.op with
        | .ef p .und ns => p ∧ J F.P F.N w0 Q (.ops all os :: k) ⟨s.tm, ns ++ s.ob⟩
        | _ => OpW F.P F.N w0 Q all os k s o) :
    o.wp F.P a w (wpList F.P all (cont F.P F.N w0 Q k) os) (cont F.P F.N w0 Q k) := by
  have use : ∀ {s' : St} {a' : Act} {w' : World} {β' : Nat → Value}, J F.P F.N w0 Q (.ops all os :: k) s' → Rel F.N w0 s' a' w' β' → wpList F.P all (cont F.P F.N w0 Q k) os a' w' := by
    intro s' a' w' β' hj hr
    have := hj a' w' β' hr
    simpa only [cont] using this
  unfold Oper.wp
  cases hd : o.dst with
  | some d =>
    rw [hd] at h
    obtain ⟨hlt, h⟩ := h
    have hlt : d < F.N := by simpa [Nat.blt_eq] using hlt
    split at h
    · rename_i p v ns he
      obtain ⟨hp, hfr, hj⟩ := h
      obtain ⟨val, w', β', r1, r2, r3⟩ := ev_q hF.T hF.E R he hp hfr
      rw [r1, Oper.upon_value, hd]
      exact use hj (r2.setTm hlt r3)
    · rename_i xs i he
      obtain ⟨hi, hj⟩ := h
      obtain ⟨val, r1, r2⟩ := ev_el hF.T R he hi
      rw [r1, Oper.upon_value, hd]
      have hx : xs[i.toNat]? = some (xs[i.toNat]'(by omega)) := by simp
      exact use (hj _ hx) (R.setTm hlt (r2 _ hx))
    · rename_i xs i j size agg he
      obtain ⟨hi, hj⟩ := h
      have hx : xs[i]? = some (xs[i]'hi) := by simp
      obtain ⟨val, r1, r2⟩ := ev_ld hF.T R he hx
      rw [r1, Oper.upon_value, hd]
      exact use (hj _ hx) (R.setTm hlt r2)
    · rename_i f fs he
      obtain ⟨hent, hcall⟩ := h
      obtain ⟨vs, r1, r2⟩ := ev_call R he hent
      rw [r1, Oper.upon_enter]
      refine Calls.mono (hcall a w β R vs r2) fun e w' ⟨v, hv, s', β', hR, hj⟩ => ?_
      subst hv
      rw [hd]
      exact use hj hR
    · rename_i t len qs he
      obtain ⟨vs, r1, r2⟩ := ev_bs (P := F.P) R he
      obtain ⟨val, w', s', β', q1, q2, q3⟩ := h a w β R vs r1
      rw [r2 val w' q1, Oper.upon_value, hd]
      exact use q3 q2
    · rename_i p v ns he
      obtain ⟨hp, hfr, hj⟩ := h
      simp only [Option.isNone_iff_eq_none] at hfr
      rcases ev_ef hF.T hF.E R he hp with ⟨w', β', r1, rfl, r2⟩ | ⟨_, hval⟩
      · rw [r1, Oper.upon_skip, hd]
        exact use hj (r2.setTm hlt (by simp only [FVRel]))
      · obtain ⟨val, w', β', r1, r2, r3⟩ := hval hfr
        rw [r1, Oper.upon_value, hd]
        exact use hj (r2.setTm hlt r3)
    · have := h a w β R
      unfold Oper.wp at this
      exact this
  | none =>
    rw [hd] at h
    simp only at h
    split at h
    · rename_i p ns he
      obtain ⟨hp, hj⟩ := h
      rcases ev_ef hF.T hF.E R he hp with ⟨w', β', r1, _, r2⟩ | ⟨hne, _⟩
      · rw [r1, Oper.upon_skip, hd]
        exact use hj r2
      · exact absurd rfl hne
    · have := h a w β R
      unfold Oper.wp at this
      exact this

/-- A call of a function that changes no argument. -/
theorem CallW.ok {Q : Exit → Act → World → Prop} {k : List It} {d f : Nat} {fs : List FV} {args : List RV} {q : RV} (hd : d < N) (ha : argsR (lk s.ob) fs = some args) (hc : CallOK P f args q)
    (hfr : freshOs s.ob (impOs (d * 64) (cellsR q)) = true) (hj : J P N w0 Q k ⟨(d, impF (d * 64) q) :: s.tm, impOs (d * 64) (cellsR q) ++ s.ob⟩) : CallW P N w0 Q k s d f fs := by
  refine ⟨hc.1, fun a w β R vs hv => ?_⟩
  refine Calls.mono (hc.2 w vs (argsR_sound R ha hv)) fun e w' ⟨v, hv, hown, hb⟩ => ?_
  obtain ⟨us, q1, q2, q3, q4, q5⟩ := hown
  obtain ⟨β', g1, g2⟩ := R.import hb hfr q2 q3 q4 q5
  exact ⟨v, hv, _, β', g1.setTm hd (impF_rel q1 g2), hj⟩

/-- THE CONDITIONS SUFFICE. -/
theorem vc_soundQ {F : Fn} (hF : FnOk F) {Q : Exit → Act → World → Prop} {E : St → Prop} (hret : ∀ (s : St) (a : Act) (w : World) (β : Nat → Value), Rel F.N w0 s a w β → E s → Q .normal a w ∧ Q .ret a w) : ∀ (n : Nat) (k : List It) (s : St), vc F w0 Q E n k s → J F.P F.N w0 Q k s
  | 0, k, s, h => h
  | n + 1, [], s, h => by
    intro a w β R
    simp only [vc] at h
    exact (hret _ _ _ _ R h).1
  | n + 1, .code c :: k, s, h => by
    intro a w β R
    cases c with
    | skip => simp only [vc] at h; simp only [cont]; exact wp_skip (vc_soundQ hF hret n _ _ h a w β R)
    | seq x y => simp only [vc] at h; exact cont_seq (vc_soundQ hF hret n _ _ h a w β R)
    | block id c => simp only [vc] at h; exact cont_block (vc_soundQ hF hret n _ _ h a w β R)
    | exit id =>
      simp only [vc] at h
      split at h
      · rename_i k' hk; simp only [cont]; exact wp_exit (cont_unw hk (vc_soundQ hF hret n _ _ h a w β R))
      · exact h.elim
    | cond c x y =>
      simp only [vc] at h
      split at h
      · rename_i b hc
        obtain ⟨h1, h2⟩ := h
        have hb := bool_rel (R.opd hc)
        simp only [cont]
        exact wp_cond_split hb (fun e => by have := vc_soundQ hF hret n _ _ (h1 e) a w β R; simpa only [cont] using this)
          (fun e => by have := vc_soundQ hF hret n _ _ (h2 e) a w β R; simpa only [cont] using this)
      · exact h.elim
    | region id ops draw =>
      cases draw with
      | false =>
        simp only [vc] at h
        have := vc_soundQ hF hret n _ _ h a w β R
        simp only [cont] at this ⊢
        exact wp_region_list this
      | true => simp only [vc] at h; exact h a w β R
    | ret => simp only [vc] at h; simp only [cont]; exact wp_ret (by
        have : ∀ k : List It, cont F.P F.N w0 Q k .ret a w := by
          intro k
          induction k with
          | nil => exact (hret _ _ _ _ R h).2
          | cons x k ih => cases x <;> simpa only [cont] using ih
        exact this k)
    | loop c => simp only [vc] at h; exact h a w β R
    | _ => simp only [vc] at h; exact h a w β R
  | n + 1, .blk id :: k, s, h => by
    intro a w β R
    simp only [vc] at h
    have := vc_soundQ hF hret n _ _ h a w β R
    simpa only [cont] using this
  | n + 1, .inv p :: k, s, h => by
    intro a w β R
    simp only [vc] at h
    simp only [cont]
    exact ⟨s, β, h, R⟩
  | n + 1, .ops all [] :: k, s, h => by
    intro a w β R
    simp only [vc] at h
    simp only [cont]
    exact wpList_nil (vc_soundQ hF hret n _ _ h a w β R)
  | n + 1, .ops all (o :: os) :: k, s, h => by
    intro a w β R
    have ih : ∀ k s, vc F w0 Q E n k s → J F.P F.N w0 Q k s := fun k s h => vc_soundQ hF hret n k s h
    simp only [vc] at h
    simp only [cont]
    unfold wpList
    -- one operation, carried out, in whatever state
    have go : ∀ {s' : St}, Rel F.N w0 s' a w β → (match o.dst with
      | some d => Nat.blt d F.N = true ∧ match ev F.T F.E s'.opd (lk s'.ob) (base s'.ob d) o.type o.op with
        | .q p v ns => p ∧ freshOs s'.ob ns = true ∧ vc F w0 Q E n (.ops all os :: k) ⟨(d, v) :: s'.tm, ns ++ s'.ob⟩
        | .el xs i => (0 ≤ i ∧ i < xs.length) ∧ ∀ e, xs[i.toNat]? = some e → vc F w0 Q E n (.ops all os :: k) ⟨(d, .c (.rd e)) :: s'.tm, s'.ob⟩
        | .ld xs i j size agg => i < xs.length ∧ ∀ e, xs[i]? = some e → vc F w0 Q E n (.ops all os :: k) ⟨(d, ldV e j size agg) :: s'.tm, s'.ob⟩
        | .call f fs => CallW F.P F.N w0 Q (.ops all os :: k) s' d f fs
        | .bs t len qs => BsW F.P F.N w0 Q (.ops all os :: k) s' d t len qs
        | .ef p v ns => p ∧ (lk s'.ob (base s'.ob d)).isNone = true ∧ vc F w0 Q E n (.ops all os :: k) ⟨(d, v) :: s'.tm, ns ++ s'.ob⟩
        | .fail => OpW F.P F.N w0 Q all os k s' o
      | none => match ev F.T F.E s'.opd (lk s'.ob) 0 o.type o.op with
        | .ef p .und ns => p ∧ vc F w0 Q E n (.ops all os :: k) ⟨s'.tm, ns ++ s'.ob⟩
        | _ => OpW F.P F.N w0 Q all os k s' o) → o.wp F.P a w (wpList F.P all (cont F.P F.N w0 Q k) os) (cont F.P F.N w0 Q k) := by
      intro s' R' h'
      refine go_sound hF R' ?_
      cases hd : o.dst with
      | some d =>
        rw [hd] at h'
        simp only at h' ⊢
        refine ⟨h'.1, ?_⟩
        have h'' := h'.2
        split at h''
        · exact ⟨h''.1, h''.2.1, ih _ _ h''.2.2⟩
        · exact ⟨h''.1, fun e he => ih _ _ (h''.2 e he)⟩
        · exact ⟨h''.1, fun e he => ih _ _ (h''.2 e he)⟩
        · exact h''
        · exact h''
        · exact ⟨h''.1, h''.2.1, ih _ _ h''.2.2⟩
        · exact h''
      | none =>
        rw [hd] at h'
        simp only at h' ⊢
        split at h'
        · exact ⟨h'.1, ih _ _ h'.2⟩
        · exact h'
    have skip : ∀ {s' : St}, Rel F.N w0 s' a w β → vc F w0 Q E n (.ops all os :: k) (s'.put o.dst .und) →
        wpList F.P all (cont F.P F.N w0 Q k) os (a.put o.dst undef) w := by
      intro s' R' h'
      have := ih _ _ h' _ w β (R'.putUnd o.dst)
      simpa only [cont] using this
    cases hg : o.guard with
    | none =>
      rw [hg] at h
      have hw : Region.wanted o (yielded all a.tmps) = true := by simp [Region.wanted, hg]
      rw [if_pos hw]
      exact .inl (go R h)
    | some g =>
      obtain ⟨j, want⟩ := g
      rw [hg] at h
      simp only at h
      split at h
      · rename_i d hj
        split at h
        · rename_i b hb
          have hv := bool_rel (R.tm d _ hb)
          have hy := yielded_bool hj hv
          have hwt : Region.wanted o (yielded all a.tmps) = (b == want) := by
            simp only [Region.wanted, hg, hy]
            cases b <;> cases want <;> rfl
          have hre : ∀ c, b = c → Rel F.N w0 ⟨(d, .c (.d (.v (.bool c)))) :: s.tm, s.ob⟩ a w β := fun c e => R.retm (by rw [hv, e]; exact rel_bool _)
          by_cases hbw : b = want
          · rw [if_pos (by rw [hwt, hbw]; cases want <;> rfl)]
            exact .inl (go (hre want hbw) (h.1 hbw))
          · have hbn : b = (!want) := by cases b <;> cases want <;> first | rfl | exact absurd rfl hbw
            rw [if_neg (by rw [hwt, hbn]; cases want <;> exact fun h => nomatch h)]
            exact skip (hre _ hbn) (h.2 hbn)
        · rename_i hb
          have hv := R.tm d _ hb
          simp only [FVRel] at hv
          have hy := yielded_undef hj hv
          rw [if_neg (by simp [Region.wanted, hg, hy])]
          exact skip R h
        · exact h.elim
      · exact h.elim

theorem vc_sound {F : Fn} (hF : FnOk F) {r : Res} {fn : Func} (hfn : fn.results.toList = F.rs) (hfix : ∀ p ∈ r.outs, (w0.fix p.1).isSome = true) : ∀ (n : Nat) (k : List It) (s : St), vc F w0 (F.post w0 r fn) (RetVC F.T F.rs r) n k s → J F.P F.N w0 (F.post w0 r fn) k s :=
  vc_soundQ hF fun _ _ _ _ R h => ⟨ret_sound hF.T R hfix h fn hfn, ret_sound hF.T R hfix h fn hfn⟩

end Go.Sm

namespace Go.Sm
open Go.RowKit

variable {P : Program} {N : Nat} {w0 : Base} {s : St} {a : Act} {w : World} {β : Nat → Value}

/-! ### a function as a whole -/

def rvF : RV → FV
  | .one x => .c (.d x)
  | .agg xs => .g (xs.map C.d)
  | .tup _ => .und

def argTm : Nat → List RV → List (Nat × FV)
  | _, [] => []
  | i, r :: rs => (i, rvF r) :: argTm (i + 1) rs

def RV.plain : RV → Bool
  | .tup _ => false
  | _ => true

theorem CsRel_d {en : En} : ∀ {ds : List D} {vs : List Value}, DsV (Rd en.w en.B en.M) ds vs → ds.all noOwn = true → CsRel en (ds.map C.d) vs
  | [], vs, h, _ => by simp only [DsV] at h; subst h; trivial
  | d :: ds, vs, h, hn => by
    obtain ⟨v, r, rfl, h1, h⟩ := h
    simp only [List.all_cons, Bool.and_eq_true] at hn
    exact ⟨⟨by simpa [noOwn] using hn.1, h1.one, h1⟩, CsRel_d h hn.2⟩

theorem AV.rel {en : En} {r : RV} {v : Value} (hp : r.plain = true) (h : AV en.w r v) (hB : ∀ b, Old en.w b → en.B b) (hM : ∀ b, ¬ en.M b) : FVRel en (rvF r) v := by
  obtain ⟨vs, h1, h2, h3⟩ := h
  have K : Keeps en.w en.w (fun _ => False) en.M := ⟨Nat.le_refl _, fun _ _ _ => rfl, fun b hb => absurd hb (hM b)⟩
  have h4 : DsV (Rd en.w en.B en.M) (cellsR r) vs := h3.mono fun x v h => Rd.keep K x v (Rd.base hB x v h)
  have h5 := CsRel_d h4 h2
  cases r with
  | one x =>
    simp only [RShape] at h1; subst h1
    simp only [rvF, FVRel]
    exact h5.1
  | agg xs => simp only [RShape] at h1; simp only [rvF, FVRel]; exact ⟨vs, h1, h5⟩
  | tup ps => simp [RV.plain] at hp

theorem argTm_rel {en : En} (hB : ∀ b, Old en.w b → en.B b) (hM : ∀ b, ¬ en.M b) : ∀ {rs : List RV} {vs : List Value} {i : Nat}, rs.all RV.plain = true → AVs en.w rs vs →
    ∀ t f, lk (argTm i rs) t = some f → ∃ v, vs[t - i]? = some v ∧ i ≤ t ∧ FVRel en f v
  | [], vs, i, _, _, t, f, h => by simp [argTm, lk] at h
  | r :: rs, vs, i, hp, hv, t, f, h => by
    simp only [List.all_cons, Bool.and_eq_true] at hp
    obtain ⟨v, q, rfl, h1, h2⟩ := hv
    simp only [argTm, lk_cons] at h
    split at h
    · rename_i e; subst e
      simp only [Option.some.injEq] at h; subst h
      exact ⟨v, by simp, Nat.le_refl _, h1.rel hp.1 hB hM⟩
    · obtain ⟨u, u1, u2, u3⟩ := argTm_rel hB hM hp.2 h2 t f h
      exact ⟨u, by rw [show t - i = (t - (i + 1)) + 1 by omega]; simpa using u1, by omega, u3⟩

theorem AVs.length {w : World} : ∀ {rs : List RV} {vs : List Value}, AVs w rs vs → vs.length = rs.length
  | [], vs, h => by simp only [AVs] at h; subst h; rfl
  | r :: rs, vs, h => by obtain ⟨v, q, rfl, _, h⟩ := h; simp [h.length]

/-- The contract of a function, from the conditions at its body. -/
theorem callOK {F : Fn} (hF : FnOk F) {f : FuncId} {fn : Func} {c : Code} {args : List RV} {r : RV} (n : Nat) (hf : F.P.funcs[f]? = some fn) (hb : fn.body = some c) (hN : fn.ntmps = F.N)
    (hrs : fn.results.toList = F.rs) (hname : (fn.name == "runtime.NumGoroutine") = false) (hle : args.length ≤ F.N) (hp : args.all RV.plain = true)
    (h : ∀ w0 : Base, w0.ok64 → vc F w0 (F.post w0 ⟨r, []⟩ fn) (RetVC F.T F.rs ⟨r, []⟩) n [.code c] ⟨argTm 0 args, []⟩) : CallOK F.P f args r := by
  refine ⟨⟨fn, hf, hname, by rw [hb]; rfl⟩, fun w vs hv => ?_⟩
  let w0 : Base := ⟨w, fun _ => False, fun _ => none⟩
  refine Calls.mono (calls_of_wp (R := fun e w' => ∃ v, e = .returned v ∧ OwnR w' w0 ⟨r, []⟩ v ∧ Low w0 w0.toWorld w') hf hb ?_) ?_
  · have hl := hv.length
    have hj := vc_sound (w0 := w0) hF hrs (fun _ h => by cases h) n _ _ (h w0 fun _ _ h => by cases h)
    have hM : ∀ b, ¬ (St.en ⟨argTm 0 args, []⟩ w w0.arg fun _ => nilV).M b := by
      rintro b ⟨k, o, ho, _⟩
      simp [St.en, lk] at ho
    have R : Rel F.N w0 ⟨argTm 0 args, []⟩ { tmps := vs.toArray ++ Array.replicate (fn.ntmps - vs.toArray.size) undef, defers := [] } w fun _ => nilV := by
      refine ⟨by simp; omega, rfl, ?_, ?_, ?_, ?_, ?_, Low.refl _ _, fun _ _ h => nomatch h⟩
      · intro t f h
        obtain ⟨v, h1, h2, h3⟩ := argTm_rel (en := St.en ⟨argTm 0 args, []⟩ w w0.arg fun _ => nilV) (fun b hb => ⟨hb, not_false⟩) hM hp hv t f h
        simp only [Nat.sub_zero] at h1
        have hlt := (List.getElem?_eq_some_iff.1 h1).1
        have : (vs.toArray ++ Array.replicate (fn.ntmps - vs.toArray.size) undef).getD t undef = v := by
          rw [Array.getD_eq_getD_getElem?, Array.getElem?_append_left (by simpa using hlt)]
          simp [h1]
        rw [this]; exact h3
      · intro k o h; simp [lk] at h
      · intro k; simp [obFp, St.en, lk]
      · intro k k' _ b hb; simp [obFp, St.en, lk] at hb
      · intro k b hb; simp [obFp, St.en, lk] at hb
    have := hj _ w _ R
    simp only [cont] at this
    exact this
  · rintro e w' ⟨v, rfl, ⟨us, vs, h1, h2, h3, h4, h5, h6⟩, hlow⟩
    have : us = [] := by simpa using h2
    subst this
    simp only [List.map_nil, List.nil_append] at h3 h4 h5 h6
    exact ⟨v, rfl, ⟨vs, h1, h3, h4, h5, fun b hb => (h6 b hb).elim id False.elim⟩, ⟨⟨hlow.os, hlow.tape, hlow.output, hlow.size, fun k hk => hlow.block k ⟨hk, not_false⟩⟩, hlow.drawn⟩⟩

/-! ### states that fit -/

def ren (rn : List (Nat × Nat)) (k : Nat) : Nat := (lk rn k).getD k

def renC (rn : List (Nat × Nat)) : C → C
  | .d x => .d x
  | .ob k => .ob (ren rn k)
  | .win k z lo n => .win (ren rn k) z lo n
  | .ref k off => .ref (ren rn k) off
  | .re k z i j => .re (ren rn k) z i j
  | .rd xs => .rd xs
def C.keyIn (ks : List Nat) : C → Bool
  | .ob k | .win k _ _ _ | .ref k _ | .re k _ _ _ => ks.elem k
  | _ => true
mutual
def renF (rn : List (Nat × Nat)) : FV → FV
  | .c x => .c (renC rn x)
  | .g xs => .g (xs.map (renC rn))
  | .t xs => .t (renFs rn xs)
  | .und => .und
def renFs (rn : List (Nat × Nat)) : List FV → List FV
  | [] => []
  | x :: xs => renF rn x :: renFs rn xs
end
mutual
def FV.keysIn (ks : List Nat) : FV → Bool
  | .c x => x.keyIn ks
  | .g xs => xs.all (C.keyIn ks)
  | .t xs => keysInFs ks xs
  | .und => true
def keysInFs (ks : List Nat) : List FV → Bool
  | [] => true
  | x :: xs => x.keysIn ks && keysInFs ks xs
end
def renO (rn : List (Nat × Nat)) : Ob → Ob
  | .var cs => .var (cs.map (renC rn))
  | o => o
def Ob.keysIn (ks : List Nat) : Ob → Bool
  | .var cs => cs.all (C.keyIn ks)
  | _ => true

def fitTm (rn : List (Nat × Nat)) (ks : List Nat) (s : St) : List (Nat × FV) → Prop
  | [] => True
  | (x, f) :: r => f.keysIn ks = true ∧ lk s.tm x = some (renF rn f) ∧ fitTm rn ks s r
def fitOb (rn : List (Nat × Nat)) (ks : List Nat) (s : St) : List (Nat × Ob) → Prop
  | [] => True
  | (k, o) :: r => o.keysIn ks = true ∧ o.live = true ∧ lk s.ob (ren rn k) = some (renO rn o) ∧ fitOb rn ks s r

/-- The changeable arguments keep their keys. -/
def fitFix (rn : List (Nat × Nat)) (t : St) : List (Nat × Ob) → Bool
  | [] => true
  | (k, _) :: r => (Nat.ble 64 k || (Nat.beq (ren rn k) k && (lk t.ob k).isSome)) && fitFix rn t r

/-- The state t says no more than s does, with the objects' keys renamed. -/
def Fit (rn : List (Nat × Nat)) (s t : St) : Prop :=
  fitTm rn (t.ob.map (·.1)) s t.tm ∧ fitOb rn (t.ob.map (·.1)) s t.ob ∧ (t.ob.map fun x => ren rn x.1).Nodup ∧ fitFix rn t s.ob = true

theorem fitFix_lk {rn : List (Nat × Nat)} {t : St} : ∀ {l : List (Nat × Ob)} {k : Nat}, fitFix rn t l = true → k < 64 → (lk l k).isSome = true → ren rn k = k ∧ (lk t.ob k).isSome = true
  | [], k, _, _, h => by simp [lk] at h
  | (k', o) :: l, k, h, hk, hs => by
    simp only [fitFix, Bool.and_eq_true, Bool.or_eq_true] at h
    simp only [lk_cons] at hs
    split at hs
    · rename_i e; subst e
      rcases h.1 with h | h
      · have := Nat.le_of_ble_eq_true h; omega
      · exact ⟨nat_beq h.1, h.2⟩
    · exact fitFix_lk h.2 hk hs

theorem CRel.ren {en en' : En} {rn : List (Nat × Nat)} {ks : List Nat} (hw : en'.w = en.w) (hB : en'.B = en.B) (hM : ∀ b, en'.M b → en.M b) (hβ : ∀ k, en'.β k = en.β (ren rn k)) (hk : ∀ k ∈ ks, (en'.ob k).isSome = true)
    {c : C} {v : Value} (hc : c.keyIn ks = true) (h : CRel en (renC rn c) v) : CRel en' c v := by
  have K : Keeps en.w en'.w en.M en'.M := by rw [hw]; exact ⟨Nat.le_refl _, fun _ _ _ => rfl, fun b hb => .inl (hM b hb)⟩
  cases c with
  | d x => exact ⟨h.1, h.2.1, by rw [hB]; exact Rd.keep K x v h.2.2⟩
  | ob k =>
    have hkk := hk k (by simpa [C.keyIn] using hc)
    exact ⟨hkk, by rw [hβ]; exact h.2.1, h.2.2⟩
  | win k z lo n =>
    have hkk := hk k (by simpa [C.keyIn] using hc)
    exact ⟨hkk, by rw [hβ]; exact h.2⟩
  | ref k off =>
    have hkk := hk k (by simpa [C.keyIn] using hc)
    exact ⟨hkk, by rw [hβ]; exact h.2⟩
  | re k z i j =>
    have hkk := hk k (by simpa [C.keyIn] using hc)
    exact ⟨hkk, by rw [hβ]; exact h.2⟩
  | rd xs =>
    obtain ⟨b, off, h1, h2, h3, h4⟩ := h
    exact ⟨b, off, h1, K.not h3 h2, by rw [hw]; exact h3, by rw [hB]; exact RdCs.keep K (fun _ => by rw [hw]) xs off h4⟩

theorem CsRel.ren {en en' : En} {rn : List (Nat × Nat)} {ks : List Nat} (hw : en'.w = en.w) (hB : en'.B = en.B) (hM : ∀ b, en'.M b → en.M b) (hβ : ∀ k, en'.β k = en.β (ren rn k)) (hk : ∀ k ∈ ks, (en'.ob k).isSome = true) :
    ∀ {cs : List C} {vs : List Value}, cs.all (C.keyIn ks) = true → CsRel en (cs.map (renC rn)) vs → CsRel en' cs vs
  | [], [], _, _ => trivial
  | [], _ :: _, _, h => h.elim
  | _ :: _, [], _, h => h.elim
  | c :: cs, v :: vs, hc, h => by
    simp only [List.all_cons, Bool.and_eq_true] at hc
    exact ⟨CRel.ren hw hB hM hβ hk hc.1 h.1, CsRel.ren hw hB hM hβ hk hc.2 h.2⟩

mutual
theorem FVRel.ren {en en' : En} {rn : List (Nat × Nat)} {ks : List Nat} (hw : en'.w = en.w) (hB : en'.B = en.B) (hM : ∀ b, en'.M b → en.M b) (hβ : ∀ k, en'.β k = en.β (ren rn k)) (hk : ∀ k ∈ ks, (en'.ob k).isSome = true) :
    ∀ (f : FV) (v : Value), f.keysIn ks = true → FVRel en (renF rn f) v → FVRel en' f v
  | .c x, v, hc, h => by simp only [renF, FVRel] at h ⊢; simp only [FV.keysIn] at hc; exact CRel.ren hw hB hM hβ hk hc h
  | .g xs, v, hc, h => by
    simp only [renF, FVRel] at h ⊢; simp only [FV.keysIn] at hc
    obtain ⟨vs, h1, h2⟩ := h; exact ⟨vs, h1, CsRel.ren hw hB hM hβ hk hc h2⟩
  | .t xs, v, hc, h => by
    simp only [renF, FVRel] at h ⊢; simp only [FV.keysIn] at hc
    obtain ⟨vs, h1, h2⟩ := h; exact ⟨vs, h1, FVsRel.ren hw hB hM hβ hk xs vs hc h2⟩
  | .und, v, _, h => by simpa only [renF, FVRel] using h
theorem FVsRel.ren {en en' : En} {rn : List (Nat × Nat)} {ks : List Nat} (hw : en'.w = en.w) (hB : en'.B = en.B) (hM : ∀ b, en'.M b → en.M b) (hβ : ∀ k, en'.β k = en.β (ren rn k)) (hk : ∀ k ∈ ks, (en'.ob k).isSome = true) :
    ∀ (f : List FV) (v : List Value), keysInFs ks f = true → FVsRel en (renFs rn f) v → FVsRel en' f v
  | [], v, _, h => by simpa only [renFs, FVsRel] using h
  | x :: xs, v, hc, h => by
    simp only [renFs, FVsRel] at h ⊢
    simp only [keysInFs, Bool.and_eq_true] at hc
    obtain ⟨u, q, h1, h2, h3⟩ := h
    exact ⟨u, q, h1, FVRel.ren hw hB hM hβ hk x u hc.1 h2, FVsRel.ren hw hB hM hβ hk xs q hc.2 h3⟩
end
theorem fitTm_lk {rn : List (Nat × Nat)} {ks : List Nat} {s : St} : ∀ {tm : List (Nat × FV)}, fitTm rn ks s tm → ∀ x f, lk tm x = some f → f.keysIn ks = true ∧ lk s.tm x = some (renF rn f)
  | [], _, x, f, h => by simp [lk] at h
  | (y, g) :: tm, hf, x, f, h => by
    rw [lk_cons] at h
    split at h
    · rename_i e; subst e
      simp only [Option.some.injEq] at h; subst h
      exact ⟨hf.1, hf.2.1⟩
    · exact fitTm_lk hf.2.2 x f h
theorem fitOb_lk {rn : List (Nat × Nat)} {ks : List Nat} {s : St} : ∀ {ob : List (Nat × Ob)}, fitOb rn ks s ob → ∀ k o, lk ob k = some o → o.keysIn ks = true ∧ o.live = true ∧ lk s.ob (ren rn k) = some (renO rn o)
  | [], _, x, f, h => by simp [lk] at h
  | (y, g) :: ob, hf, x, f, h => by
    rw [lk_cons] at h
    split at h
    · rename_i e; subst e
      simp only [Option.some.injEq] at h; subst h
      exact ⟨hf.1, hf.2.1, hf.2.2.1⟩
    · exact fitOb_lk hf.2.2.2 x f h

theorem lk_mem {α : Type} : ∀ {l : List (Nat × α)} {k : Nat} {o : α}, lk l k = some o → k ∈ l.map (·.1)
  | [], k, o, h => by simp [lk] at h
  | (j, x) :: l, k, o, h => by
    rw [lk_cons] at h
    split at h
    · rename_i e; subst e; simp
    · exact List.mem_cons_of_mem _ (lk_mem h)
theorem mem_lk {α : Type} : ∀ {l : List (Nat × α)} {k : Nat}, k ∈ l.map (·.1) → (lk l k).isSome = true
  | [], k, h => by simp at h
  | (j, x) :: l, k, h => by
    rw [lk_cons]
    split
    · rfl
    · rename_i e
      rcases List.mem_cons.1 h with h | h
      · exact absurd h.symm e
      · exact mem_lk h

theorem ren_inj {rn : List (Nat × Nat)} : ∀ {l : List (Nat × Ob)}, (l.map fun x => ren rn x.1).Nodup → ∀ k k', k ∈ l.map (·.1) → k' ∈ l.map (·.1) → ren rn k = ren rn k' → k = k'
  | [], _, k, k', h, _, _ => by simp at h
  | (j, x) :: l, hn, k, k', h, h', e => by
    simp only [List.map_cons] at hn h h'
    obtain ⟨n1, n2⟩ := List.nodup_cons.1 hn
    have hm : ∀ q, q ∈ l.map (·.1) → ren rn q ∈ l.map fun x => ren rn x.1 := by
      intro q hq
      obtain ⟨y, hy, rfl⟩ := List.mem_map.1 hq
      exact List.mem_map.2 ⟨y, hy, rfl⟩
    rcases List.mem_cons.1 h with h1 | h1 <;> rcases List.mem_cons.1 h' with h2 | h2
    · rw [h1, h2]
    · refine absurd ?_ n1
      rw [← h1, e]; exact hm k' h2
    · refine absurd ?_ n1
      rw [← h2, ← e]; exact hm k h1
    · exact ren_inj n2 k k' h1 h2 e

theorem Fit.rel (hw : w0.ok64) {rn : List (Nat × Nat)} {s t : St} (h : Fit rn s t) (R : Rel N w0 s a w β) : Rel N w0 t a w (fun k => β (ren rn k)) := by
  obtain ⟨h1, h2, h3, h4⟩ := h
  have hM : ∀ b, (t.en w w0.arg fun k => β (ren rn k)).M b → (s.en w w0.arg β).M b := by
    rintro b ⟨k, o, ho, hl, hb⟩
    obtain ⟨_, _, q3⟩ := fitOb_lk h2 k o ho
    exact ⟨ren rn k, renO rn o, q3, by cases o <;> simp_all [renO, Ob.live], hb⟩
  have hk : ∀ k ∈ t.ob.map (·.1), ((t.en w w0.arg fun k => β (ren rn k)).ob k).isSome = true := fun k hk => mem_lk hk
  have hfp : ∀ k o, lk t.ob k = some o → obFp (t.en w w0.arg fun k => β (ren rn k)) k = obFp (s.en w w0.arg β) (ren rn k) := by
    intro k o ho
    obtain ⟨_, _, q3⟩ := fitOb_lk h2 k o ho
    unfold obFp
    show (match lk t.ob k with | some (.var _) => _ | some (.mp _) => _ | some (.it _ _ _) => _ | some (.arr e s xs) => _ | _ => []) = (match lk s.ob (ren rn k) with | some (.var _) => _ | some (.mp _) => _ | some (.it _ _ _) => _ | some (.arr e s xs) => _ | _ => [])
    rw [ho, q3]
    cases o <;> rfl
  have hno : ∀ k, lk t.ob k = none → obFp (t.en w w0.arg fun k => β (ren rn k)) k = [] := by
    intro k hk
    unfold obFp
    show (match lk t.ob k with | some (.var _) => _ | some (.mp _) => _ | some (.it _ _ _) => _ | some (.arr e s xs) => _ | _ => []) = []
    rw [hk]
  refine ⟨R.sz, R.df, ?_, ?_, ?_, ?_, ?_, R.low, fun k c hk => ?_⟩
  · intro x f hf
    obtain ⟨q1, q2⟩ := fitTm_lk h1 x f hf
    exact FVRel.ren (en := s.en w w0.arg β) (en' := t.en w w0.arg fun k => β (ren rn k)) rfl rfl hM (fun _ => rfl) hk f _ q1 (R.tm x _ q2)
  · intro k o ho
    obtain ⟨q1, q2, q3⟩ := fitOb_lk h2 k o ho
    have hr := R.ob _ _ q3
    have K : Keeps w w (s.en w w0.arg β).M (t.en w w0.arg fun k => β (ren rn k)).M := ⟨Nat.le_refl _, fun _ _ _ => rfl, fun b hb => .inl (hM b hb)⟩
    cases o with
    | dead => trivial
    | var cs =>
      obtain ⟨g, cur, T, r1, r2, r3⟩ := hr
      exact ⟨g, cur, T, r1, r2, CsRel.ren (en := s.en w w0.arg β) (en' := t.en w w0.arg fun k => β (ren rn k)) rfl rfl hM (fun _ => rfl) hk q1 r3⟩
    | arr e z xs =>
      show OwnRel w w0.arg _ e z xs (β (ren rn k))
      exact OwnRel.step K (fun _ _ => rfl) hr
    | mp xs => exact hr
    | it m rem last =>
      obtain ⟨g, r, since, seen, st, r1, r2, r3, r4⟩ := hr
      exact ⟨g, r, since, seen, st, r1, r2, Rd.keep K _ _ r3, r4⟩
  · intro k
    cases ho : lk t.ob k with
    | none => rw [hno k ho]; exact List.nodup_nil
    | some o => rw [hfp k o ho]; exact R.nd _
  · intro k k' hne b hb hb'
    cases ho : lk t.ob k with
    | none => rw [hno k ho] at hb; cases hb
    | some o =>
      cases ho' : lk t.ob k' with
      | none => rw [hno k' ho'] at hb'; cases hb'
      | some o' =>
        rw [hfp k o ho] at hb
        rw [hfp k' o' ho'] at hb'
        exact R.dj _ _ (fun e => hne (ren_inj h3 k k' (lk_mem ho) (lk_mem ho') e)) b hb hb'
  · intro k b hb
    cases ho : lk t.ob k with
    | none => rw [hno k ho] at hb; cases hb
    | some o => rw [hfp k o ho] at hb; exact R.ge _ b hb
  · obtain ⟨q2, q3⟩ := R.fx k c hk
    obtain ⟨q4, q5⟩ := fitFix_lk h4 (hw k c hk) q2
    exact ⟨q5, by rw [q4]; exact q3⟩

theorem J.fit (hw : w0.ok64) {rn : List (Nat × Nat)} {s t : St} {Q : Exit → Act → World → Prop} {k : List It} (h : Fit rn s t) (hj : J P N w0 Q k t) : J P N w0 Q k s :=
  fun a w _ R => hj a w _ (h.rel hw R)

/-! ### loops -/

theorem cont_loop {Q : Exit → Act → World → Prop} {k : List It} {p : St → Prop} {e : Exit} {a : Act} {w : World} (h : cont P N w0 Q (.inv p :: k) e a w) :
    Exit.then (fun a w => ∃ s β, p s ∧ Rel N w0 s a w β) (cont P N w0 Q k) e a w := by
  cases e <;> simpa only [cont, Exit.then] using h

/-- The keys that the objects of a state have in another, as the slots tell. -/
def rnC : C → C → List (Nat × Nat)
  | .ob k', .ob k => [(k, k')]
  | .win k' _ _ _, .win k _ _ _ => [(k, k')]
  | .ref k' _, .ref k _ => [(k, k')]
  | .re k' _ _ _, .re k _ _ _ => [(k, k')]
  | _, _ => []
def rnCs : List C → List C → List (Nat × Nat)
  | c' :: cs', c :: cs => rnC c' c ++ rnCs cs' cs
  | _, _ => []
def rnF : FV → FV → List (Nat × Nat)
  | .c c', .c c => rnC c' c
  | .g cs', .g cs => rnCs cs' cs
  | _, _ => []
def rnTm (s : St) : List (Nat × FV) → List (Nat × Nat)
  | [] => []
  | (x, f) :: r => (match lk s.tm x with
    | some f' => rnF f' f
    | none => []) ++ rnTm s r
def rnOb (s : St) (rn : List (Nat × Nat)) : List (Nat × Ob) → List (Nat × Nat)
  | [] => []
  | (k, .var cs) :: r => (match lk s.ob (ren rn k) with
    | some (.var cs') => rnCs cs' cs
    | _ => []) ++ rnOb s rn r
  | _ :: r => rnOb s rn r
def autoRn (s t : St) : List (Nat × Nat) := rnTm s t.tm ++ rnOb s (rnTm s t.tm) t.ob

/-- The next round's state. -/
def Nxt {ι : Type} (inv : ι → St) (I : ι → Prop) (μ : ι → Nat) (i : ι) (s' : St) : Prop := ∃ i', I i' ∧ Fit (autoRn s' (inv i')) s' (inv i') ∧ μ i' < μ i
theorem Nxt.mk {ι : Type} {inv : ι → St} {I : ι → Prop} {μ : ι → Nat} {i : ι} {s' : St} (i' : ι) (h1 : I i') (h2 : Fit (autoRn s' (inv i')) s' (inv i')) (h3 : μ i' < μ i) : InvW (Nxt inv I μ i) s' := ⟨i', h1, h2, h3⟩

/-- A loop: a family of states, of which each round leads to one with a smaller measure. -/
theorem J.loop (hw : w0.ok64) {Q : Exit → Act → World → Prop} {c : Code} {k : List It} {ι : Type} (inv : ι → St) (I : ι → Prop) (μ : ι → Nat)
    (i0 : ι) (hi0 : I i0) (h0 : Fit (autoRn s (inv i0)) s (inv i0))
    (h : ∀ i, I i → J P N w0 Q (.code c :: .inv (Nxt inv I μ i) :: k) (inv i)) : J P N w0 Q (.code (.loop c) :: k) s := by
  intro a w β R
  simp only [cont]
  intro b kk cs
  have key : ∀ n i a w β, I i → μ i = n → Rel N w0 (inv i) a w β →
      ∃ e a' w', cont P N w0 Q k e a' w' ∧ Arrives P (lone (b.at a (.code c :: .inLoop c :: kk)) cs w) b kk cs e a' w' := by
    intro n
    induction n using Nat.strongRecOn with
    | _ n ih =>
      intro i a w β hIi hn hI
      have hr := h i hIi a w β hI
      simp only [cont] at hr
      obtain ⟨e, a₁, w₁, hq, harr⟩ := hr b (.inLoop c :: kk) cs
      have hq' := cont_loop hq
      cases e with
      | normal =>
        obtain ⟨s', β', ⟨i', hIi', hfit, hlt⟩, hR⟩ := hq'
        obtain ⟨e₂, a₂, w₂, hq₂, harr₂⟩ := ih (μ i') (hn ▸ hlt) i' a₁ w₁ _ hIi' rfl (hfit.rel hw hR)
        exact ⟨e₂, a₂, w₂, hq₂, .of_steps (Steps.trans harr (.one step_inLoop)) harr₂⟩
      | exit id => exact ⟨_, a₁, w₁, hq', .pass (x := .inLoop c) rfl (fun _ _ => .inl (by simp)) harr⟩
      | goto l => exact ⟨_, a₁, w₁, hq', .pass (x := .inLoop c) rfl (fun _ _ => .inl (by simp)) harr⟩
      | ret => exact ⟨_, a₁, w₁, hq', .pass (x := .inLoop c) rfl (fun _ _ => .inl (by simp)) harr⟩
      | panic ch => exact ⟨_, a₁, w₁, hq', .pass (x := .inLoop c) rfl (fun _ _ => .inl (by simp)) harr⟩
      | outgrown => exact ⟨_, a₁, w₁, hq', .pass (x := .inLoop c) rfl (fun _ _ => .inl (by simp)) harr⟩
  obtain ⟨e, a', w', hq, harr⟩ := key _ i0 a w _ hi0 rfl (h0.rel hw R)
  exact ⟨e, a', w', hq, .of_steps (.one step_loop) harr⟩

end Go.Sm

namespace Go.Sm
open Go.RowKit

/-- What one knows, the other knows. -/
def Le {α : Type} (f g : Nat → Option α) : Prop := ∀ k x, f k = some x → g k = some x

variable {T : Tab} {E : List (Nat × Nat)} {ρ ρ' : Operand → Option FV} {ob ob' : Nat → Option Ob}

theorem evLoad_mono (ho : Le ob ob') {t : TypeId} {x f : FV} (h : evLoad T ob t x = some f) : evLoad T ob' t x = some f := by
  unfold evLoad at h ⊢
  split at h
  · split at h
    · rename_i h2
      rw [ho _ _ h2]; simpa [*] using h
    · cases h
  · exact h
  · cases h

theorem evIA_mono (ho : Le ob ob') {t : Nat} {x i : FV} {r : IA} (h : evIA T ob t x i = r) (hr : r ≠ .no) : evIA T ob' t x i = r := by
  subst h
  unfold evIA at hr ⊢
  split
  · split
    · rfl
    · split
      · split
        · rename_i k
          cases hk : ob k with
          | none => simp_all
          | some o => rw [ho _ _ hk]
        · rfl
        · rfl
        · rfl
      · rfl
    · rfl
  · rfl

theorem evLen_mono (ho : Le ob ob') {t : TypeId} {x f : FV} (h : evLen T ob t x = some f) : evLen T ob' t x = some f := by
  unfold evLen at h ⊢
  cases ht : lk T t with
  | none => simp [ht] at h
  | some ti =>
    simp only [ht] at h ⊢
    split at h
    · rename_i k _
      cases hk : ob k with
      | none => simp [hk] at h
      | some o => rw [hk] at h; rw [ho _ _ hk]; exact h
    · exact h
    · exact h
    · rename_i k _
      cases hk : ob k with
      | none => simp [hk] at h
      | some o => rw [hk] at h; rw [ho _ _ hk]; exact h
    · exact h
    · cases h

theorem evStore_mono (ho : Le ob ob') {t : Nat} {p x : FV} {r : Prop × Nat × Ob} (h : evStore T ob t p x = some r) : evStore T ob' t p x = some r := by
  unfold evStore at h ⊢
  split at h
  · split at h
    · split at h
      · rename_i k off
        cases hk : ob k with
        | none => simp [hk] at h
        | some o => rw [hk] at h; rw [ho _ _ hk]; exact h
      · rename_i k z i j
        cases hk : ob k with
        | none => simp [hk] at h
        | some o => rw [hk] at h; rw [ho _ _ hk]; exact h
      · cases h
    · cases h
  · cases h

theorem bnd_mono (hρ : ∀ x f, ρ x = some f → ρ' x = some f) {d l : Int} {x : Option Operand} (h : bnd ρ d x = some l) : bnd ρ' d x = some l := by
  cases x with
  | none => exact h
  | some x =>
    simp only [bnd] at h ⊢
    cases hx : ρ x with
    | none => simp [hx] at h
    | some f => rw [hx] at h; rw [hρ _ _ hx]; exact h

theorem evSlice_mono (hρ : ∀ x f, ρ x = some f → ρ' x = some f) (ho : Le ob ob') {t : TypeId} {x : FV} {lo hi : Option Operand} {r : Ev} (h : evSlice T ρ ob t x lo hi = r) (hr : r ≠ .fail) :
    evSlice T ρ' ob' t x lo hi = r := by
  subst h
  unfold evSlice at hr ⊢
  have hb : ∀ {d : Int} {x : Option Operand} {z : Bool} {g : Int → Option Int → Ev}, True := trivial
  cases ht : lk T t with
  | none => simp [ht] at hr
  | some ti =>
    simp only [ht] at hr ⊢
    cases hk : ti.k <;> simp only [hk] at hr ⊢
    case sl e =>
      cases hte : lk T e with
      | none => simp [hte] at hr
      | some te =>
        simp only [hte] at hr ⊢
        split at hr
        · rename_i b z xs
          cases hz : Nat.beq z te.size <;> cases hl : bnd ρ 0 lo <;> cases hh : bnd ρ (xs.length : Nat) hi <;> simp only [hz, hl, hh, ne_eq, not_true_eq_false] at hr ⊢
          rw [bnd_mono hρ hl, bnd_mono hρ hh]
        · rename_i k
          cases hk : ob k with
          | none => simp [hk] at hr
          | some o =>
            rw [ho _ _ hk]
            cases o with
            | arr e z xs =>
              simp only [hk] at hr ⊢
              cases hz : Nat.beq z te.size <;> cases hl : bnd ρ 0 lo <;> cases hh : bnd ρ (xs.length : Nat) hi <;> simp only [hz, hl, hh, ne_eq, not_true_eq_false] at hr ⊢
              rw [bnd_mono hρ hl, bnd_mono hρ hh]
            | _ => simp [hk] at hr
        · exact absurd rfl hr
    all_goals exact absurd rfl hr

theorem evApp_mono (ho : Le ob ob') {k : Nat} {t t' : TypeId} {x y : FV} {r : Ev} (h : evApp T ob k t t' x y = r) (hr : r ≠ .fail) : evApp T ob' k t t' x y = r := by
  subst h
  unfold evApp at hr ⊢
  split at hr
  · rename_i k1 htt ht
    cases hk1 : ob k1 with
    | none => simp only [hk1] at hr; split at hr <;> simp_all
    | some o1 =>
      rw [ho _ _ hk1]
      rw [hk1] at hr
      split at hr
      · split at hr
        · split at hr
          · split at hr
            · rename_i k3
              cases hk3 : ob k3 with
              | none => simp [hk3] at hr
              | some o3 => rw [ho _ _ hk3]
            · simp_all
            · exact absurd rfl hr
          · exact absurd rfl hr
        · exact absurd rfl hr
      · exact absurd rfl hr
  · rename_i k1 htt ht
    cases hk1 : ob k1 with
    | none => simp only [hk1] at hr; split at hr <;> simp_all
    | some o1 => rw [ho _ _ hk1]
  · exact absurd rfl hr

theorem winAt_mono (ho : Le ob ob') {f : FV} {r : Nat × Nat × List (List D) × Nat × Nat} (h : winAt ob f = some r) : winAt ob' f = some r := by
  unfold winAt at h ⊢
  split at h
  · rename_i K z lo n
    cases hk : ob K with
    | none => simp [hk] at h
    | some o => rw [ho _ _ hk]; rw [hk] at h; exact h
  · rename_i K
    cases hk : ob K with
    | none => simp [hk] at h
    | some o => rw [ho _ _ hk]; rw [hk] at h; exact h
  · cases h

theorem srcAt_mono (ho : Le ob ob') {f : FV} {r : Prop × List (List D)} (h : srcAt ob f = some r) : srcAt ob' f = some r := by
  have hw : ∀ {f : FV}, (match winAt ob f with | some (_, _, zs, lo, n) => some (lo + n ≤ zs.length, (zs.drop lo).take n) | none => (none : Option (Prop × List (List D)))) = some r →
      (match winAt ob' f with | some (_, _, zs, lo, n) => some (lo + n ≤ zs.length, (zs.drop lo).take n) | none => (none : Option (Prop × List (List D)))) = some r := by
    intro f h
    cases hk : winAt ob f with
    | none => simp [hk] at h
    | some q => rw [winAt_mono ho hk]; rw [hk] at h; exact h
  unfold srcAt at h ⊢
  split at h
  · exact h
  · exact hw h

theorem evCopy_mono (ho : Le ob ob') {t : TypeId} {x y : FV} {r : Ev} (h : evCopy T ob t x y = r) (hr : r ≠ .fail) : evCopy T ob' t x y = r := by
  subst h
  unfold evCopy at hr ⊢
  split at hr
  · split at hr
    · split at hr
      · cases h1 : winAt ob x with
        | none => simp [h1] at hr
        | some q1 =>
          cases h2 : srcAt ob y with
          | none => simp [h1, h2] at hr
          | some q2 => rw [winAt_mono ho h1, srcAt_mono ho h2]
      · exact absurd rfl hr
    · exact absurd rfl hr
  · exact absurd rfl hr

theorem partsC_mono (hρ : ∀ x f, ρ x = some f → ρ' x = some f) : ∀ {ps : List (Nat × Operand)} {qs : List (Nat × List C)}, partsC ρ ps = some qs → partsC ρ' ps = some qs
  | [], _, h => h
  | (i, x) :: ps, qs, h => by
    simp only [partsC] at h ⊢
    cases hx : ρ x with
    | none => simp [hx] at h
    | some f =>
      cases hp : partsC ρ ps with
      | none => simp [hx, hp] at h
      | some qs' => rw [hx, hp] at h; rw [hρ _ _ hx, partsC_mono hρ hp]; exact h

theorem argsV_mono (hρ : ∀ x f, ρ x = some f → ρ' x = some f) : ∀ {xs : List Operand} {fs : List FV}, argsV ρ xs = some fs → argsV ρ' xs = some fs
  | [], _, h => h
  | x :: xs, fs, h => by
    simp only [argsV] at h ⊢
    cases hx : ρ x with
    | none => simp [hx] at h
    | some f =>
      cases hp : argsV ρ xs with
      | none => simp [hx, hp] at h
      | some fs' => rw [hx, hp] at h; rw [hρ _ _ hx, argsV_mono hρ hp]; exact h

theorem optF_mono {o o' : Option FV} (h : ∀ f, o = some f → o' = some f) (hr : optF o ≠ .fail) : optF o' = optF o := by
  cases o with
  | none => simp [optF] at hr
  | some f => rw [h f rfl]

theorem evAssign_mono (hρ : ∀ x f, ρ x = some f → ρ' x = some f) {k : Nat} {ty : TypeId} {x : Operand} (hr : evAssign T ρ k ty x ≠ .fail) : evAssign T ρ' k ty x = evAssign T ρ k ty x := by
  unfold evAssign at hr ⊢
  split
  · split
    · split
      · rfl
      · refine optF_mono (hρ x) ?_
        simp_all
    · refine optF_mono (hρ x) ?_
      simp_all
  · refine optF_mono (hρ x) ?_
    simp_all

theorem mapF_mono (ho : Le ob ob') {x : FV} {m : MD} (h : mapF ob x = some m) : mapF ob' x = some m := by
  unfold mapF at h ⊢
  split at h
  · exact h
  · rename_i k
    cases hk : ob k with
    | none => simp [hk] at h
    | some o => rw [hk] at h; rw [ho _ _ hk]; exact h
  · cases h
theorem ownMap_mono (ho : Le ob ob') {x : FV} {m : Nat × MD} (h : ownMap ob x = some m) : ownMap ob' x = some m := by
  unfold ownMap at h ⊢
  split at h
  · rename_i k
    cases hk : ob k with
    | none => simp [hk] at h
    | some o => rw [hk] at h; rw [ho _ _ hk]; exact h
  · cases h
theorem evLk_mono (ho : Le ob ob') {t : Nat} {x i f : FV} {co : Bool} (h : evLk T E ob t x i co = some f) : evLk T E ob' t x i co = some f := by
  unfold evLk at h ⊢
  cases h1 : mapTy T E t with
  | none => simp [h1] at h
  | some q =>
    cases h2 : mapF ob x with
    | none => simp [h1, h2] at h
    | some m => rw [mapF_mono ho h2]; simpa only [h1, h2] using h
theorem evMU_mono (ho : Le ob ob') {t : Nat} {x i v : FV} {r : Nat × Ob} (h : evMU T E ob t x i v = some r) : evMU T E ob' t x i v = some r := by
  unfold evMU at h ⊢
  cases h1 : mapTy T E t with
  | none => simp [h1] at h
  | some q =>
    cases h2 : ownMap ob x with
    | none => simp [h1, h2] at h
    | some m => rw [ownMap_mono ho h2]; simpa only [h1, h2] using h
theorem evME_mono (ho : Le ob ob') {t : Nat} {x i : FV} {r : FV × Nat × Ob} (h : evME T E ob t x i = some r) : evME T E ob' t x i = some r := by
  unfold evME at h ⊢
  cases h1 : mapTy T E t with
  | none => simp [h1] at h
  | some q =>
    cases h2 : ownMap ob x with
    | none => simp [h1, h2] at h
    | some m => rw [ownMap_mono ho h2]; simpa only [h1, h2] using h
theorem evES_mono (ho : Le ob ob') {x i v : FV} {r : Prop × Nat × Ob} (h : evES ob x i v = some r) : evES ob' x i v = some r := by
  unfold evES at h ⊢
  cases h2 : ownMap ob x with
  | none => simp [h2] at h
  | some m => rw [ownMap_mono ho h2]; simpa only [h2] using h
theorem evEn_mono (ho : Le ob ob') {x f : FV} (h : evEn ob x = some f) : evEn ob' x = some f := by
  unfold evEn at h ⊢
  split at h
  · rename_i k
    cases hk : ob k with
    | none => simp [hk] at h
    | some o => rw [hk] at h; rw [ho _ _ hk]; exact h
  · cases h

theorem ev_mono (hρ : ∀ x f, ρ x = some f → ρ' x = some f) (ho : Le ob ob') {k : Nat} {ty : TypeId} {op : Op} {r : Ev} (h : ev T E ρ ob k ty op = r) (hr : r ≠ .fail) : ev T E ρ' ob' k ty op = r := by
  subst h
  cases op <;> simp only [ev] at hr ⊢
  case move x => exact evAssign_mono hρ hr
  case assign x => exact evAssign_mono hρ hr
  case pick c x y =>
    cases hc : ρ c with
    | none => simp [hc] at hr
    | some f =>
      rw [hρ _ _ hc]
      rw [hc] at hr
      split at hr
      · rename_i h1; simp only [Option.some.injEq] at h1; subst h1; exact optF_mono (hρ x) hr
      · rename_i h1; simp only [Option.some.injEq] at h1; subst h1; exact optF_mono (hρ y) hr
      · exact absurd rfl hr
  case box t x =>
    cases hc : ρ x with
    | none => simp [hc] at hr
    | some f => rw [hρ _ _ hc]
  case build t ps =>
    cases hc : partsC ρ ps.toList with
    | none => simp [hc] at hr
    | some f => rw [partsC_mono hρ hc]
  case buildSlice t len ps =>
    cases hc : partsC ρ ps.toList with
    | none => simp [hc] at hr
    | some f => rw [partsC_mono hρ hc]
  case load t x =>
    cases hc : ρ x with
    | none => simp [hc] at hr
    | some f =>
      rw [hρ _ _ hc]
      rw [hc] at hr
      split at hr
      · rename_i k' z i j h1
        simp only [Option.some.injEq] at h1; subst h1
        cases hk : ob k' with
        | none => simp [hk] at hr
        | some o => rw [ho _ _ hk]
      · rename_i g hng h1
        simp only [Option.some.injEq] at h1; subst h1
        have := optF_mono (fun _ => evLoad_mono ho) hr
        exact this
      · rename_i h1; cases h1
  case store t p x =>
    cases hp : ρ p with
    | none => simp [hp] at hr
    | some f =>
      cases hx : ρ x with
      | none => simp [hp, hx] at hr
      | some g =>
        rw [hρ _ _ hp, hρ _ _ hx]
        simp only [hp, hx] at hr ⊢
        cases hs : evStore T ob t f g with
        | none => simp [hs] at hr
        | some r => rw [evStore_mono ho hs]
  case fieldAddr t x i =>
    cases hc : ρ x with
    | none => simp [hc] at hr
    | some f => rw [hρ _ _ hc]
  case field t x i =>
    cases hc : ρ x with
    | none => simp [hc] at hr
    | some f => rw [hρ _ _ hc]
  case indexAddr t x i =>
    cases hp : ρ x with
    | none => simp [hp] at hr
    | some f =>
      cases hx : ρ i with
      | none => simp [hp, hx] at hr
      | some g =>
        rw [hρ _ _ hp, hρ _ _ hx]
        simp only [hp, hx] at hr ⊢
        cases hs : evIA T ob t f g with
        | no => simp [hs] at hr
        | «at» p v => rw [evIA_mono ho hs (by simp)]
        | el xs n => rw [evIA_mono ho hs (by simp)]
  case binOp op t x y t' =>
    cases hp : ρ x with
    | none => simp [hp] at hr
    | some f =>
      cases hx : ρ y with
      | none => simp [hp, hx] at hr
      | some g => rw [hρ _ _ hp, hρ _ _ hx]
  case unOp op t x =>
    cases hc : ρ x with
    | none => simp [hc] at hr
    | some f => rw [hρ _ _ hc]
  case convert src dst x =>
    cases hc : ρ x with
    | none => simp [hc] at hr
    | some f => rw [hρ _ _ hc]
  case extract x i =>
    cases hc : ρ x with
    | none => simp [hc] at hr
    | some f => rw [hρ _ _ hc]
  case makeSlice t l c =>
    cases hp : ρ l with
    | none => simp [hp] at hr
    | some f =>
      cases hx : ρ c with
      | none => simp [hp, hx] at hr
      | some g => rw [hρ _ _ hp, hρ _ _ hx]
  case slice t x lo hi mx =>
    cases mx with
    | none =>
      simp only at hr ⊢
      cases hc : ρ x with
      | none => simp [hc] at hr
      | some f =>
        rw [hρ _ _ hc]
        simp only [hc] at hr ⊢
        exact evSlice_mono hρ ho rfl hr
    | some m => simp at hr
  case nilCheck x =>
    cases hc : ρ x with
    | none => simp [hc] at hr
    | some f => rw [hρ _ _ hc]
  case makeMap t r => cases r <;> simp only at hr ⊢
  case lookup t x i co =>
    cases hp : ρ x with
    | none => simp [hp] at hr
    | some f =>
      cases hx : ρ i with
      | none => simp [hp, hx] at hr
      | some g =>
        rw [hρ _ _ hp, hρ _ _ hx]
        simp only [hp, hx] at hr ⊢
        exact optF_mono (fun _ => evLk_mono ho) hr
  case mapUpdate t m i x =>
    cases h1 : ρ m with
    | none => simp [h1] at hr
    | some f =>
      cases h2 : ρ i with
      | none => simp [h1, h2] at hr
      | some g =>
        cases h3 : ρ x with
        | none => simp [h1, h2, h3] at hr
        | some y =>
          rw [hρ _ _ h1, hρ _ _ h2, hρ _ _ h3]
          simp only [h1, h2, h3] at hr ⊢
          cases h4 : evMU T E ob t f g y with
          | none => simp [h4] at hr
          | some q => rw [evMU_mono ho h4]
  case insert t m i x =>
    cases h1 : ρ m with
    | none => simp [h1] at hr
    | some f =>
      cases h2 : ρ i with
      | none => simp [h1, h2] at hr
      | some g =>
        cases h3 : ρ x with
        | none => simp [h1, h2, h3] at hr
        | some y =>
          rw [hρ _ _ h1, hρ _ _ h2, hρ _ _ h3]
          simp only [h1, h2, h3] at hr ⊢
          cases h4 : evMU T E ob t f g y with
          | none => simp [h4] at hr
          | some q => rw [evMU_mono ho h4]
  case mapEntry t m i =>
    cases h1 : ρ m with
    | none => simp [h1] at hr
    | some f =>
      cases h2 : ρ i with
      | none => simp [h1, h2] at hr
      | some g =>
        rw [hρ _ _ h1, hρ _ _ h2]
        simp only [h1, h2] at hr ⊢
        cases h4 : evME T E ob t f g with
        | none => simp [h4] at hr
        | some q => rw [evME_mono ho h4]
  case entryStore t m i x =>
    cases h1 : ρ m with
    | none => simp [h1] at hr
    | some f =>
      cases h2 : ρ i with
      | none => simp [h1, h2] at hr
      | some g =>
        cases h3 : ρ x with
        | none => simp [h1, h2, h3] at hr
        | some y =>
          rw [hρ _ _ h1, hρ _ _ h2, hρ _ _ h3]
          simp only [h1, h2, h3] at hr ⊢
          cases h4 : evES ob f g y with
          | none => simp [h4] at hr
          | some q => rw [evES_mono ho h4]
  case range t x =>
    cases hc : ρ x with
    | none => simp [hc] at hr
    | some f => rw [hρ _ _ hc]
  case entry x =>
    cases hc : ρ x with
    | none => simp [hc] at hr
    | some f =>
      rw [hρ _ _ hc]
      simp only [hc] at hr ⊢
      exact optF_mono (fun _ => evEn_mono ho) hr
  case call c =>
    split at hr
    · rename_i x t h1 h2 h3
      cases hc : ρ x with
      | none => simp [hc] at hr
      | some f =>
        rw [hρ _ _ hc]
        simp only [hc] at hr ⊢
        exact optF_mono (fun _ => evLen_mono ho) hr
    · rename_i x y t t' h1 h2 h3
      cases hp : ρ x with
      | none => simp [hp] at hr
      | some f =>
        cases hx : ρ y with
        | none => simp [hp, hx] at hr
        | some g =>
          rw [hρ _ _ hp, hρ _ _ hx]
          simp only [hp, hx] at hr ⊢
          exact evApp_mono ho rfl hr
    · rename_i x y t t' h1 h2 h3
      cases hp : ρ x with
      | none => simp [hp] at hr
      | some f =>
        cases hx : ρ y with
        | none => simp [hp, hx] at hr
        | some g =>
          rw [hρ _ _ hp, hρ _ _ hx]
          simp only [hp, hx] at hr ⊢
          exact evCopy_mono ho rfl hr
    · rename_i x y h1 h2
      cases hp : ρ x with
      | none => simp [hp] at hr
      | some f =>
        cases hx : ρ y with
        | none => simp [hp, hx] at hr
        | some g => rw [hρ _ _ hp, hρ _ _ hx]
    · rename_i x y h1 h2
      cases hp : ρ x with
      | none => simp [hp] at hr
      | some f =>
        cases hx : ρ y with
        | none => simp [hp, hx] at hr
        | some g => rw [hρ _ _ hp, hρ _ _ hx]
    · rename_i f h1
      cases hp : ρ f with
      | none => simp [hp] at hr
      | some g =>
        rw [hρ _ _ hp]
        simp only [hp] at hr ⊢
        split at hr
        · split at hr
          · cases ha : argsV ρ c.args.toList with
            | none => simp [ha] at hr
            | some fs => rw [argsV_mono hρ ha]
          · exact absurd rfl hr
        · exact absurd rfl hr
    · exact absurd rfl hr
  all_goals first | rfl | exact absurd rfl hr

end Go.Sm

namespace Go.Sm
open Go.RowKit

variable {P : Program} {N : Nat} {w0 : Base} {s : St} {a : Act} {w : World} {β : Nat → Value}

/-! ### states that know the same -/

theorem lk_append {α : Type} : ∀ (l r : List (Nat × α)) (t : Nat), lk (l ++ r) t = (lk l t).or (lk r t)
  | [], r, t => by simp [lk]
  | (a, b) :: l, r, t => by
    simp only [List.cons_append, lk_cons]
    split
    · simp
    · exact lk_append l r t

theorem lk_filter {α : Type} (p : Nat → Bool) : ∀ (l : List (Nat × α)) (t : Nat), lk (l.filter fun x => p x.1) t = if p t = true then lk l t else none
  | [], t => by simp [lk]
  | (a, b) :: l, t => by
    simp only [List.filter_cons]
    split
    · rename_i h
      simp only [lk_cons, lk_filter p l t]
      by_cases e : a = t
      · subst e; simp [h]
      · simp [e]
    · rename_i h
      rw [lk_filter p l t]
      by_cases e : a = t
      · subst e; simp [h]
      · simp [lk_cons, e]

theorem freshOs_iff {ob : List (Nat × Ob)} : ∀ {ns : List (Nat × Ob)}, freshOs ob ns = true ↔ (∀ k ∈ ns.map (·.1), lk ob k = none) ∧ (ns.map (·.1)).Nodup
  | [] => by simp [freshOs]
  | (k, o) :: ns => by
    have hl : ∀ {l : List (Nat × Ob)} {k : Nat}, lk l k = none ↔ k ∉ l.map (·.1) := by
      intro l k
      induction l with
      | nil => simp [lk]
      | cons p l ih =>
        obtain ⟨a, b⟩ := p
        simp only [lk_cons, List.map_cons, List.mem_cons, not_or]
        by_cases e : a = k
        · subst e; simp
        · simp only [if_neg e, ih]
          exact ⟨fun h => ⟨fun e' => e e'.symm, h⟩, fun h => h.2⟩
    simp only [freshOs, Bool.and_eq_true, freshOs_iff (ns := ns), Option.isNone_iff_eq_none, lk_append, List.map_cons, List.mem_cons, List.nodup_cons]
    constructor
    · rintro ⟨⟨h1, h2⟩, h3⟩
      have h4 : lk ns k = none := by
        cases hk : lk ns k with
        | none => rfl
        | some o => rw [hk] at h3; simp at h3
      rw [h4] at h3
      refine ⟨?_, hl.1 h4, h2⟩
      rintro k' (rfl | hk')
      · simpa using h3
      · exact h1 k' hk'
    · rintro ⟨h1, h2, h3⟩
      refine ⟨⟨fun k' hk' => h1 k' (.inr hk'), h3⟩, ?_⟩
      rw [hl.2 h2, h1 k (.inl rfl)]; rfl

theorem lk_none_iff {α : Type} {l : List (Nat × α)} {k : Nat} : lk l k = none ↔ k ∉ l.map (·.1) := by
  induction l with
  | nil => simp [lk]
  | cons p l ih =>
    obtain ⟨a, b⟩ := p
    simp only [lk_cons, List.map_cons, List.mem_cons, not_or]
    by_cases e : a = k
    · subst e; simp
    · simp only [if_neg e, ih]
      exact ⟨fun h => ⟨fun e' => e e'.symm, h⟩, fun h => h.2⟩

/-! ### what stands after what -/

def aft (o : Oper) : List Nat := (o.after.toList.filter fun e => Region.binds .any e).map (·.on)
def dstOf (o : Oper) : Nat := o.dst.getD 0
def aftI (ops : List Oper) (i : Nat) : List Nat := (ops[i]?.map aft).getD []
/-- j stands before i. -/
inductive An (ops : List Oper) : Nat → Nat → Prop where
  | d {j i : Nat} : j ∈ aftI ops i → An ops j i
  | t {j k i : Nat} : An ops j k → k ∈ aftI ops i → An ops j i

theorem An.listed {ops : List Oper} {L : Nat → Prop} (hc : ∀ k, L k → ∀ j ∈ aftI ops k, L j) {j i : Nat} (h : An ops j i) (hi : ∀ k ∈ aftI ops i, L k) : L j := by
  induction h with
  | d h => exact hi _ h
  | t _ h2 ih => exact ih fun k hk => hc _ (hi _ h2) k hk

def row (rows : List (List Nat)) (i : Nat) : List Nat := (rows[i]?).getD []
def badR (ops : List Oper) (m : Nat) (rows : List (List Nat)) (i : Nat) : List Nat := ((List.range m).filter fun j => !(row rows i).elem j).map fun j => (ops[j]?.map dstOf).getD 0

def nodupB : List Nat → Bool
  | [] => true
  | x :: xs => !xs.elem x && nodupB xs
theorem nodupB_iff : ∀ {l : List Nat}, nodupB l = true → l.Nodup
  | [], _ => List.nodup_nil
  | x :: xs, h => by
    simp only [nodupB, Bool.and_eq_true, Bool.not_eq_true'] at h
    refine List.nodup_cons.2 ⟨fun hx => ?_, nodupB_iff h.2⟩
    have := List.elem_eq_true_of_mem hx
    rw [this] at h; exact absurd h.1 (by simp)

/-- The first m operations have places of their own; 'rows' tells what stands before each; each of the others stands after all before it; 'bs' are the places that each of the first may not read. -/
def drawOk (ops : List Oper) (m : Nat) (rows bs : List (List Nat)) : Bool :=
  Nat.ble m ops.length && ((ops.take m).all fun o => o.dst.isSome) && nodupB ((ops.take m).map dstOf) &&
  ((List.range ops.length).all fun i => (aftI ops i).all fun j => Nat.blt j i) &&
  ((List.range ops.length).all fun j => Nat.blt j m || (List.range j).all fun i => (row rows j).elem i) &&
  ((List.range ops.length).all fun i => (row rows i).all fun j => (aftI ops i).elem j || (aftI ops i).any fun k => (row rows k).elem j) &&
  (bs == (List.range m).map (badR ops m rows))

def cut (bad : List Nat) (s : St) : St := ⟨s.tm.filter (fun p => !bad.elem p.1), s.ob.filter (fun p => !bad.elem (p.1 / 64))⟩
def nsOk (d : Nat) (ns : List (Nat × Ob)) : Bool := ns.all fun p => Nat.beq (p.1 / 64) d

/-- One operation, wherever no less is known than in t. -/
def GoodOp (F : Fn) (w0 : Base) (Q : Exit → Act → World → Prop) (all : Array Oper) (i : Nat) (t : St) (d : Nat) (v : FV) (ns : List (Nat × Ob)) : Prop :=
  ∀ s a w β (K : Act → World → Prop), Rel F.N w0 s a w β → Le (lk t.tm) (lk s.tm) → Le (lk t.ob) (lk s.ob) → freshOs s.ob ns = true →
    (∀ a' w' β', Rel F.N w0 ⟨(d, v) :: s.tm, ns ++ s.ob⟩ a' w' β' → K a' w') → wpOp F.P all Q i K a w

/-- The quiet operations in the order of the list, and what comes then. -/
def DrS (F : Fn) (w0 : Base) (Q : Exit → Act → World → Prop) (all : Array Oper) (k : List It) (m : Nat) : List (List Nat) → Nat → List Oper → St → Prop
  | _, _, [], s => J F.P F.N w0 (cont F.P F.N w0 Q k) [.ops all (all.toList.drop m)] s
  | [], _, _ :: _, _ => False
  | b :: bs, i, o :: os, s => ∃ d v ns, o.dst = some d ∧ d < F.N ∧ freshOs s.ob ns = true ∧ nsOk d ns = true ∧ GoodOp F w0 (cont F.P F.N w0 Q k) all i (cut b s) d v ns ∧
      DrS F w0 Q all k m bs (i + 1) os ⟨(d, v) :: s.tm, ns ++ s.ob⟩

/-! ### the order that is drawn -/

theorem ready_iff {md : Region.Mode} {ops : Array Oper} {listed : Array Bool} {i : Nat} : i ∈ Region.ready md ops listed ↔ i < ops.size ∧ listed.getD i true = false ∧
    ∃ o, ops[i]? = some o ∧ ∀ e ∈ o.after, Region.binds md e = true → listed.getD e.on false = true := by
  unfold Region.ready
  simp only [List.mem_filter, List.mem_range, Bool.and_eq_true, Bool.not_eq_true']
  constructor
  · rintro ⟨h1, h2, h3⟩
    refine ⟨h1, h2, ?_⟩
    cases ho : ops[i]? with
    | none => simp [ho] at h3
    | some o =>
      refine ⟨o, rfl, fun e he hb => ?_⟩
      simp only [ho, Option.map_some, Option.getD_some, Array.all_eq_true_iff_forall_mem] at h3
      have := h3 e he
      simpa [hb] using this
  · rintro ⟨h1, h2, o, ho, h3⟩
    refine ⟨h1, h2, ?_⟩
    simp only [ho, Option.map_some, Option.getD_some, Array.all_eq_true_iff_forall_mem]
    intro e he
    cases hb : Region.binds md e with
    | false => rfl
    | true => simpa using h3 e he hb

theorem getD_set {listed : Array Bool} {i j : Nat} (hi : i < listed.size) (b : Bool) : (listed.setIfInBounds i true).getD j b = if i = j then true else listed.getD j b := by
  rw [Array.getD_eq_getD_getElem?, Array.getElem?_setIfInBounds, Array.getD_eq_getD_getElem?]
  by_cases e : i = j
  · subst e; simp [hi]
  · simp [e]

/-- How many are not listed yet. -/
def left (n : Nat) (listed : Array Bool) : Nat := (List.range n).countP fun i => !listed.getD i true

theorem left_set {n : Nat} {listed : Array Bool} {i : Nat} (hn : listed.size = n) (hi : i < n) (hl : listed.getD i true = false) : left n (listed.setIfInBounds i true) + 1 = left n listed := by
  unfold left
  have hf : (fun j => !(listed.setIfInBounds i true).getD j true) = fun j => !(if i = j then true else listed.getD j true) := funext fun j => by rw [getD_set (by rw [hn]; exact hi)]
  rw [hf]
  have key : ∀ (l : List Nat), l.Nodup → (if i ∈ l then 1 else 0) + l.countP (fun j => !(if i = j then true else listed.getD j true)) = l.countP fun j => !listed.getD j true := by
    intro l
    induction l with
    | nil => simp
    | cons j l ih =>
      intro hnd
      obtain ⟨h1, h2⟩ := List.nodup_cons.1 hnd
      have := ih h2
      rw [List.countP_cons, List.countP_cons]
      by_cases e : i = j
      · subst e
        rw [if_neg h1] at this
        rw [if_pos (List.mem_cons_self ..), if_pos rfl, hl]
        simp only [Bool.not_true, Bool.not_false, if_true, Bool.false_eq_true, if_false]
        omega
      · rw [if_neg e]
        by_cases hil : i ∈ l
        · rw [if_pos hil] at this; rw [if_pos (List.mem_cons_of_mem _ hil)]; omega
        · rw [if_neg hil] at this; rw [if_neg (by simp [e, hil])]; omega
  have := key (List.range n) List.nodup_range
  simp only [List.mem_range, hi, if_true] at this
  omega

theorem left_pos {n : Nat} {listed : Array Bool} {i : Nat} (hi : i < n) (hl : listed.getD i true = false) : 0 < left n listed := by
  unfold left
  rw [List.countP_pos_iff]
  exact ⟨i, List.mem_range.2 hi, by simp [hl]⟩

/-- The rest in a row. -/
theorem wpAny_row {Q : Exit → Act → World → Prop} {ops : Array Oper} {m : Nat} (hrow : ∀ j, m ≤ j → j < ops.size → ∀ i < j, An ops.toList i j)
    (hpre : ∀ j o, ops[j]? = some o → ∀ e ∈ o.after, Region.binds .any e = true → e.on < j) :
    ∀ (r j : Nat) (fuel : Nat) (listed : Array Bool) (a : Act) (w : World), j + r = ops.size → m ≤ j → listed.size = ops.size → left ops.size listed ≤ fuel →
    (∀ i < j, listed.getD i false = true) → (∀ i, j ≤ i → i < ops.size → listed.getD i true = false) → wpList P ops Q (ops.toList.drop j) a w → wpAny P .any ops Q fuel listed a w
  | r, j, fuel, listed, a, w, hr, hm, hsz, hfu, hdone, hun, h => by
    have hready : ∀ i, i ∈ Region.ready .any ops listed → i = j := by
      intro i hi
      obtain ⟨h1, h2, o, ho, h3⟩ := ready_iff.1 hi
      rcases Nat.lt_trichotomy i j with hlt | rfl | hgt
      · have := hdone i hlt
        rw [Array.getD_eq_getD_getElem?] at this h2
        cases hx : listed[i]? with
        | none => simp [hx] at this
        | some b => simp [hx] at this h2; rw [this] at h2; cases h2
      · rfl
      · have hinv : ∀ {x : Nat} {o : Oper}, ops[x]? = some o → ∀ y ∈ aftI ops.toList x, ∃ e ∈ o.after, Region.binds .any e = true ∧ e.on = y := by
          intro x o ho y hy
          simp only [aftI, Array.getElem?_toList, ho, Option.map_some, Option.getD_some, aft, List.mem_map, List.mem_filter] at hy
          obtain ⟨e, ⟨h1, h2⟩, h3⟩ := hy
          exact ⟨e, by simpa using h1, h2, h3⟩
        have h4 := (hrow i (Nat.le_trans hm (Nat.le_of_lt hgt)) h1 j hgt).listed (L := fun x => listed.getD x false = true) (fun k hk y hy => by
          have hkj : k < j := by
            refine Nat.lt_of_not_le fun hge => ?_
            rcases Nat.lt_or_ge k ops.size with hlt | hge'
            · have := hun k hge hlt
              rw [Array.getD_eq_getD_getElem?] at this hk
              have hs : k < listed.size := by omega
              simp [hs] at this hk
              rw [this] at hk; cases hk
            · rw [Array.getD_eq_getD_getElem?] at hk
              have hs : listed.size ≤ k := by omega
              simp [hs] at hk
          cases ho : ops[k]? with
          | none => simp [aftI, ho] at hy
          | some o =>
            obtain ⟨e, he, hb, rfl⟩ := hinv ho y hy
            exact hdone _ (Nat.lt_trans (hpre k o ho e he hb) hkj)) (fun y hy => by
          obtain ⟨e, he, hb, rfl⟩ := hinv ho y hy
          exact h3 e he hb)
        have h5 := hun j (Nat.le_refl _) (Nat.lt_trans hgt h1)
        rw [Array.getD_eq_getD_getElem?] at h4 h5
        cases hx : listed[j]? with
        | none => simp [hx] at h4
        | some b => simp [hx] at h4 h5; rw [h4] at h5; cases h5
    cases r with
    | zero =>
      have hj : j = ops.size := by omega
      have hnil : Region.ready .any ops listed = [] := by
        rw [List.eq_nil_iff_forall_not_mem]
        intro i hi
        have := hready i hi
        have := (ready_iff.1 hi).1
        omega
      have hd : ops.toList.drop j = [] := by rw [List.drop_eq_nil_iff]; simp [hj]
      rw [hd] at h
      cases fuel with
      | zero => exact ⟨hnil, h⟩
      | succ fuel => exact ⟨fun _ => h, fun i hi => by rw [hnil] at hi; cases hi⟩
    | succ r =>
      have hjl : j < ops.size := by omega
      have hpos := left_pos hjl (hun j (Nat.le_refl _) hjl)
      cases fuel with
      | zero => omega
      | succ fuel =>
        have hmem : j ∈ Region.ready .any ops listed := by
          refine ready_iff.2 ⟨hjl, hun j (Nat.le_refl _) hjl, ops[j], by simp [hjl], fun e he hb => hdone _ (hpre j _ (by simp [hjl]) e he hb)⟩
        refine ⟨fun hn => (by rw [hn] at hmem; cases hmem), fun i hi => ?_⟩
        obtain rfl := hready i hi
        rw [List.drop_eq_getElem_cons (by simpa using hjl)] at h
        simp only [wpList, Array.getElem_toList] at h
        unfold wpOp
        simp only [Array.getElem?_eq_getElem hjl]
        have next : ∀ a w, wpList P ops Q (ops.toList.drop (i + 1)) a w → wpAny P .any ops Q fuel (listed.setIfInBounds i true) a w := fun a w h =>
          wpAny_row hrow hpre r (i + 1) fuel _ a w (by omega) (by omega) (by simp [hsz]) (by have := left_set (listed := listed) hsz hjl (hun i (Nat.le_refl _) hjl); omega)
            (fun j hj => by
              rw [getD_set (by rw [hsz]; exact hjl)]
              split
              · rfl
              · exact hdone j (by omega))
            (fun j hj hjs => by
              rw [getD_set (by rw [hsz]; exact hjl), if_neg (by omega)]
              exact hun j (by omega) hjs) h
        split at h
        · rename_i hw
          rw [if_pos hw]
          exact h.imp (Oper.wp_mono next) id
        · rename_i hw
          rw [if_neg hw]
          exact next _ _ h

end Go.Sm

namespace Go.Sm
open Go.RowKit

variable {P : Program} {N : Nat} {w0 : Base} {s : St} {a : Act} {w : World} {β : Nat → Value}

/-- The state s is s0 with the outcomes of the operations in D. -/
structure Kn (m : Nat) (d : Nat → Nat) (v : Nat → FV) (ns : Nat → List (Nat × Ob)) (s0 : St) (D : Nat → Prop) (s : St) : Prop where
  t1 : ∀ i < m, D i → lk s.tm (d i) = some (v i)
  t2 : ∀ x, (∀ i < m, D i → d i ≠ x) → lk s.tm x = lk s0.tm x
  o1 : ∀ i < m, D i → ∀ k ∈ (ns i).map (·.1), lk s.ob k = lk (ns i) k
  o2 : ∀ k, (∀ i < m, D i → k ∉ (ns i).map (·.1)) → lk s.ob k = lk s0.ob k

variable {m : Nat} {d : Nat → Nat} {v : Nat → FV} {ns : Nat → List (Nat × Ob)} {s0 : St} {D D' : Nat → Prop}

theorem nsOk_key {d : Nat} {ns : List (Nat × Ob)} (h : nsOk d ns = true) {k : Nat} (hk : k ∈ ns.map (·.1)) : k / 64 = d := by
  obtain ⟨p, hp, rfl⟩ := List.mem_map.1 hk
  exact nat_beq ((List.all_eq_true.1 h) p hp)

theorem Kn.step (K : Kn m d v ns s0 D s) (hd : ∀ i < m, ∀ j < m, d i = d j → i = j) (hn : ∀ i < m, nsOk (d i) (ns i) = true) {i : Nat} (hi : i < m) (hD : ¬ D i) (hD' : ∀ j < m, D' j ↔ D j ∨ j = i) :
    Kn m d v ns s0 D' ⟨(d i, v i) :: s.tm, ns i ++ s.ob⟩ := by
  have hkey : ∀ j < m, j ≠ i → ∀ k, k ∈ (ns j).map (·.1) → k ∉ (ns i).map (·.1) := fun j hj hne k hk hk' => hne (hd j hj i hi ((nsOk_key (hn j hj) hk).symm.trans (nsOk_key (hn i hi) hk')))
  refine ⟨?_, ?_, ?_, ?_⟩
  · intro j hj hDj
    by_cases e : j = i
    · subst e; exact lk_cons_self _ _ _
    · have : D j := ((hD' j hj).1 hDj).resolve_right e
      rw [lk_cons_ne _ _ (fun h => e (hd j hj i hi h.symm))]
      exact K.t1 j hj this
  · intro x hx
    rw [lk_cons_ne _ _ (hx i hi ((hD' i hi).2 (.inr rfl)))]
    exact K.t2 x fun j hj hDj => hx j hj ((hD' j hj).2 (.inl hDj))
  · intro j hj hDj k hk
    show lk (ns i ++ s.ob) k = _
    rw [lk_append]
    by_cases e : j = i
    · subst e
      cases hl : lk (ns j) k with
      | none => exact absurd hk (lk_none_iff.1 hl)
      | some o => rfl
    · have : D j := ((hD' j hj).1 hDj).resolve_right e
      rw [lk_none_iff.2 (hkey j hj e k hk)]
      exact K.o1 j hj this k hk
  · intro k hk
    show lk (ns i ++ s.ob) k = _
    rw [lk_append, lk_none_iff.2 (hk i hi ((hD' i hi).2 (.inr rfl)))]
    exact K.o2 k fun j hj hDj => hk j hj ((hD' j hj).2 (.inl hDj))

theorem Kn.tm_eq {s' : St} (K : Kn m d v ns s0 D s) (K' : Kn m d v ns s0 D' s') (h : ∀ i < m, D i ↔ D' i) (x : Nat) : lk s'.tm x = lk s.tm x := by
  by_cases hx : ∃ i, i < m ∧ D i ∧ d i = x
  · obtain ⟨i, hi, hD, rfl⟩ := hx
    rw [K.t1 i hi hD, K'.t1 i hi ((h i hi).1 hD)]
  · rw [K.t2 x fun i hi hD e => hx ⟨i, hi, hD, e⟩, K'.t2 x fun i hi hD e => hx ⟨i, hi, (h i hi).2 hD, e⟩]
theorem Kn.ob_eq {s' : St} (K : Kn m d v ns s0 D s) (K' : Kn m d v ns s0 D' s') (h : ∀ i < m, D i ↔ D' i) (x : Nat) : lk s.ob x = lk s'.ob x := by
  by_cases hx : ∃ i, i < m ∧ D i ∧ x ∈ (ns i).map (·.1)
  · obtain ⟨i, hi, hD, hk⟩ := hx
    rw [K.o1 i hi hD x hk, K'.o1 i hi ((h i hi).1 hD) x hk]
  · rw [K.o2 x fun i hi hD e => hx ⟨i, hi, hD, e⟩, K'.o2 x fun i hi hD e => hx ⟨i, hi, (h i hi).2 hD, e⟩]

theorem DrS.get {F : Fn} {Q : Exit → Act → World → Prop} {all : Array Oper} {k : List It} {m : Nat} : ∀ {os : List Oper} {bs : List (List Nat)} {i : Nat} {s : St}, DrS F w0 Q all k m bs i os s →
    ∃ (d : Nat → Nat) (v : Nat → FV) (ns : Nat → List (Nat × Ob)) (st : Nat → St), st i = s ∧
      (∀ j, i ≤ j → j < i + os.length → (∀ o, os[j - i]? = some o → o.dst = some (d j)) ∧ d j < F.N ∧ freshOs (st j).ob (ns j) = true ∧ nsOk (d j) (ns j) = true ∧
        (∀ b, bs[j - i]? = some b → GoodOp F w0 (cont F.P F.N w0 Q k) all j (cut b (st j)) (d j) (v j) (ns j)) ∧ st (j + 1) = ⟨(d j, v j) :: (st j).tm, ns j ++ (st j).ob⟩) ∧
      J F.P F.N w0 (cont F.P F.N w0 Q k) [.ops all (all.toList.drop m)] (st (i + os.length))
  | [], bs, i, s, h => by
    have h : J F.P F.N w0 (cont F.P F.N w0 Q k) [.ops all (all.toList.drop m)] s := by cases bs <;> simpa only [DrS] using h
    exact ⟨fun _ => 0, fun _ => .und, fun _ => [], fun _ => s, rfl, fun j h1 h2 => by simp at h2; omega, h⟩
  | o :: os, [], i, s, h => by simp only [DrS] at h
  | o :: os, b :: bs, i, s, h => by
    simp only [DrS] at h
    obtain ⟨d0, v0, ns0, h1, h2, h3, h4, h5, h6⟩ := h
    obtain ⟨d, v, ns, st, g1, g2, g3⟩ := DrS.get h6
    refine ⟨fun j => if j = i then d0 else d j, fun j => if j = i then v0 else v j, fun j => if j = i then ns0 else ns j, fun j => if j = i then s else st j, by simp, ?_, ?_⟩
    · intro j hj1 hj2
      by_cases e : j = i
      · subst e
        simp only [if_true, Nat.sub_self]
        refine ⟨fun o' ho' => by simp at ho'; subst ho'; exact h1, h2, h3, h4, fun b' hb' => by simp at hb'; subst hb'; exact h5, ?_⟩
        rw [if_neg (by omega)]; exact g1
      · simp only [if_neg e]
        rw [if_neg (by omega)]
        have := g2 j (by omega) (by simp at hj2; omega)
        have hs : j - i = (j - (i + 1)) + 1 := by omega
        rw [hs]
        simpa using this
    · have e : i + (o :: os).length = i + 1 + os.length := by simp; omega
      have hne : ¬ i + (o :: os).length = i := by simp
      show J _ _ _ _ _ (if i + (o :: os).length = i then s else st (i + (o :: os).length))
      rw [if_neg hne, e]; exact g3

theorem elem_iff {l : List Nat} {x : Nat} : l.elem x = true ↔ x ∈ l := List.elem_iff

/-- THE DRAWN ORDER: the quiet part in the order of the list, then the rest. -/
theorem J.draw {F : Fn} {Q : Exit → Act → World → Prop} {id : Nat} {ops : Array Oper} {k : List It} (hmix : F.P.follows .mixedOrders = true) (m : Nat) (rows bs : List (List Nat)) (hok : drawOk ops.toList m rows bs = true)
    (h : DrS F w0 Q ops k m bs 0 (ops.toList.take m) s) : J F.P F.N w0 Q (.code (.region id ops true) :: k) s := by
  simp only [drawOk, Bool.and_eq_true, List.all_eq_true, List.mem_range, Bool.or_eq_true] at hok
  obtain ⟨⟨⟨⟨⟨⟨hm, hsome⟩, hnd⟩, hpre⟩, hrow⟩, hrows⟩, hbs⟩ := hok
  have hbs : bs = (List.range m).map (badR ops.toList m rows) := by simpa using hbs
  have hm : m ≤ ops.size := by simpa using Nat.le_of_ble_eq_true hm
  have hlen : (ops.toList.take m).length = m := by simp; omega
  obtain ⟨d, v, ns, st, g1, g2, g3⟩ := DrS.get h
  simp only [Nat.zero_add, hlen] at g2 g3
  have hop : ∀ i < m, ∃ o, ops[i]? = some o ∧ o.dst = some (d i) ∧ (ops.toList.take m)[i]? = some o := by
    intro i hi
    have hs : i < ops.size := by omega
    refine ⟨ops[i], by simp [hs], ?_, by simp [hi, hs]⟩
    exact (g2 i (Nat.zero_le _) hi).1 _ (by simp [hi, hs])
  have hd : ∀ i < m, ∀ j < m, d i = d j → i = j := by
    intro i hi j hj e
    have hnd' := nodupB_iff hnd
    obtain ⟨o, h1, h2, h3⟩ := hop i hi
    obtain ⟨o', h1', h2', h3'⟩ := hop j hj
    have hq : ((ops.toList.take m).map dstOf)[i]? = ((ops.toList.take m).map dstOf)[j]? := by
      rw [List.getElem?_map, List.getElem?_map, h3, h3']
      simp [dstOf, h2, h2', e]
    exact (List.getElem?_inj (by rw [List.length_map, hlen]; exact hi) hnd').1 hq
  have hn : ∀ i < m, nsOk (d i) (ns i) = true := fun i hi => (g2 i (Nat.zero_le _) hi).2.2.2.1
  have hst : ∀ j, j ≤ m → Kn m d v ns s (fun i => i < j) (st j) := by
    intro j
    induction j with
    | zero =>
      intro _
      rw [g1]
      exact ⟨fun i _ h => absurd h (Nat.not_lt_zero _), fun _ _ => rfl, fun i _ h => absurd h (Nat.not_lt_zero _), fun _ _ => rfl⟩
    | succ j ih =>
      intro hj
      rw [(g2 j (Nat.zero_le _) hj).2.2.2.2.2]
      exact (ih (Nat.le_of_succ_le hj)).step hd hn hj (Nat.lt_irrefl _) fun i _ => by omega
  have hinv : ∀ {x : Nat} {o : Oper}, ops[x]? = some o → ∀ y, y ∈ aftI ops.toList x ↔ ∃ e ∈ o.after, Region.binds .any e = true ∧ e.on = y := by
    intro x o ho y
    simp only [aftI, Array.getElem?_toList, ho, Option.map_some, Option.getD_some, aft, List.mem_map, List.mem_filter]
    constructor
    · rintro ⟨e, ⟨h1, h2⟩, h3⟩; exact ⟨e, by simpa using h1, h2, h3⟩
    · rintro ⟨e, h1, h2, h3⟩; exact ⟨e, ⟨by simpa using h1, h2⟩, h3⟩
  have haft : ∀ j o, ops[j]? = some o → ∀ e ∈ o.after, Region.binds .any e = true → e.on < j := by
    intro j o ho e he hb
    have hj : j < ops.size := (Array.getElem?_eq_some_iff.1 ho).1
    have := hpre j (by simpa using hj) e.on ((hinv ho _).2 ⟨e, he, hb, rfl⟩)
    simpa [Nat.blt_eq] using this
  have hAn : ∀ i, i < ops.size → ∀ j ∈ row rows i, An ops.toList j i := by
    intro i
    induction i using Nat.strongRecOn with
    | _ i ih =>
      intro hi j hj
      rcases hrows i (by simpa using hi) j hj with hd' | hex
      · exact .d (elem_iff.1 hd')
      · obtain ⟨k, hk, hjk⟩ := List.any_eq_true.1 hex
        have hki := hpre i (by simpa using hi) k hk
        have hki : k < i := by simpa [Nat.blt_eq] using hki
        exact .t (ih k hki (by omega) j (elem_iff.1 hjk)) hk
  have hrow' : ∀ j, m ≤ j → j < ops.size → ∀ i < j, An ops.toList i j := by
    intro j hmj hj i hi
    rcases hrow j (by simpa using hj) with hb | hall
    · have : j < m := by simpa [Nat.blt_eq] using hb
      omega
    · exact hAn j hj i (elem_iff.1 (hall i hi))
  intro a w β R
  simp only [cont]
  refine wp_region_any hmix ?_
  have R' : Rel F.N w0 s a { w with drawn := w.drawn + 1 } β := R.world ⟨⟨rfl, rfl, rfl, Nat.le_refl _, fun _ _ => rfl⟩, Nat.le_succ _⟩
  generalize ({ w with drawn := w.drawn + 1 } : World) = w at R'
  clear R
  have main : ∀ (fuel : Nat) (listed : Array Bool) (s' : St) (a : Act) (w : World) (β : Nat → Value), listed.size = ops.size → left ops.size listed ≤ fuel →
      (∀ j, m ≤ j → j < ops.size → listed.getD j true = false) → (∀ x, listed.getD x false = true → ∀ y ∈ aftI ops.toList x, listed.getD y false = true) → Kn m d v ns s (fun i => listed.getD i false = true) s' → Rel F.N w0 s' a w β → wpAny F.P .any ops (cont F.P F.N w0 Q k) fuel listed a w := by
    intro fuel
    induction fuel with
    | zero =>
      intro listed s' a w β hsz hle hun hcl K R
      have hall : ∀ i < ops.size, listed.getD i true = true := by
        intro i hi
        cases hb : listed.getD i true with
        | true => rfl
        | false => have := left_pos hi hb; omega
      have hmm : m = ops.size := by
        rcases Nat.lt_or_ge m ops.size with hlt | hge
        · have := hall m hlt; rw [hun m (Nat.le_refl _) hlt] at this; cases this
        · omega
      have hdone : ∀ i < m, listed.getD i false = true := by
        intro i hi
        have := hall i (by omega)
        rw [Array.getD_eq_getD_getElem?] at this ⊢
        have hs : i < listed.size := by omega
        simpa [hs] using this
      have R2 := R.ext (s' := st m) (fun t => K.tm_eq (hst m (Nat.le_refl _)) (fun i hi => ⟨fun _ => hi, fun _ => hdone i hi⟩) t) (fun t => K.ob_eq (hst m (Nat.le_refl _)) (fun i hi => ⟨fun _ => hi, fun _ => hdone i hi⟩) t)
      have := g3 a w β R2
      simp only [cont] at this
      exact wpAny_row hrow' haft 0 m 0 listed a w (by omega) (Nat.le_refl _) hsz hle hdone hun this
    | succ fuel ih =>
      intro listed s' a w β hsz hle hun hcl K R
      by_cases hdone : ∀ i < m, listed.getD i false = true
      · have R2 := R.ext (s' := st m) (fun t => K.tm_eq (hst m (Nat.le_refl _)) (fun i hi => ⟨fun _ => hi, fun _ => hdone i hi⟩) t) (fun t => K.ob_eq (hst m (Nat.le_refl _)) (fun i hi => ⟨fun _ => hi, fun _ => hdone i hi⟩) t)
        have := g3 a w β R2
        simp only [cont] at this
        exact wpAny_row hrow' haft (ops.size - m) m _ listed a w (by omega) (Nat.le_refl _) hsz hle hdone hun this
      · -- an operation of the quiet part is still to be done
        have hflip : ∀ i < ops.size, listed.getD i false = false → listed.getD i true = false := by
          intro i hi h
          rw [Array.getD_eq_getD_getElem?] at h ⊢
          have hs : i < listed.size := by omega
          simpa [hs] using h
        have hflip' : ∀ i < ops.size, listed.getD i true = false → listed.getD i false = false := by
          intro i hi h
          rw [Array.getD_eq_getD_getElem?] at h ⊢
          have hs : i < listed.size := by omega
          simpa [hs] using h
        have hex : ∃ i, i < m ∧ listed.getD i false = false := by
          refine Classical.byContradiction fun hc => hdone fun i hi => ?_
          cases hb : listed.getD i false with
          | true => rfl
          | false => exact absurd ⟨i, hi, hb⟩ hc
        have hleast : ∃ i, i < m ∧ listed.getD i false = false ∧ ∀ j < i, listed.getD j false = true := by
          obtain ⟨i, hi⟩ := hex
          induction i using Nat.strongRecOn with
          | _ i ihi =>
            by_cases hj : ∃ j, j < i ∧ listed.getD j false = false
            · obtain ⟨j, hj1, hj2⟩ := hj
              exact ihi j hj1 ⟨by omega, hj2⟩
            · refine ⟨i, hi.1, hi.2, fun j hj' => ?_⟩
              cases hb : listed.getD j false with
              | true => rfl
              | false => exact absurd ⟨j, hj', hb⟩ hj
        obtain ⟨i0, hi0, hu0, hb0⟩ := hleast
        refine ⟨fun hnil => ?_, fun i hi => ?_⟩
        · have : i0 ∈ Region.ready .any ops listed := by
            obtain ⟨o, ho, _⟩ := hop i0 hi0
            exact ready_iff.2 ⟨by omega, hflip i0 (by omega) hu0, o, ho, fun e he hb => hb0 _ (haft i0 o ho e he hb)⟩
          rw [hnil] at this; cases this
        · obtain ⟨r1, r2, o, ho, r3⟩ := ready_iff.1 hi
          have him : i < m := by
            refine Nat.lt_of_not_le fun hge => ?_
            have := (hrow' i hge r1 i0 (by omega)).listed (L := fun x => listed.getD x false = true) hcl (fun y hy => by
              obtain ⟨e, he, hb, rfl⟩ := (hinv ho y).1 hy
              exact r3 e he hb)
            rw [hu0] at this; cases this
          have g := g2 i (Nat.zero_le _) him
          obtain ⟨o', ho', hdo, htk⟩ := hop i him
          have : o' = o := by rw [ho] at ho'; exact (Option.some.inj ho').symm
          subst this
          have hbsi : bs[i - 0]? = some (badR ops.toList m rows i) := by
            rw [hbs, Nat.sub_zero, List.getElem?_map, List.getElem?_range him]; rfl
          have good := g.2.2.2.2.1 _ hbsi
          have Ki := hst i (Nat.le_of_lt him)
          have hbad : ∀ j < m, d j ∉ badR ops.toList m rows i → j ∈ row rows i := by
            intro j hj hnb
            refine Classical.byContradiction fun hc => hnb ?_
            obtain ⟨oj, hoj, hdj, _⟩ := hop j hj
            simp only [badR, List.mem_map, List.mem_filter, List.mem_range]
            refine ⟨j, ⟨hj, ?_⟩, ?_⟩
            · have : ¬ (row rows i).elem j = true := fun h => hc (elem_iff.1 h)
              simpa using this
            · simp [hoj, dstOf, hdj]
          have hdir : ∀ y ∈ aftI ops.toList i, listed.getD y false = true := fun y hy => by
            obtain ⟨e, he, hb, rfl⟩ := (hinv ho y).1 hy
            exact r3 e he hb
          have hAnlt : ∀ {x y : Nat}, An ops.toList x y → y < ops.size → x < y := by
            intro x y h
            induction h with
            | @d i' h => intro hy; have := hpre i' (by simpa using hy) x h; simpa [Nat.blt_eq] using this
            | @t k i' _ h2 ih =>
              intro hy
              have := hpre i' (by simpa using hy) k h2
              have hk : k < i' := by simpa [Nat.blt_eq] using this
              have := ih (by omega)
              omega
          have haftD : ∀ j, j ∈ row rows i → j < i ∧ listed.getD j false = true := by
            intro j hj
            have hA := hAn i r1 j hj
            exact ⟨hAnlt hA r1, hA.listed (L := fun x => listed.getD x false = true) hcl hdir⟩
          have hul : ¬ listed.getD i false = true := by rw [hflip' i r1 r2]; simp
          refine good s' a w β _ R ?_ ?_ ?_ ?_
          · intro x f hx
            simp only [cut] at hx
            rw [lk_filter (fun y => !(badR ops.toList m rows i).elem y)] at hx
            split at hx
            · rename_i hnb
              have hnb : x ∉ badR ops.toList m rows i := fun h => by rw [elem_iff.2 h] at hnb; simp at hnb
              by_cases hxi : ∃ j, j < m ∧ d j = x
              · obtain ⟨j, hj, rfl⟩ := hxi
                obtain ⟨hji, hjl⟩ := haftD j (hbad j hj hnb)
                rw [Ki.t1 j hj hji] at hx
                rw [K.t1 j hj hjl]; exact hx
              · have hno : ∀ j < m, d j ≠ x := fun j hj e => hxi ⟨j, hj, e⟩
                rw [Ki.t2 x fun j hj _ => hno j hj] at hx
                rw [K.t2 x fun j hj _ => hno j hj]; exact hx
            · cases hx
          · intro x f hx
            simp only [cut] at hx
            rw [lk_filter (fun y => !(badR ops.toList m rows i).elem (y / 64))] at hx
            split at hx
            · rename_i hnb
              have hnb : x / 64 ∉ badR ops.toList m rows i := fun h => by rw [elem_iff.2 h] at hnb; simp at hnb
              by_cases hxi : ∃ j, j < m ∧ x ∈ (ns j).map (·.1)
              · obtain ⟨j, hj, hk⟩ := hxi
                have hkd := nsOk_key (hn j hj) hk
                rw [hkd] at hnb
                obtain ⟨hji, hjl⟩ := haftD j (hbad j hj hnb)
                rw [Ki.o1 j hj hji x hk] at hx
                rw [K.o1 j hj hjl x hk]; exact hx
              · have hno : ∀ j < m, x ∉ (ns j).map (·.1) := fun j hj e => hxi ⟨j, hj, e⟩
                rw [Ki.o2 x fun j hj _ => hno j hj] at hx
                rw [K.o2 x fun j hj _ => hno j hj]; exact hx
            · cases hx
          · obtain ⟨f1, f2⟩ := freshOs_iff.1 g.2.2.1
            refine freshOs_iff.2 ⟨fun x hx => ?_, f2⟩
            have hxd := nsOk_key (hn i him) hx
            have hother : ∀ j < m, j ≠ i → x ∉ (ns j).map (·.1) := fun j hj hne hk => hne (hd j hj i him ((nsOk_key (hn j hj) hk).symm.trans hxd))
            rw [K.o2 x fun j hj hl => hother j hj fun e => hul (e ▸ hl), ← Ki.o2 x fun j hj hl => hother j hj (Nat.ne_of_lt hl)]
            exact f1 x hx
          · intro a' w' β' R'
            have hsi : i < listed.size := by omega
            refine ih _ _ a' w' β' (by simp [hsz]) (by have := left_set hsz r1 r2; omega) (fun j hj hjs => ?_) (fun x hx y hy => ?_) (K.step hd hn him hul fun j hj => ?_) R'
            · rw [getD_set hsi, if_neg (by omega)]; exact hun j hj hjs
            · rw [getD_set hsi] at hx ⊢
              split
              · rfl
              · by_cases e : i = x
                · subst e; exact hdir y hy
                · rw [if_neg e] at hx; exact hcl x hx y hy
            · rw [getD_set hsi]
              by_cases e : i = j
              · simp [e]
              · simp [e, Ne.symm e]
  have hf0 : ∀ i, (Array.replicate ops.size false).getD i false = false := by
    intro i
    rw [Array.getD_eq_getD_getElem?]
    by_cases hi : i < ops.size <;> simp [hi]
  refine main ops.size _ s a w β (by simp) ?_ (fun j _ hj => by simp [hj]) (fun x hx => by rw [hf0] at hx; cases hx) ?_ R'
  · unfold left
    refine Nat.le_trans List.countP_le_length (by simp)
  · have hf : ∀ i, (Array.replicate ops.size false).getD i false = false := by
      intro i
      rw [Array.getD_eq_getD_getElem?]
      by_cases hi : i < ops.size <;> simp [hi]
    exact ⟨fun i _ h => absurd ((hf i).symm.trans h) (by simp), fun _ _ => rfl, fun i _ h => absurd ((hf i).symm.trans h) (by simp), fun _ _ => rfl⟩

end Go.Sm

namespace Go.Sm
open Go.RowKit

variable {w0 : Base} {s : St} {a : Act} {w : World} {β : Nat → Value}

theorem lk_cut_tm (b : List Nat) (s : St) (x : Nat) : lk (cut b s).tm x = if (!b.elem x) = true then lk s.tm x else none := lk_filter (fun y => !b.elem y) s.tm x
theorem lk_cut_ob (b : List Nat) (s : St) (x : Nat) : lk (cut b s).ob x = if (!b.elem (x / 64)) = true then lk s.ob x else none := lk_filter (fun y => !b.elem (y / 64)) s.ob x

/-- What may be read. -/
def tmB (b : List Nat) (s : St) (t : Nat) : Option FV := match b.elem t with
  | true => none
  | false => lk s.tm t
def opdB (b : List Nat) (s : St) : Operand → Option FV
  | .tmp t => tmB b s t
  | .const v => constFV v
  | .func f => some (.c (.d (.v (.func (.func f) #[] #[]))))
  | .global _ => none
def obB (b : List Nat) (s : St) (k : Nat) : Option Ob := match b.elem (k / 64) with
  | true => none
  | false => lk s.ob k
theorem tmB_eq (b : List Nat) (s : St) : lk (cut b s).tm = tmB b s := by
  funext t
  rw [lk_cut_tm, tmB]
  cases b.elem t <;> rfl
theorem obB_eq (b : List Nat) (s : St) : lk (cut b s).ob = obB b s := by
  funext t
  rw [lk_cut_ob, obB]
  cases b.elem (t / 64) <;> rfl
theorem opdB_eq (b : List Nat) (s : St) : (cut b s).opd = opdB b s := by
  funext x
  cases x with
  | tmp t => show lk (cut b s).tm t = tmB b s t; rw [tmB_eq]
  | _ => rfl

theorem DrS.ext {F : Fn} {Q : Exit → Act → World → Prop} {all : Array Oper} {k : List It} {m : Nat} : ∀ {os : List Oper} {bs : List (List Nat)} {i : Nat} {s s' : St}, (∀ t, lk s'.tm t = lk s.tm t) → (∀ k, lk s.ob k = lk s'.ob k) →
    DrS F w0 Q all k m bs i os s → DrS F w0 Q all k m bs i os s'
  | [], bs, i, s, s', ht, ho, h => by
    have h : J F.P F.N w0 (cont F.P F.N w0 Q k) [.ops all (all.toList.drop m)] s := by cases bs <;> simpa only [DrS] using h
    have h' : J F.P F.N w0 (cont F.P F.N w0 Q k) [.ops all (all.toList.drop m)] s' := fun a w β R => h a w β (R.ext (fun t => (ht t).symm) fun k => (ho k).symm)
    cases bs <;> simpa only [DrS] using h'
  | o :: os, [], i, s, s', ht, ho, h => by simp only [DrS] at h
  | o :: os, b :: bs, i, s, s', ht, ho, h => by
    simp only [DrS] at h ⊢
    obtain ⟨d, v, ns, h1, h2, h3, h4, h5, h6⟩ := h
    refine ⟨d, v, ns, h1, h2, ?_, h4, ?_, DrS.ext ?_ ?_ h6⟩
    · obtain ⟨f1, f2⟩ := freshOs_iff.1 h3
      exact freshOs_iff.2 ⟨fun k hk => by rw [← ho]; exact f1 k hk, f2⟩
    · intro s2 a w β K R l1 l2 fr nx
      refine h5 s2 a w β K R ?_ ?_ fr nx
      · intro x f hx; exact l1 x f (by rw [lk_cut_tm] at hx ⊢; rw [ht]; exact hx)
      · intro x f hx; exact l2 x f (by rw [lk_cut_ob] at hx ⊢; rw [← ho]; exact hx)
    · intro t; simp only [lk_cons, ht]
    · intro t; simp only [lk_append, ho]

/-- A call in the quiet part. -/
def DrC (F : Fn) (w0 : Base) (Q : Exit → Act → World → Prop) (all : Array Oper) (k : List It) (m : Nat) (bs : List (List Nat)) (i : Nat) (os : List Oper) (s : St) (b : List Nat) (d f : Nat) (fs : List FV) : Prop :=
  ∃ args q, argsR (obB b s) fs = some args ∧ CallOK F.P f args q ∧ freshOs s.ob (impOs (d * 64) (cellsR q)) = true ∧ nsOk d (impOs (d * 64) (cellsR q)) = true ∧
    DrS F w0 Q all k m bs i os ⟨(d, impF (d * 64) q) :: s.tm, impOs (d * 64) (cellsR q) ++ s.ob⟩

def dr (F : Fn) (w0 : Base) (Q : Exit → Act → World → Prop) (all : Array Oper) (k : List It) (m : Nat) : List (List Nat) → Nat → List Oper → St → Prop
  | _, _, [], s => J F.P F.N w0 Q (.ops all (all.toList.drop m) :: k) s
  | [], _, _ :: _, _ => False
  | b :: bs, i, o :: os, s =>
    let go (s : St) : Prop := match o.dst with
      | some d => Nat.blt d F.N = true ∧ match ev F.T F.E (opdB b s) (obB b s) (d * 64) o.type o.op with
        | .q p v ns => p ∧ freshOs s.ob ns = true ∧ nsOk d ns = true ∧ dr F w0 Q all k m bs (i + 1) os ⟨(d, v) :: s.tm, ns ++ s.ob⟩
        | .el xs j => (0 ≤ j ∧ j < xs.length) ∧ Later (∀ e, xs[j.toNat]? = some e → dr F w0 Q all k m bs (i + 1) os ⟨(d, .c (.rd e)) :: s.tm, s.ob⟩)
        | .ld xs j j' size agg => j < xs.length ∧ Later (∀ e, xs[j]? = some e → dr F w0 Q all k m bs (i + 1) os ⟨(d, ldV e j' size agg) :: s.tm, s.ob⟩)
        | .call f fs => DrC F w0 Q all k m bs (i + 1) os s b d f fs
        | _ => False
      | none => False
    match o.guard with
    | none => go s
    | some (j, want) => match (all[j]?).bind (·.dst), o.dst with
      | some d, some d' => Nat.blt d' F.N = true ∧ match tmB b s d with
        | some (.c (.d (.v (.bool x)))) => br x want (go ⟨(d, .c (.d (.v (.bool want)))) :: s.tm, s.ob⟩)
            (dr F w0 Q all k m bs (i + 1) os ⟨(d', .und) :: (d, .c (.d (.v (.bool (!want))))) :: s.tm, s.ob⟩)
        | some .und => dr F w0 Q all k m bs (i + 1) os ⟨(d', .und) :: s.tm, s.ob⟩
        | _ => False
      | _, _ => False

theorem argF_mono {ob ob' : Nat → Option Ob} (ho : Le ob ob') {f : FV} {r : RV} (h : argF ob f = some r) : argF ob' f = some r := by
  have hC : ∀ {c : C} {d : D}, argC ob c = some d → argC ob' c = some d := by
    intro c d h
    unfold argC at h ⊢
    split at h
    · exact h
    · rename_i k
      cases hk : ob k with
      | none => simp [hk] at h
      | some o => rw [hk] at h; rw [ho _ _ hk]; exact h
    · rename_i k z lo n
      cases hk : ob k with
      | none => simp [hk] at h
      | some o => rw [hk] at h; rw [ho _ _ hk]; exact h
    · cases h
  have hCs : ∀ {cs : List C} {ds : List D}, argCs' ob cs = some ds → argCs' ob' cs = some ds := by
    intro cs
    induction cs with
    | nil => intro ds h; exact h
    | cons c cs ih =>
      intro ds h
      simp only [argCs'] at h ⊢
      cases hc : argC ob c with
      | none => simp [hc] at h
      | some d =>
        cases hcs : argCs' ob cs with
        | none => simp [hc, hcs] at h
        | some ds' => rw [hc, hcs] at h; rw [hC hc, ih hcs]; exact h
  unfold argF at h ⊢
  split at h
  · rename_i x
    cases hx : argC ob x with
    | none => simp [hx] at h
    | some d => rw [hx] at h; rw [hC hx]; exact h
  · rename_i xs
    cases hx : argCs' ob xs with
    | none => simp [hx] at h
    | some d => rw [hx] at h; rw [hCs hx]; exact h
  · cases h

theorem argsR_mono {ob ob' : Nat → Option Ob} (ho : Le ob ob') : ∀ {fs : List FV} {rs : List RV}, argsR ob fs = some rs → argsR ob' fs = some rs
  | [], _, h => h
  | f :: fs, rs, h => by
    simp only [argsR] at h ⊢
    cases hc : argF ob f with
    | none => simp [hc] at h
    | some d =>
      cases hcs : argsR ob fs with
      | none => simp [hc, hcs] at h
      | some ds' => rw [hc, hcs] at h; rw [argF_mono ho hc, argsR_mono ho hcs]; exact h

theorem opd_mono {s t : St} (h : Le (lk t.tm) (lk s.tm)) : ∀ x f, t.opd x = some f → s.opd x = some f := by
  intro x f hx
  cases x with
  | tmp t => exact h _ _ hx
  | _ => exact hx

/-- One operation that is wanted. -/
theorem core {F : Fn} (hF : FnOk F) {o : Oper} {d : Nat} (hd : o.dst = some d) (hlt : d < F.N) {t : St} {r : Ev} (he : ev F.T F.E t.opd (lk t.ob) (d * 64) o.type o.op = r) {v : FV} {ns : List (Nat × Ob)}
    (hr : (∃ p, r = .q p v ns ∧ p) ∨ (∃ xs j e, r = .el xs j ∧ (0 ≤ j ∧ j < xs.length) ∧ xs[j.toNat]? = some e ∧ v = .c (.rd e) ∧ ns = []) ∨
      (∃ xs j j' size agg e, r = .ld xs j j' size agg ∧ xs[j]? = some e ∧ v = ldV e j' size agg ∧ ns = []) ∨
      (∃ f fs args q, r = .call f fs ∧ argsR (lk t.ob) fs = some args ∧ CallOK F.P f args q ∧ v = impF (d * 64) q ∧ ns = impOs (d * 64) (cellsR q)))
    {s : St} {a : Act} {w : World} {β : Nat → Value} {K : Act → World → Prop} {Q : Exit → Act → World → Prop} (R : Rel F.N w0 s a w β) (h1 : Le (lk t.tm) (lk s.tm)) (h2 : Le (lk t.ob) (lk s.ob)) (hfr : freshOs s.ob ns = true)
    (hK : ∀ a' w' β', Rel F.N w0 ⟨(d, v) :: s.tm, ns ++ s.ob⟩ a' w' β' → K a' w') : o.wp F.P a w K Q := by
  have he' : r ≠ .fail → ev F.T F.E s.opd (lk s.ob) (d * 64) o.type o.op = r := ev_mono (opd_mono h1) h2 he
  unfold Oper.wp
  rcases hr with ⟨p, rfl, hp⟩ | ⟨xs, j, e, rfl, hj, hx, rfl, rfl⟩ | ⟨xs, j, j', size, agg, e, rfl, hx, rfl, rfl⟩ | ⟨f, fs, args, q, rfl, ha, hc, rfl, rfl⟩
  · obtain ⟨val, w', β', r1, r2, r3⟩ := ev_q hF.T hF.E R (he' (by simp)) hp hfr
    rw [r1, Oper.upon_value, hd]
    exact hK _ _ _ (r2.setTm hlt r3)
  · obtain ⟨val, r1, r2⟩ := ev_el hF.T R (he' (by simp)) hj
    rw [r1, Oper.upon_value, hd]
    exact hK _ _ _ (R.setTm hlt (r2 _ hx))
  · obtain ⟨val, r1, r2⟩ := ev_ld hF.T R (he' (by simp)) hx
    rw [r1, Oper.upon_value, hd]
    exact hK _ _ _ (R.setTm hlt r2)
  · obtain ⟨vs, r1, r2⟩ := ev_call R (he' (by simp)) hc.1
    rw [r1, Oper.upon_enter]
    refine Calls.mono (hc.2 w vs (argsR_sound R (argsR_mono h2 ha) r2)) fun e w' ⟨v, hv, hown, hb⟩ => ?_
    subst hv
    obtain ⟨us, q1, q2, q3, q4, q5⟩ := hown
    obtain ⟨β', g1, g2⟩ := R.import hb hfr q2 q3 q4 q5
    rw [hd]
    exact hK _ _ _ (g1.setTm hlt (impF_rel q1 g2))

theorem nsOk_nil (d : Nat) : nsOk d [] = true := rfl

theorem dr_sound {F : Fn} (hF : FnOk F) {Q : Exit → Act → World → Prop} {all : Array Oper} {k : List It} {m : Nat} : ∀ {os : List Oper} {bs : List (List Nat)} {i : Nat} {s : St}, (∀ j o, os[j]? = some o → all[i + j]? = some o) →
    dr F w0 Q all k m bs i os s → DrS F w0 Q all k m bs i os s
  | [], bs, i, s, _, h => by
    have h : J F.P F.N w0 Q (.ops all (all.toList.drop m) :: k) s := by cases bs <;> simpa only [dr] using h
    have h' : J F.P F.N w0 (cont F.P F.N w0 Q k) [.ops all (all.toList.drop m)] s := by
      intro a w β R
      have := h a w β R
      simp only [cont] at this ⊢
      exact this
    cases bs <;> simpa only [DrS] using h'
  | o :: os, [], i, s, _, h => by simp only [dr] at h
  | o :: os, b :: bs, i, s, hall, h => by
    have hi : all[i]? = some o := by simpa using hall 0 o rfl
    have hall' : ∀ j o, os[j]? = some o → all[i + 1 + j]? = some o := fun j o' h => by
      rw [show i + 1 + j = i + (j + 1) by omega]; exact hall (j + 1) o' (by simpa using h)
    -- one operation that is carried out, in the state s'
    have go : ∀ {s' : St}, (∀ {v : FV} {ns : List (Nat × Ob)} {d : Nat}, o.dst = some d → (∀ s a w β (K : Act → World → Prop), Rel F.N w0 s a w β → Le (lk (cut b s').tm) (lk s.tm) → Le (lk (cut b s').ob) (lk s.ob) → freshOs s.ob ns = true →
          (∀ a' w' β', Rel F.N w0 ⟨(d, v) :: s.tm, ns ++ s.ob⟩ a' w' β' → K a' w') → o.wp F.P a w K (cont F.P F.N w0 Q k)) → GoodOp F w0 (cont F.P F.N w0 Q k) all i (cut b s') d v ns) →
        (match o.dst with
      | some d => Nat.blt d F.N = true ∧ match ev F.T F.E (cut b s').opd (lk (cut b s').ob) (d * 64) o.type o.op with
        | .q p v ns => p ∧ freshOs s'.ob ns = true ∧ nsOk d ns = true ∧ dr F w0 Q all k m bs (i + 1) os ⟨(d, v) :: s'.tm, ns ++ s'.ob⟩
        | .el xs j => (0 ≤ j ∧ j < xs.length) ∧ (∀ e, xs[j.toNat]? = some e → dr F w0 Q all k m bs (i + 1) os ⟨(d, .c (.rd e)) :: s'.tm, s'.ob⟩)
        | .ld xs j j' size agg => j < xs.length ∧ (∀ e, xs[j]? = some e → dr F w0 Q all k m bs (i + 1) os ⟨(d, ldV e j' size agg) :: s'.tm, s'.ob⟩)
        | .call f fs => DrC F w0 Q all k m bs (i + 1) os s' b d f fs
        | _ => False
      | none => False) → DrS F w0 Q all k m (b :: bs) i (o :: os) s' := by
      intro s' hgood h
      cases hd : o.dst with
      | none => rw [hd] at h; exact h.elim
      | some d =>
        rw [hd] at h
        obtain ⟨hlt, h⟩ := h
        have hlt : d < F.N := by simpa [Nat.blt_eq] using hlt
        simp only [DrS]
        split at h
        · rename_i p v ns he
          obtain ⟨hp, hf, hn, h⟩ := h
          exact ⟨d, v, ns, hd, hlt, hf, hn, hgood hd fun s a w β K R l1 l2 f n => core hF hd hlt he (.inl ⟨p, rfl, hp⟩) R l1 l2 f n, dr_sound hF hall' h⟩
        · rename_i xs j he
          obtain ⟨hj, h⟩ := h
          have hx : xs[j.toNat]? = some (xs[j.toNat]'(by omega)) := by simp
          exact ⟨d, _, [], hd, hlt, rfl, nsOk_nil d, hgood hd fun s a w β K R l1 l2 f n => core hF hd hlt he (.inr (.inl ⟨xs, j, _, rfl, hj, hx, rfl, rfl⟩)) R l1 l2 f n, dr_sound hF hall' (h _ hx)⟩
        · rename_i xs j j' size agg he
          obtain ⟨hj, h⟩ := h
          have hx : xs[j]? = some (xs[j]'hj) := by simp
          exact ⟨d, _, [], hd, hlt, rfl, nsOk_nil d, hgood hd fun s a w β K R l1 l2 f n => core hF hd hlt he (.inr (.inr (.inl ⟨xs, j, j', size, agg, _, rfl, hx, rfl, rfl⟩))) R l1 l2 f n, dr_sound hF hall' (h _ hx)⟩
        · rename_i f fs he
          obtain ⟨args, q, g1, g2, g3, g4, g5⟩ := h
          rw [← obB_eq] at g1
          exact ⟨d, _, _, hd, hlt, g3, g4, hgood hd fun s a w β K R l1 l2 f n => core hF hd hlt he (.inr (.inr (.inr ⟨_, _, args, q, rfl, g1, g2, rfl, rfl⟩))) R l1 l2 f n, g5⟩
        · exact h.elim
    simp only [dr, ← opdB_eq, ← obB_eq, ← tmB_eq] at h
    cases hg : o.guard with
    | none =>
      rw [hg] at h
      refine go (fun {v ns d} hd hc => ?_) h
      intro s2 a w β K R l1 l2 fr nx
      have hw : Region.wanted o (yielded all a.tmps) = true := by simp [Region.wanted, hg]
      simp only [wpOp, hi, if_pos hw]
      exact .inl (hc s2 a w β K R l1 l2 fr nx)
    | some g =>
      obtain ⟨j, want⟩ := g
      rw [hg] at h
      simp only at h
      split at h
      · rename_i dj d' hj hd'
        obtain ⟨hlt, h⟩ := h
        have hlt : d' < F.N := by simpa [Nat.blt_eq] using hlt
        have ext1 : ∀ {x : Bool}, lk (cut b s).tm dj = some (.c (.d (.v (.bool x)))) → ∀ t, lk s.tm t = lk ((dj, FV.c (.d (.v (.bool x)))) :: s.tm) t := by
          intro x hx t
          rw [lk_cut_tm] at hx
          split at hx
          · rw [lk_cons]
            split
            · rename_i e; rw [← e]; exact hx
            · rfl
          · cases hx
        have wantd : ∀ {x : Bool} {s2 : St} {a : Act} {w : World} {β : Nat → Value}, lk (cut b s).tm dj = some (.c (.d (.v (.bool x)))) → Rel F.N w0 s2 a w β → Le (lk (cut b s).tm) (lk s2.tm) →
            Region.wanted o (yielded all a.tmps) = (x == want) := by
          intro x s2 a w β hx R l
          have hv := bool_rel (R.tm dj _ (l _ _ hx))
          have hy := yielded_bool hj hv
          simp only [Region.wanted, hg, hy]
          cases x <;> cases want <;> rfl
        split at h
        · rename_i x hx
          have lecut : ∀ {c : Bool}, x = c → ∀ t, lk (cut b ⟨(dj, .c (.d (.v (.bool c)))) :: s.tm, s.ob⟩).tm t = lk (cut b s).tm t := by
            intro c e t
            rw [lk_cut_tm, lk_cut_tm, ← e]
            split
            · exact (ext1 hx t).symm
            · rfl
          by_cases hxw : x = want
          · have := go (s' := ⟨(dj, .c (.d (.v (.bool want)))) :: s.tm, s.ob⟩) (fun {v ns d} hd hc => ?_) (h.1 hxw)
            · have e1 := ext1 hx
              rw [hxw] at e1
              exact @DrS.ext w0 F Q all k m (o :: os) (b :: bs) i ⟨(dj, .c (.d (.v (.bool want)))) :: s.tm, s.ob⟩ s e1 (fun _ => rfl) this
            · intro s2 a w β K R l1 l2 fr nx
              have l1' : Le (lk (cut b s).tm) (lk s2.tm) := fun t f ht => l1 t f (by rw [lecut hxw]; exact ht)
              have hw := wantd hx R l1'
              rw [hxw] at hw
              simp only [wpOp, hi]
              rw [if_pos (by rw [hw]; cases want <;> rfl)]
              exact .inl (hc s2 a w β K R l1 l2 fr nx)
          · have hxn : x = (!want) := by cases x <;> cases want <;> first | rfl | exact absurd rfl hxw
            have h2 := dr_sound hF hall' (h.2 hxn)
            simp only [DrS]
            refine ⟨d', .und, [], hd', hlt, rfl, nsOk_nil d', ?_, @DrS.ext w0 F Q all k m os bs (i + 1) ⟨(d', .und) :: (dj, .c (.d (.v (.bool (!want))))) :: s.tm, s.ob⟩ ⟨(d', .und) :: s.tm, s.ob⟩ (fun t => ?_) (fun _ => rfl) h2⟩
            · intro s2 a w β K R l1 l2 fr nx
              have hw := wantd hx R l1
              simp only [wpOp, hi]
              rw [if_neg (by rw [hw, hxn]; cases want <;> simp), hd']
              exact nx _ _ _ (R.setTm hlt (by simp only [FVRel]))
            · simp only [lk_cons]
              split
              · rfl
              · have := ext1 hx t
                rw [hxn, lk_cons] at this
                exact this
        · rename_i hx
          have h2 := dr_sound hF hall' h
          simp only [DrS]
          refine ⟨d', .und, [], hd', hlt, rfl, nsOk_nil d', ?_, h2⟩
          intro s2 a w β K R l1 l2 fr nx
          have hv := R.tm dj _ (l1 _ _ hx)
          simp only [FVRel] at hv
          have hy := yielded_undef hj hv
          simp only [wpOp, hi]
          rw [if_neg (by simp [Region.wanted, hg, hy]), hd']
          exact nx _ _ _ (R.setTm hlt (by simp only [FVRel]))
        · exact h.elim
      · exact h.elim

/-- A call in the quiet part; what is left of it is worked out from the state behind. -/
theorem DrC.ok {F : Fn} (hF : FnOk F) {Q : Exit → Act → World → Prop} {all : Array Oper} {k : List It} {m : Nat} {bs : List (List Nat)} {i : Nat} {os : List Oper} {b : List Nat} {d f : Nat} {fs : List FV} {args : List RV} {q : RV}
    (hall : (all.toList.drop i).take os.length = os) (ha : argsR (obB b s) fs = some args) (hc : CallOK F.P f args q) (hfr : freshOs s.ob (impOs (d * 64) (cellsR q)) = true)
    (hns : nsOk d (impOs (d * 64) (cellsR q)) = true) (hj : dr F w0 Q all k m bs i os ⟨(d, impF (d * 64) q) :: s.tm, impOs (d * 64) (cellsR q) ++ s.ob⟩) : DrC F w0 Q all k m bs i os s b d f fs := by
  refine ⟨args, q, ha, hc, hfr, hns, dr_sound hF (fun j o ho => ?_) hj⟩
  rw [← hall, List.getElem?_take] at ho
  split at ho
  · rw [List.getElem?_drop] at ho
    simpa using ho
  · cases ho

theorem J.dr {F : Fn} (hF : FnOk F) {Q : Exit → Act → World → Prop} {id : Nat} {ops : Array Oper} {k : List It} (hmix : F.P.follows .mixedOrders = true) (m : Nat) (rows bs : List (List Nat)) (hok : drawOk ops.toList m rows bs = true)
    (h : dr F w0 Q ops k m bs 0 (ops.toList.take m) s) : J F.P F.N w0 Q (.code (.region id ops true) :: k) s := by
  refine J.draw hmix m rows bs hok (dr_sound hF (fun j o ho => ?_) h)
  rw [List.getElem?_take] at ho
  split at ho
  · simpa using ho
  · cases ho

end Go.Sm

namespace Go.Sm
open Go.RowKit

variable {P : Program}

def mkV : Bool → List Value → Value
  | true, xs => .agg xs.toArray
  | false, xs => xs.headD undef

structure EqI (P : Program) (h : Nat) (t : TypeId) (n : Nat) (agg : Bool) : Prop where
  eq : ∀ (d : Nat) (w : World) (xs ys : List Value) (b : Bool), xs.length = n → eqVs xs ys = some b → (Op.equalIn (d + h) t (mkV agg xs) (mkV agg ys)).run P w = .ok b w
  ck : ∀ (d : Nat) (em : Bool) (w : World) (kk : IntKind) (k : List Int), k.length = n → (Instr.checkKey em (d + h) t (mkV agg (k.map fun x => .int kk x))).run P w = .ok () w

theorem eqVs_length : ∀ {xs ys : List Value} {b : Bool}, eqVs xs ys = some b → xs.length = ys.length
  | [], [], _, _ => rfl
  | [], _ :: _, b, h => by simp [eqVs] at h
  | _ :: _, [], b, h => by simp [eqVs] at h
  | x :: xs, y :: ys, b, h => by
    unfold eqVs at h
    split at h
    · rename_i e _; cases e
    · rename_i k p xs' k' q ys' e1 e2
      obtain ⟨rfl, rfl⟩ := List.cons.inj e1
      obtain ⟨rfl, rfl⟩ := List.cons.inj e2
      split at h
      · rename_i b' hd hq; simp [eqVs_length hq]
      · cases h
    · cases h

theorem eqVs_split : ∀ (n : Nat) {xs ys : List Value} {b : Bool}, n ≤ xs.length → eqVs xs ys = some b → ∃ b1 b2, eqVs (xs.take n) (ys.take n) = some b1 ∧ eqVs (xs.drop n) (ys.drop n) = some b2 ∧ b = (b1 && b2)
  | 0, xs, ys, b, _, h => ⟨true, b, by simp [eqVs], by simpa using h, by simp⟩
  | n + 1, [], ys, b, hn, h => by simp at hn
  | n + 1, x :: xs, [], b, hn, h => by have := eqVs_length h; simp at this
  | n + 1, x :: xs, y :: ys, b, hn, h => by
    unfold eqVs at h
    split at h
    · rename_i e _; cases e
    · rename_i k p xs' k' q ys' e1 e2
      obtain ⟨rfl, rfl⟩ := List.cons.inj e1
      obtain ⟨rfl, rfl⟩ := List.cons.inj e2
      split at h
      · rename_i b' hd hq
        simp only [Option.some.injEq] at h; subst h
        obtain ⟨b1, b2, h1, h2, rfl⟩ := eqVs_split n (by simpa using hn) hq
        refine ⟨(p == q) && b1, b2, ?_, by simpa using h2, by cases (p == q) <;> rfl⟩
        simp only [List.take_succ_cons, eqVs, hd, h1]
      · cases h
    · cases h

theorem eqI_int {t : TypeId} {k : IntKind} (h : P.underlying t = some (.int k)) : EqI P 1 t 1 false := by
  refine ⟨fun d w xs ys b hl he => ?_, fun d em w kk k' hl => ?_⟩
  · match xs, hl with
    | [x], _ =>
      match ys, he with
      | [y], he =>
        unfold eqVs at he
        split at he
        · rename_i e _; cases e
        · rename_i k1 p xs' k2 q ys' e1 e2
          obtain ⟨rfl, rfl⟩ := List.cons.inj e1
          obtain ⟨rfl, rfl⟩ := List.cons.inj e2
          simp only [eqVs] at he
          split at he
          · rename_i b' hd hq
            simp only [Option.some.injEq] at hq he
            subst hq; subst he
            have : k1 = k2 := of_decide_eq_true hd
            subst this
            simp [mkV, Op.equalIn, run_underlying h]
          · cases he
        · cases he
      | [], he => simp [eqVs] at he
      | _ :: _ :: _, he => have := eqVs_length he; simp at this
  · match k', hl with
    | [x], _ => simp [mkV, Instr.checkKey, run_underlying h]

theorem run_part {t : TypeId} {ti : TI} (h : TyOk P t ti) {xs : List Value} {off : Nat} (hfit : off + ti.size ≤ xs.length) (h1 : ti.k.agg = false → ti.size = 1) (w : World) :
    (part t xs.toArray off).run P w = .ok (mkV ti.k.agg ((xs.drop off).take ti.size)) w := by
  unfold part
  simp only [Sem.run_bind, h.isAgg w, Result.andThen_ok]
  cases ha : ti.k.agg with
  | true =>
    simp only [if_true, Sem.run_bind, h.sizeOf w, Result.andThen_ok, Sem.run_pure, mkV]
    congr 1
    congr 1
    apply Array.ext'
    simp
  | false =>
    have hs := h1 ha
    rw [hs] at hfit ⊢
    have hlt : off < xs.length := by omega
    simp only [Bool.false_eq_true, if_false, List.getElem?_toArray, List.getElem?_eq_getElem hlt, Sem.run_pure, mkV]
    congr 1
    rw [List.drop_eq_getElem_cons hlt]
    rfl

theorem eqI_arr {t e len h : Nat} {te : TI} (hu : P.underlying t = some (.array len e)) (hte : TyOk P e te) (he : EqI P h e te.size te.k.agg) (h1 : te.k.agg = false → te.size = 1) : EqI P (h + 1) t (len * te.size) true := by
  refine ⟨fun d w xs ys b hl heq => ?_, fun d em w kk k hl => ?_⟩
  · show (Op.equalIn (d + h + 1) t (.agg xs.toArray) (.agg ys.toArray)).run P w = _
    have hl2 := eqVs_length heq
    simp only [Op.equalIn, Sem.run_bind, run_underlying hu, Result.andThen_ok, hte.sizeOf w]
    have key : ∀ (n i : Nat) (b : Bool), i + n = len → eqVs (xs.drop (i * te.size)) (ys.drop (i * te.size)) = some b →
        (forIn (m := Sem) (List.range' i n) ((none, ()) : Option Bool × Unit) (fun i _ => do
          let a ← part e xs.toArray (i * te.size)
          let b ← part e ys.toArray (i * te.size)
          let r ← Op.equalIn (d + h) e a b
          if (!r) = true then pure (ForInStep.done (some false, ())) else pure (ForInStep.yield (none, ())))).run P w = .ok (if b then (none, ()) else (some false, ())) w := by
      intro n
      induction n with
      | zero =>
        intro i b hi hb
        have : xs.drop (i * te.size) = [] := List.drop_eq_nil_of_le (by rw [hl]; exact Nat.mul_le_mul_right _ (by omega))
        have h2 : ys.drop (i * te.size) = [] := List.drop_eq_nil_of_le (by rw [← hl2, hl]; exact Nat.mul_le_mul_right _ (by omega))
        rw [this, h2] at hb
        simp only [eqVs, Option.some.injEq] at hb; subst hb
        simp
      | succ n ih =>
        intro i b hi hb
        have hfit : i * te.size + te.size ≤ xs.length := by
          rw [hl, show i * te.size + te.size = (i + 1) * te.size by rw [Nat.add_mul]; omega]
          exact Nat.mul_le_mul_right _ (by omega)
        obtain ⟨b1, b2, q1, q2, rfl⟩ := eqVs_split te.size (by rw [List.length_drop]; omega) hb
        have r1 := he.eq d w _ _ b1 (by rw [List.length_take, List.length_drop]; omega) q1
        rw [List.drop_drop, List.drop_drop, show i * te.size + te.size = (i + 1) * te.size by rw [Nat.add_mul]; omega] at q2
        rw [List.range'_succ]
        simp only [List.forIn_cons, Sem.run_bind, run_part hte hfit h1, run_part hte (by rw [← hl2]; exact hfit) h1, Result.andThen_ok, r1]
        cases b1 with
        | true =>
          simp only [Bool.not_true, Bool.false_eq_true, if_false, Sem.run_pure, Result.andThen_ok, Bool.true_and]
          exact ih (i + 1) b2 (by omega) q2
        | false => simp
    have hk := key len 0 b (by omega) (by simpa using heq)
    rw [Std.Legacy.Range.forIn_eq_forIn_range']
    simp only [Std.Legacy.Range.size, Nat.sub_zero, Nat.add_sub_cancel, Nat.div_one]
    rw [hk]
    cases b <;> simp
  · show (Instr.checkKey em (d + h + 1) t (.agg (k.map fun x => Value.int kk x).toArray)).run P w = _
    simp only [Instr.checkKey, Sem.run_bind, run_underlying hu, Result.andThen_ok]
    have key : ∀ (n i : Nat), i + n = len →
        (forIn (m := Sem) (List.range' i n) PUnit.unit (fun i _ => do
          let s ← Go.sizeOf e
          let a ← part e (k.map fun x => Value.int kk x).toArray (i * s)
          Instr.checkKey em (d + h) e a
          pure (ForInStep.yield PUnit.unit))).run P w = .ok PUnit.unit w := by
      intro n
      induction n with
      | zero => intro i _; simp
      | succ n ih =>
        intro i hi
        have hfit : i * te.size + te.size ≤ (k.map fun x => Value.int kk x).length := by
          rw [List.length_map, hl, show i * te.size + te.size = (i + 1) * te.size by rw [Nat.add_mul]; omega]
          exact Nat.mul_le_mul_right _ (by omega)
        have r1 := he.ck d em w kk ((k.drop (i * te.size)).take te.size) (by rw [List.length_take, List.length_drop]; rw [List.length_map] at hfit; omega)
        rw [List.map_take, List.map_drop] at r1
        rw [List.range'_succ]
        simp only [List.forIn_cons, Sem.run_bind, hte.sizeOf w, run_part hte hfit h1, Result.andThen_ok, r1, Sem.run_pure]
        exact ih (i + 1) (by omega)
    have hk := key len 0 (by omega)
    rw [Std.Legacy.Range.forIn_eq_forIn_range']
    simp only [Std.Legacy.Range.size, Nat.sub_zero, Nat.add_sub_cancel, Nat.div_one]
    rw [hk]
    simp

theorem eqOk_of {t n h : Nat} (he : EqI P h t n true) (hg : P.eqGuardType P.depth t = false) (hh : h ≤ 10000) : EqOk P t n := by
  refine ⟨hg, fun w xs ys b h1 h2 => ?_, fun em w kk k h1 => ?_⟩
  · have := he.eq (10000 - h) w xs ys b h1 h2
    rw [Nat.sub_add_cancel hh] at this
    exact this
  · have := he.ck (10000 - h) em w kk k h1
    rw [Nat.sub_add_cancel hh] at this
    exact this

theorem eqTab_cons {t n : Nat} {E : List (Nat × Nat)} (h : EqOk P t n) (hE : ∀ t n, lk E t = some n → EqOk P t n) : ∀ t' n', lk ((t, n) :: E) t' = some n' → EqOk P t' n' := by
  intro t' n' h'
  rw [lk_cons] at h'
  split at h'
  · rename_i e; subst e
    simp only [Option.some.injEq] at h'; subst h'
    exact h
  · exact hE _ _ h'

end Go.Sm

namespace Go.Sm
open Go.RowKit

variable {P : Program} {N : Nat} {w0 : Base} {s : St} {a : Act} {w : World} {β : Nat → Value}

def tkAt (tk : List (List Nat)) (i : Nat) : List Nat := (tk[i]?).getD []
def badR3 (ops : List Oper) (m : Nat) (rows : List (List Nat)) (i : Nat) : List Nat := ((List.range m).filter fun j => !(row rows i).elem j).filterMap fun j => (ops[j]?).bind (·.dst)
def hidR (m : Nat) (rows tk : List (List Nat)) (alts : List (Nat × Nat × Nat)) (i : Nat) : List Nat := ((List.range m).filter fun j => !(row rows i).elem j && !(row rows j).elem i && !Nat.beq j i).flatMap fun j => (tkAt tk j).filter fun x => !(lk alts i == some (j, x))

def cut2 (bad hid : List Nat) (s : St) : St := ⟨s.tm.filter (fun p => !bad.elem p.1), s.ob.filter (fun p => !bad.elem (p.1 / 64) && !hid.elem p.1)⟩
def nsOk3 (d : Option Nat) (tk : List Nat) (ns : List (Nat × Ob)) : Bool := ns.all fun p => d == some (p.1 / 64) || tk.elem p.1
/-- What op i writes, if it was told ahead. -/
def noOk (no : List (Nat × Ob)) (tk : List Nat) (i : Nat) (ns : List (Nat × Ob)) : Prop := match lk no i with
  | none => True
  | some ob => ∀ x ∈ tk, lk ns x = some ob

/-- One operation, wherever no less is known than in t. -/
def GoodOp3 (F : Fn) (w0 : Base) (Q : Exit → Act → World → Prop) (all : Array Oper) (i : Nat) (t : St) (d : Option Nat) (v : FV) (ns : List (Nat × Ob)) (fk : List Nat) : Prop :=
  ∀ s a w β (K : Act → World → Prop), Rel F.N w0 s a w β → Le (lk t.tm) (lk s.tm) → Le (lk t.ob) (lk s.ob) → (∀ x ∈ fk, lk s.ob x = none) →
    (∀ a' w' β', Rel F.N w0 ((⟨s.tm, ns ++ s.ob⟩ : St).put d v) a' w' β' → K a' w') → wpOp F.P all Q i K a w

/-- The same where another operation, of no known order, may have written. -/
def AltOp (F : Fn) (w0 : Base) (Q : Exit → Act → World → Prop) (all : Array Oper) (alts : List (Nat × Nat × Nat)) (no : List (Nat × Ob)) (i : Nat) (b h : List Nat) (s : St) (d : Option Nat) (v : FV) (ns : List (Nat × Ob)) (fk : List Nat) : Prop :=
  match lk alts i with
  | none => True
  | some (j, x) => match lk no j with
    | some ob => GoodOp3 F w0 Q all i (cut2 b h ⟨s.tm, (x, ob) :: s.ob⟩) d v ns fk
    | none => False

/-- The quiet operations in the order of the list, and what comes then. -/
def DrS3 (F : Fn) (w0 : Base) (Q : Exit → Act → World → Prop) (all : Array Oper) (k : List It) (m : Nat) (tk : List (List Nat)) (alts : List (Nat × Nat × Nat)) (no : List (Nat × Ob)) : List (List Nat) → List (List Nat) → Nat → List Oper → St → Prop
  | _, _, _, [], s => J F.P F.N w0 (cont F.P F.N w0 Q k) [.ops all (all.toList.drop m)] s
  | b :: bs, h :: hs, i, o :: os, s => ∃ v ns fk, (∀ x ∈ fk, o.dst = some (x / 64) ∧ lk s.ob x = none) ∧ nsOk3 o.dst (tkAt tk i) ns = true ∧ GoodOp3 F w0 (cont F.P F.N w0 Q k) all i (cut2 b h s) o.dst v ns fk ∧
      AltOp F w0 (cont F.P F.N w0 Q k) all alts no i b h s o.dst v ns fk ∧ noOk no (tkAt tk i) i ns ∧ DrS3 F w0 Q all k m tk alts no bs hs (i + 1) os ((⟨s.tm, ns ++ s.ob⟩ : St).put o.dst v)
  | _, _, _, _ :: _, _ => False

def drawOk3 (ops : List Oper) (m : Nat) (rows bs tk hs : List (List Nat)) (alts : List (Nat × Nat × Nat)) : Bool :=
  Nat.ble m ops.length && nodupB ((ops.take m).filterMap (·.dst)) &&
  ((List.range ops.length).all fun i => (aftI ops i).all fun j => Nat.blt j i) &&
  ((List.range ops.length).all fun j => Nat.blt j m || (List.range j).all fun i => (row rows j).elem i) &&
  ((List.range ops.length).all fun i => (row rows i).all fun j => (aftI ops i).elem j || (aftI ops i).any fun k => (row rows k).elem j) &&
  (bs == (List.range m).map (badR3 ops m rows)) && (hs == (List.range m).map (hidR m rows tk alts)) &&
  ((List.range m).all fun j => (tkAt tk j).all fun x => (List.range m).all fun i => (!((ops[i]?).bind (·.dst) == some (x / 64)) || (row rows j).elem i)) &&
  ((List.range m).all fun j => (tkAt tk j).all fun x => (List.range j).all fun i => (!(tkAt tk i).elem x || (row rows j).elem i)) &&
  (alts.all fun q => Nat.blt q.1 q.2.1 && Nat.blt q.2.1 m && (tkAt tk q.2.1).elem q.2.2 && !(tkAt tk q.1).elem q.2.2 && ((List.range m).all fun j => (!(tkAt tk j).elem q.2.2 || Nat.ble j q.2.1)))

/-- The state s is s0 with the outcomes of the operations in D. -/
structure Kn3 (m : Nat) (d : Nat → Option Nat) (v : Nat → FV) (ns : Nat → List (Nat × Ob)) (s0 : St) (D : Nat → Prop) (s : St) : Prop where
  t1 : ∀ i < m, D i → ∀ x, d i = some x → lk s.tm x = some (v i)
  t2 : ∀ x, (∀ i < m, D i → d i ≠ some x) → lk s.tm x = lk s0.tm x
  o1 : ∀ x, ∀ i < m, D i → x ∈ (ns i).map (·.1) → (∀ j < m, D j → x ∈ (ns j).map (·.1) → j ≤ i) → lk s.ob x = lk (ns i) x
  o2 : ∀ x, (∀ i < m, D i → x ∉ (ns i).map (·.1)) → lk s.ob x = lk s0.ob x

theorem greatest {p : Nat → Prop} : ∀ (m : Nat), (∃ i, i < m ∧ p i) → ∃ i, i < m ∧ p i ∧ ∀ j < m, p j → j ≤ i
  | 0, ⟨i, h, _⟩ => absurd h (Nat.not_lt_zero _)
  | m + 1, ⟨i, h, hp⟩ => by
    by_cases hm : p m
    · exact ⟨m, Nat.lt_succ_self m, hm, fun j hj _ => Nat.le_of_lt_succ hj⟩
    · have hi : i < m := by
        rcases Nat.lt_or_ge i m with h' | h'
        · exact h'
        · exact absurd (by rwa [show i = m by omega] at hp) hm
      obtain ⟨g, g1, g2, g3⟩ := greatest m ⟨i, hi, hp⟩
      refine ⟨g, Nat.lt_succ_of_lt g1, g2, fun j hj hpj => ?_⟩
      rcases Nat.lt_or_ge j m with h' | h'
      · exact g3 j h' hpj
      · exact absurd (by rwa [show j = m by omega] at hpj) hm

variable {m : Nat} {d : Nat → Option Nat} {v : Nat → FV} {ns : Nat → List (Nat × Ob)} {s0 : St} {D D' : Nat → Prop}

theorem Kn3.step (K : Kn3 m d v ns s0 D s) (hd : ∀ i < m, ∀ j < m, ∀ x, d i = some x → d j = some x → i = j) {i : Nat} (hi : i < m)
    (hord : ∀ j < m, D j → ∀ x, x ∈ (ns j).map (·.1) → x ∈ (ns i).map (·.1) → j ≤ i) (hD' : ∀ j < m, D' j ↔ D j ∨ j = i) :
    Kn3 m d v ns s0 D' ((⟨s.tm, ns i ++ s.ob⟩ : St).put (d i) (v i)) := by
  have hob : ((⟨s.tm, ns i ++ s.ob⟩ : St).put (d i) (v i)).ob = ns i ++ s.ob := by cases d i <;> rfl
  have htm : ∀ x, lk ((⟨s.tm, ns i ++ s.ob⟩ : St).put (d i) (v i)).tm x = if d i = some x then some (v i) else lk s.tm x := by
    intro x
    cases hdi : d i with
    | none => simp [St.put]
    | some y =>
      simp only [St.put, lk_cons, Option.some.injEq]
  have hself : D' i := (hD' i hi).2 (.inr rfl)
  refine ⟨?_, ?_, ?_, ?_⟩
  · intro j hj hDj x hx
    rw [htm]
    by_cases e : j = i
    · subst e; rw [if_pos hx]
    · have : D j := ((hD' j hj).1 hDj).resolve_right e
      rw [if_neg (fun h => e (hd j hj i hi x hx h))]
      exact K.t1 j hj this x hx
  · intro x hx
    rw [htm, if_neg (hx i hi hself)]
    exact K.t2 x fun j hj hDj => hx j hj ((hD' j hj).2 (.inl hDj))
  · intro x j hj hDj hxj hgr
    rw [hob, lk_append]
    by_cases e : j = i
    · subst e
      cases hl : lk (ns j) x with
      | none => exact absurd hxj (lk_none_iff.1 hl)
      | some o => rfl
    · have hDj' : D j := ((hD' j hj).1 hDj).resolve_right e
      have hxi : x ∉ (ns i).map (·.1) := by
        intro hxi
        have h1 := hgr i hi hself hxi
        have h2 := hord j hj hDj' x hxj hxi
        exact e (by omega)
      rw [lk_none_iff.2 hxi]
      exact K.o1 x j hj hDj' hxj fun j' hj' hD hx' => hgr j' hj' ((hD' j' hj').2 (.inl hD)) hx'
  · intro x hx
    rw [hob, lk_append, lk_none_iff.2 (hx i hi hself)]
    exact K.o2 x fun j hj hDj => hx j hj ((hD' j hj).2 (.inl hDj))

theorem Kn3.tm_eq {s' : St} (K : Kn3 m d v ns s0 D s) (K' : Kn3 m d v ns s0 D' s') (h : ∀ i < m, D i ↔ D' i) (x : Nat) : lk s'.tm x = lk s.tm x := by
  by_cases hx : ∃ i, i < m ∧ D i ∧ d i = some x
  · obtain ⟨i, hi, hD, hd⟩ := hx
    rw [K.t1 i hi hD x hd, K'.t1 i hi ((h i hi).1 hD) x hd]
  · rw [K.t2 x fun i hi hD e => hx ⟨i, hi, hD, e⟩, K'.t2 x fun i hi hD e => hx ⟨i, hi, (h i hi).2 hD, e⟩]

/-- Two states of which the same operations have written at x know the same of x. -/
theorem Kn3.ob_at {s' : St} {x : Nat} (K : Kn3 m d v ns s0 D s) (K' : Kn3 m d v ns s0 D' s') (h : ∀ i < m, x ∈ (ns i).map (·.1) → (D i ↔ D' i)) : lk s.ob x = lk s'.ob x := by
  by_cases hx : ∃ i, i < m ∧ (D i ∧ x ∈ (ns i).map (·.1))
  · obtain ⟨g, g1, ⟨g2, g3⟩, g4⟩ := greatest m hx
    rw [K.o1 x g g1 g2 g3 fun j hj hD hk => g4 j hj ⟨hD, hk⟩, K'.o1 x g g1 ((h g g1 g3).1 g2) g3 fun j hj hD hk => g4 j hj ⟨(h j hj hk).2 hD, hk⟩]
  · rw [K.o2 x fun i hi hD e => hx ⟨i, hi, hD, e⟩, K'.o2 x fun i hi hD e => hx ⟨i, hi, (h i hi e).2 hD, e⟩]

theorem DrS3.get {F : Fn} {Q : Exit → Act → World → Prop} {all : Array Oper} {k : List It} {m : Nat} {tk : List (List Nat)} {alts : List (Nat × Nat × Nat)} {no : List (Nat × Ob)} : ∀ {os : List Oper} {bs hs : List (List Nat)} {i : Nat} {s : St}, DrS3 F w0 Q all k m tk alts no bs hs i os s →
    ∃ (d : Nat → Option Nat) (v : Nat → FV) (ns : Nat → List (Nat × Ob)) (fk : Nat → List Nat) (st : Nat → St), st i = s ∧
      (∀ j, i ≤ j → j < i + os.length → (∀ o, os[j - i]? = some o → o.dst = d j) ∧ (∀ x ∈ fk j, d j = some (x / 64) ∧ lk (st j).ob x = none) ∧ nsOk3 (d j) (tkAt tk j) (ns j) = true ∧
        (∀ b h, bs[j - i]? = some b → hs[j - i]? = some h → GoodOp3 F w0 (cont F.P F.N w0 Q k) all j (cut2 b h (st j)) (d j) (v j) (ns j) (fk j) ∧ AltOp F w0 (cont F.P F.N w0 Q k) all alts no j b h (st j) (d j) (v j) (ns j) (fk j)) ∧
        noOk no (tkAt tk j) j (ns j) ∧ st (j + 1) = (⟨(st j).tm, ns j ++ (st j).ob⟩ : St).put (d j) (v j)) ∧
      J F.P F.N w0 (cont F.P F.N w0 Q k) [.ops all (all.toList.drop m)] (st (i + os.length))
  | [], bs, hs, i, s, h => by
    have h : J F.P F.N w0 (cont F.P F.N w0 Q k) [.ops all (all.toList.drop m)] s := by cases bs <;> cases hs <;> simpa only [DrS3] using h
    exact ⟨fun _ => none, fun _ => .und, fun _ => [], fun _ => [], fun _ => s, rfl, fun j h1 h2 => by simp at h2; omega, h⟩
  | o :: os, [], hs, i, s, h => by simp only [DrS3] at h
  | o :: os, _ :: _, [], i, s, h => by simp only [DrS3] at h
  | o :: os, b :: bs, h' :: hs, i, s, h => by
    simp only [DrS3] at h
    obtain ⟨v0, ns0, fk0, h3, h4, h5, ha, hn, h6⟩ := h
    obtain ⟨d, v, ns, fk, st, g1, g2, g3⟩ := DrS3.get h6
    refine ⟨fun j => if j = i then o.dst else d j, fun j => if j = i then v0 else v j, fun j => if j = i then ns0 else ns j, fun j => if j = i then fk0 else fk j, fun j => if j = i then s else st j, by simp, ?_, ?_⟩
    · intro j hj1 hj2
      by_cases e : j = i
      · subst e
        simp only [if_true, Nat.sub_self]
        refine ⟨fun o' ho' => by simp at ho'; subst ho'; rfl, h3, h4, fun b' h'' hb' hh' => by simp at hb' hh'; subst hb'; subst hh'; exact ⟨h5, ha⟩, hn, ?_⟩
        rw [if_neg (by omega)]; exact g1
      · simp only [if_neg e]
        rw [if_neg (by omega)]
        have := g2 j (by omega) (by simp at hj2; omega)
        have hs : j - i = (j - (i + 1)) + 1 := by omega
        rw [hs]
        simpa using this
    · have e : i + (o :: os).length = i + 1 + os.length := by simp; omega
      have hne : ¬ i + (o :: os).length = i := by simp
      show J _ _ _ _ _ (if i + (o :: os).length = i then s else st (i + (o :: os).length))
      rw [if_neg hne, e]; exact g3

theorem getD_flip {listed : Array Bool} {i : Nat} (hi : i < listed.size) (b c : Bool) : listed.getD i b = listed.getD i c := by
  rw [Array.getD_eq_getD_getElem?, Array.getD_eq_getD_getElem?]; simp [hi]

theorem lk_mem2 {α : Type} : ∀ {l : List (Nat × α)} {i : Nat} {q : α}, lk l i = some q → (i, q) ∈ l
  | [], _, _, h => by simp [lk] at h
  | (y, z) :: l, i, q, h => by
    rw [lk_cons] at h
    split at h
    · rename_i e; subst e
      simp only [Option.some.injEq] at h; subst h
      exact List.mem_cons_self ..
    · exact List.mem_cons_of_mem _ (lk_mem2 h)

/-- THE DRAWN ORDER: operations that may write, in the order of the list; then the rest. -/
theorem J.draw3 {F : Fn} {Q : Exit → Act → World → Prop} {id : Nat} {ops : Array Oper} {k : List It} (hmix : F.P.follows .mixedOrders = true) (m : Nat) (rows bs tk hs : List (List Nat)) (alts : List (Nat × Nat × Nat)) (no : List (Nat × Ob))
    (hok : drawOk3 ops.toList m rows bs tk hs alts = true)
    (h : DrS3 F w0 Q ops k m tk alts no bs hs 0 (ops.toList.take m) s) : J F.P F.N w0 Q (.code (.region id ops true) :: k) s := by
  simp only [drawOk3, Bool.and_eq_true, List.all_eq_true, List.mem_range, Bool.or_eq_true] at hok
  obtain ⟨⟨⟨⟨⟨⟨⟨⟨⟨hm, hnd⟩, hpre⟩, hrow⟩, hrows⟩, hbs⟩, hhs⟩, htd⟩, htt⟩, hal⟩ := hok
  have hbs : bs = (List.range m).map (badR3 ops.toList m rows) := by simpa using hbs
  have hhs : hs = (List.range m).map (hidR m rows tk alts) := by simpa using hhs
  have hm : m ≤ ops.size := by simpa using Nat.le_of_ble_eq_true hm
  have hlen : (ops.toList.take m).length = m := by simp; omega
  obtain ⟨d, v, ns, fk, st, g1, g2, g3⟩ := DrS3.get h
  simp only [Nat.zero_add, hlen] at g2 g3
  have hop : ∀ i < m, ∃ o, ops[i]? = some o ∧ o.dst = d i ∧ (ops.toList.take m)[i]? = some o := by
    intro i hi
    have hs : i < ops.size := by omega
    refine ⟨ops[i], by simp [hs], ?_, by simp [hi, hs]⟩
    exact (g2 i (Nat.zero_le _) hi).1 _ (by simp [hi, hs])
  have hdst : ∀ i < m, (ops.toList[i]?).bind (·.dst) = d i := by
    intro i hi
    obtain ⟨o, h1, h2, _⟩ := hop i hi
    simp [h1, h2]
  have hd : ∀ i < m, ∀ j < m, ∀ x, d i = some x → d j = some x → i = j := by
    have hnd' := nodupB_iff hnd
    have key : ∀ i < m, ∀ j < m, i < j → ∀ x, d i = some x → d j = some x → False := by
      intro i hi j hj hij x hx hx'
      have hp := (List.pairwise_filterMap.1 hnd')
      have := List.pairwise_iff_getElem.1 hp i j (by rw [hlen]; exact hi) (by rw [hlen]; exact hj) hij
      obtain ⟨o, h1, h2, h3⟩ := hop i hi
      obtain ⟨o', h1', h2', h3'⟩ := hop j hj
      have e1 := (List.getElem?_eq_some_iff.1 h3).2
      have e2 := (List.getElem?_eq_some_iff.1 h3').2
      rw [e1, e2] at this
      exact this x (h2.trans hx) x (h2'.trans hx') rfl
    intro i hi j hj x hx hx'
    rcases Nat.lt_trichotomy i j with hlt | he | hgt
    · exact (key i hi j hj hlt x hx hx').elim
    · exact he
    · exact (key j hj i hi hgt x hx' hx).elim
  have hn : ∀ i < m, ∀ x ∈ (ns i).map (·.1), d i = some (x / 64) ∨ x ∈ tkAt tk i := by
    intro i hi x hx
    obtain ⟨p, hp, rfl⟩ := List.mem_map.1 hx
    have := (List.all_eq_true.1 (g2 i (Nat.zero_le _) hi).2.2.1) p hp
    simp only [Bool.or_eq_true] at this
    exact this.imp (fun h => by simpa using h) elem_iff.1
  have htd' : ∀ j < m, ∀ x ∈ tkAt tk j, ∀ i < m, d i = some (x / 64) → i ∈ row rows j := by
    intro j hj x hx i hi e
    have := htd j hj x hx i hi
    rw [hdst i hi, e] at this
    simpa using this
  have htt' : ∀ j < m, ∀ x ∈ tkAt tk j, ∀ i < j, x ∈ tkAt tk i → i ∈ row rows j := by
    intro j hj x hx i hi hx'
    have := htt j hj x hx i hi
    rw [elem_iff.2 hx'] at this
    simpa using this
  have hpre' : ∀ i < ops.size, ∀ j ∈ aftI ops.toList i, j < i := by
    intro i hi j hj
    have := hpre i (by simpa using hi) j hj
    simpa [Nat.blt_eq] using this
  have hinv : ∀ {x : Nat} {o : Oper}, ops[x]? = some o → ∀ y, y ∈ aftI ops.toList x ↔ ∃ e ∈ o.after, Region.binds .any e = true ∧ e.on = y := by
    intro x o ho y
    simp only [aftI, Array.getElem?_toList, ho, Option.map_some, Option.getD_some, aft, List.mem_map, List.mem_filter]
    constructor
    · rintro ⟨e, ⟨h1, h2⟩, h3⟩; exact ⟨e, by simpa using h1, h2, h3⟩
    · rintro ⟨e, h1, h2, h3⟩; exact ⟨e, ⟨by simpa using h1, h2⟩, h3⟩
  have haft : ∀ j o, ops[j]? = some o → ∀ e ∈ o.after, Region.binds .any e = true → e.on < j := by
    intro j o ho e he hb
    have hj : j < ops.size := (Array.getElem?_eq_some_iff.1 ho).1
    exact hpre' j hj e.on ((hinv ho _).2 ⟨e, he, hb, rfl⟩)
  have hAn : ∀ i, i < ops.size → ∀ j ∈ row rows i, An ops.toList j i := by
    intro i
    induction i using Nat.strongRecOn with
    | _ i ih =>
      intro hi j hj
      rcases hrows i (by simpa using hi) j hj with hd' | hex
      · exact .d (elem_iff.1 hd')
      · obtain ⟨k, hk, hjk⟩ := List.any_eq_true.1 hex
        have hki := hpre' i hi k hk
        exact .t (ih k hki (by omega) j (elem_iff.1 hjk)) hk
  have hrow' : ∀ j, m ≤ j → j < ops.size → ∀ i < j, An ops.toList i j := by
    intro j hmj hj i hi
    rcases hrow j (by simpa using hj) with hb | hall
    · have : j < m := by simpa [Nat.blt_eq] using hb
      omega
    · exact hAn j hj i (elem_iff.1 (hall i hi))
  have hAnlt : ∀ {x y : Nat}, An ops.toList x y → y < ops.size → x < y := by
    intro x y h
    induction h with
    | @d i' h => intro hy; exact hpre' i' hy x h
    | @t k i' _ h2 ih =>
      intro hy
      have := hpre' i' hy k h2
      have := ih (by omega)
      omega
  have hrowlt : ∀ i < m, ∀ j ∈ row rows i, j < i := fun i hi j hj => hAnlt (hAn i (by omega) j hj) (by omega)
  have hnslt : ∀ i < m, ∀ j < m, ∀ x, x ∈ (ns j).map (·.1) → x ∈ (ns i).map (·.1) → i < j → i ∈ row rows j := by
    intro i hi j hj x hxj hxi hij
    rcases hn j hj x hxj with h1 | h1
    · rcases hn i hi x hxi with h2 | h2
      · exact absurd (hd i hi j hj _ h2 h1) (by omega)
      · have := hrowlt i hi j (htd' i hi x h2 j hj h1); omega
    · rcases hn i hi x hxi with h2 | h2
      · exact htd' j hj x h1 i hi h2
      · exact htt' j hj x h1 i hij h2
  have hst : ∀ j, j ≤ m → Kn3 m d v ns s (fun i => i < j) (st j) := by
    intro j
    induction j with
    | zero =>
      intro _
      rw [g1]
      exact ⟨fun i _ h => absurd h (Nat.not_lt_zero _), fun _ _ => rfl, fun _ i _ h => absurd h (Nat.not_lt_zero _), fun _ _ => rfl⟩
    | succ j ih =>
      intro hj
      rw [(g2 j (Nat.zero_le _) hj).2.2.2.2.2]
      exact (ih (Nat.le_of_succ_le hj)).step hd hj (fun j' _ hlt _ _ _ => Nat.le_of_lt hlt) fun i _ => by omega
  intro a w β R
  simp only [cont]
  refine wp_region_any hmix ?_
  have R' : Rel F.N w0 s a { w with drawn := w.drawn + 1 } β := R.world ⟨⟨rfl, rfl, rfl, Nat.le_refl _, fun _ _ => rfl⟩, Nat.le_succ _⟩
  generalize ({ w with drawn := w.drawn + 1 } : World) = w at R'
  clear R
  have fin : ∀ (fuel : Nat) (listed : Array Bool) (s' : St) (a : Act) (w : World) (β : Nat → Value), listed.size = ops.size → left ops.size listed ≤ fuel → (∀ j, m ≤ j → j < ops.size → listed.getD j true = false) →
      Kn3 m d v ns s (fun i => listed.getD i false = true) s' → Rel F.N w0 s' a w β → (∀ i < m, listed.getD i false = true) → wpAny F.P .any ops (cont F.P F.N w0 Q k) fuel listed a w := by
    intro fuel listed s' a w β hsz hle hun K R hdone
    have hiff : ∀ i < m, (i < m ↔ listed.getD i false = true) := fun i hi => ⟨fun _ => hdone i hi, fun _ => hi⟩
    have R2 := R.ext (s' := st m) (fun t => K.tm_eq (hst m (Nat.le_refl _)) (fun i hi => (hiff i hi).symm) t) (fun t => K.ob_at (hst m (Nat.le_refl _)) (fun i hi _ => (hiff i hi).symm))
    have := g3 a w β R2
    simp only [cont] at this
    exact wpAny_row hrow' haft (ops.size - m) m _ listed a w (by omega) (Nat.le_refl _) hsz hle hdone hun this
  have main : ∀ (fuel : Nat) (listed : Array Bool) (s' : St) (a : Act) (w : World) (β : Nat → Value), listed.size = ops.size → left ops.size listed ≤ fuel →
      (∀ j, m ≤ j → j < ops.size → listed.getD j true = false) → (∀ x, listed.getD x false = true → ∀ y ∈ aftI ops.toList x, listed.getD y false = true) → Kn3 m d v ns s (fun i => listed.getD i false = true) s' → Rel F.N w0 s' a w β → wpAny F.P .any ops (cont F.P F.N w0 Q k) fuel listed a w := by
    intro fuel
    induction fuel with
    | zero =>
      intro listed s' a w β hsz hle hun hcl K R
      refine fin 0 listed s' a w β hsz hle hun K R fun i hi => ?_
      have hs : i < listed.size := by omega
      cases hb : listed.getD i true with
      | true => rw [getD_flip hs false true]; exact hb
      | false => have := left_pos (by omega : i < ops.size) hb; omega
    | succ fuel ih =>
      intro listed s' a w β hsz hle hun hcl K R
      by_cases hdone : ∀ i < m, listed.getD i false = true
      · exact fin _ listed s' a w β hsz hle hun K R hdone
      · have hex : ∃ i, i < m ∧ listed.getD i false = false := by
          refine Classical.byContradiction fun hc => hdone fun i hi => ?_
          cases hb : listed.getD i false with
          | true => rfl
          | false => exact absurd ⟨i, hi, hb⟩ hc
        have hleast : ∃ i, i < m ∧ listed.getD i false = false ∧ ∀ j < i, listed.getD j false = true := by
          obtain ⟨i, hi⟩ := hex
          induction i using Nat.strongRecOn with
          | _ i ihi =>
            by_cases hj : ∃ j, j < i ∧ listed.getD j false = false
            · obtain ⟨j, hj1, hj2⟩ := hj
              exact ihi j hj1 ⟨by omega, hj2⟩
            · refine ⟨i, hi.1, hi.2, fun j hj' => ?_⟩
              cases hb : listed.getD j false with
              | true => rfl
              | false => exact absurd ⟨j, hj', hb⟩ hj
        obtain ⟨i0, hi0, hu0, hb0⟩ := hleast
        refine ⟨fun hnil => ?_, fun i hi => ?_⟩
        · have : i0 ∈ Region.ready .any ops listed := by
            obtain ⟨o, ho, _⟩ := hop i0 hi0
            exact ready_iff.2 ⟨by omega, by rw [getD_flip (by omega) true false]; exact hu0, o, ho, fun e he hb => hb0 _ (haft i0 o ho e he hb)⟩
          rw [hnil] at this; cases this
        · obtain ⟨r1, r2, o, ho, r3⟩ := ready_iff.1 hi
          have him : i < m := by
            refine Nat.lt_of_not_le fun hge => ?_
            have := (hrow' i hge r1 i0 (by omega)).listed (L := fun x => listed.getD x false = true) hcl (fun y hy => by
              obtain ⟨e, he, hb, rfl⟩ := (hinv ho y).1 hy
              exact r3 e he hb)
            rw [hu0] at this; cases this
          have g := g2 i (Nat.zero_le _) him
          have hbsi : bs[i - 0]? = some (badR3 ops.toList m rows i) := by
            rw [hbs, Nat.sub_zero, List.getElem?_map, List.getElem?_range him]; rfl
          have hhsi : hs[i - 0]? = some (hidR m rows tk alts i) := by
            rw [hhs, Nat.sub_zero, List.getElem?_map, List.getElem?_range him]; rfl
          obtain ⟨good, alt⟩ := g.2.2.2.1 _ _ hbsi hhsi
          have Ki := hst i (Nat.le_of_lt him)
          have hbad : ∀ j < m, ∀ x, d j = some x → x ∉ badR3 ops.toList m rows i → j ∈ row rows i := by
            intro j hj x hx hnb
            refine Classical.byContradiction fun hc => hnb ?_
            simp only [badR3, List.mem_filterMap, List.mem_filter, List.mem_range]
            refine ⟨j, ⟨hj, ?_⟩, (hdst j hj).trans hx⟩
            have : ¬ (row rows i).elem j = true := fun h => hc (elem_iff.1 h)
            simpa using this
          have hhid : ∀ j < m, j ≠ i → ∀ x ∈ tkAt tk j, x ∉ hidR m rows tk alts i → j ∈ row rows i ∨ i ∈ row rows j ∨ lk alts i = some (j, x) := by
            intro j hj hne x hx hnh
            refine Classical.byContradiction fun hc => hnh ?_
            simp only [not_or] at hc
            simp only [hidR, List.mem_flatMap, List.mem_filter, List.mem_range]
            refine ⟨j, ⟨hj, ?_⟩, hx, ?_⟩
            · have h1 : ¬ (row rows i).elem j = true := fun h => hc.1 (elem_iff.1 h)
              have h3 : ¬ (row rows j).elem i = true := fun h => hc.2.1 (elem_iff.1 h)
              have h2 : Nat.beq j i = false := by
                cases hb : Nat.beq j i with
                | false => rfl
                | true => exact absurd (nat_beq hb) hne
              rw [h2]
              simpa using And.intro h1 h3
            · simpa using hc.2.2
          have hdir : ∀ y ∈ aftI ops.toList i, listed.getD y false = true := fun y hy => by
            obtain ⟨e, he, hb, rfl⟩ := (hinv ho y).1 hy
            exact r3 e he hb
          have haftD : ∀ j, j ∈ row rows i → j < i ∧ listed.getD j false = true := by
            intro j hj
            have hA := hAn i r1 j hj
            exact ⟨hAnlt hA r1, hA.listed (L := fun x => listed.getD x false = true) hcl hdir⟩
          have hul : ¬ listed.getD i false = true := by rw [getD_flip (by omega) false true, r2]; simp
          -- what is done before i when something before j is
          have hbef : ∀ j < m, i ∈ row rows j → ¬ listed.getD j false = true := by
            intro j hj hij hl
            exact hul ((hAn j (by omega) i hij).listed (L := fun x => listed.getD x false = true) hcl (fun y hy => hcl j hl y hy))
          have hLt : Le (lk (st i).tm) (lk (st i).tm) := fun _ _ h => h
          have htmLe : ∀ x f, ¬ x ∈ badR3 ops.toList m rows i → lk (st i).tm x = some f → lk s'.tm x = some f := by
            intro x f hnb hx
            by_cases hxi : ∃ j, j < m ∧ d j = some x
            · obtain ⟨j, hj, hdj⟩ := hxi
              obtain ⟨hji, hjl⟩ := haftD j (hbad j hj x hdj hnb)
              rw [Ki.t1 j hj hji x hdj] at hx
              rw [K.t1 j hj hjl x hdj]; exact hx
            · have hno : ∀ j < m, d j ≠ some x := fun j hj e => hxi ⟨j, hj, e⟩
              rw [Ki.t2 x fun j hj _ => hno j hj] at hx
              rw [K.t2 x fun j hj _ => hno j hj]; exact hx
          have hobEq : ∀ x, ¬ x / 64 ∈ badR3 ops.toList m rows i → ¬ x ∈ hidR m rows tk alts i → (∀ j, lk alts i = some (j, x) → ¬ listed.getD j false = true) → (∀ j, lk alts i = some (j, x) → i < j) → lk (st i).ob x = lk s'.ob x := by
            intro x hnb hnh hal1 hal2
            refine Ki.ob_at K fun j hj hk => ?_
            have hcase : j = i ∨ j ∈ row rows i ∨ i ∈ row rows j ∨ lk alts i = some (j, x) := by
              by_cases e : j = i
              · exact .inl e
              · rcases hn j hj x hk with h1 | h1
                · exact .inr (.inl (hbad j hj _ h1 hnb))
                · exact .inr (hhid j hj e x h1 hnh)
            rcases hcase with rfl | h1 | h1 | h1
            · exact ⟨fun h => absurd h (Nat.lt_irrefl _), fun h => absurd h hul⟩
            · obtain ⟨q1, q2⟩ := haftD j h1
              exact ⟨fun _ => q2, fun _ => q1⟩
            · have := hrowlt j hj i h1
              exact ⟨fun h => absurd h (by omega), fun h => absurd h (hbef j hj h1)⟩
            · have q1 := hal1 j h1
              have q2 := hal2 j h1
              exact ⟨fun h => absurd h (by omega), fun h => absurd h q1⟩
          have hfr : ∀ x ∈ fk i, lk s'.ob x = none := by
            intro x hx
            obtain ⟨hxd, hxn⟩ := g.2.1 x hx
            rw [← hxn]
            refine (Ki.ob_at K fun j hj hk => ?_).symm
            rcases hn j hj x hk with h1 | h1
            · have e := hd j hj i him _ h1 hxd
              subst e
              exact ⟨fun h => absurd h (Nat.lt_irrefl _), fun h => absurd h hul⟩
            · have hij := htd' j hj x h1 i him hxd
              have := hrowlt j hj i hij
              exact ⟨fun h => absurd h (by omega), fun h => absurd h (hbef j hj hij)⟩
          have hnext : ∀ a' w' β', Rel F.N w0 ((⟨s'.tm, ns i ++ s'.ob⟩ : St).put (d i) (v i)) a' w' β' → wpAny F.P .any ops (cont F.P F.N w0 Q k) fuel (listed.setIfInBounds i true) a' w' := by
            intro a' w' β' R'
            have hsi : i < listed.size := by omega
            refine ih _ _ a' w' β' (by simp [hsz]) (by have := left_set hsz r1 r2; omega) (fun j hj hjs => ?_) (fun x hx y hy => ?_) (K.step hd him (fun j hj hl x hxj hxi => ?_) fun j hj => ?_) R'
            · rw [getD_set hsi, if_neg (by omega)]; exact hun j hj hjs
            · rw [getD_set hsi] at hx ⊢
              split
              · rfl
              · by_cases e : i = x
                · subst e; exact hdir y hy
                · rw [if_neg e] at hx; exact hcl x hx y hy
            · refine Nat.le_of_not_lt fun hlt => ?_
              exact hbef j hj (hnslt i him j hj x hxj hxi hlt) hl
            · rw [getD_set hsi]
              by_cases e : i = j
              · simp [e]
              · simp [e, Ne.symm e]
          have htmcut : ∀ (ob : List (Nat × Ob)), Le (lk (cut2 (badR3 ops.toList m rows i) (hidR m rows tk alts i) ⟨(st i).tm, ob⟩).tm) (lk s'.tm) := by
            intro ob x f hx
            simp only [cut2] at hx
            rw [lk_filter (fun y => !(badR3 ops.toList m rows i).elem y)] at hx
            split at hx
            · rename_i hnb
              exact htmLe x f (fun h => by rw [elem_iff.2 h] at hnb; simp at hnb) hx
            · cases hx
          have hobcut : ∀ (ob : List (Nat × Ob)), (∀ x f, ¬ x / 64 ∈ badR3 ops.toList m rows i → ¬ x ∈ hidR m rows tk alts i → lk ob x = some f → lk s'.ob x = some f) →
              Le (lk (cut2 (badR3 ops.toList m rows i) (hidR m rows tk alts i) ⟨(st i).tm, ob⟩).ob) (lk s'.ob) := by
            intro ob hq x f hx
            simp only [cut2] at hx
            rw [lk_filter (fun y => !(badR3 ops.toList m rows i).elem (y / 64) && !(hidR m rows tk alts i).elem y)] at hx
            split at hx
            · rename_i hnb
              simp only [Bool.and_eq_true, Bool.not_eq_true'] at hnb
              exact hq x f (fun h => by rw [elem_iff.2 h] at hnb; simp at hnb) (fun h => by rw [elem_iff.2 h] at hnb; simp at hnb) hx
            · cases hx
          cases hlka : lk alts i with
          | none =>
            refine good s' a w β _ R (htmcut _) (hobcut _ fun x f h1 h2 hx => ?_) hfr hnext
            rw [← hobEq x h1 h2 (fun j h => by rw [hlka] at h; cases h) (fun j h => by rw [hlka] at h; cases h)]; exact hx
          | some q =>
            obtain ⟨j0, x0⟩ := q
            unfold AltOp at alt
            rw [hlka] at alt
            simp only at alt
            have hmem : (i, j0, x0) ∈ alts := lk_mem2 hlka
            have hq := hal _ hmem
            obtain ⟨⟨⟨⟨hq1, hq2⟩, hq3⟩, hq4⟩, hq5⟩ := hq
            have hq1 : i < j0 := by simpa [Nat.blt_eq] using hq1
            have hq2 : j0 < m := by simpa [Nat.blt_eq] using hq2
            have hq3 : x0 ∈ tkAt tk j0 := elem_iff.1 hq3
            have hq5 : ∀ j < m, x0 ∈ tkAt tk j → j ≤ j0 := by
              intro j hj hx
              have := hq5 j hj
              rw [elem_iff.2 hx] at this
              simpa [Nat.ble_eq] using this
            have hgt : ∀ x j, lk alts i = some (j, x) → i < j := by
              intro x j h
              rw [hlka] at h
              simp only [Option.some.injEq, Prod.mk.injEq] at h
              omega
            cases hno : lk no j0 with
            | none => rw [hno] at alt; exact alt.elim
            | some ob =>
              rw [hno] at alt
              by_cases hl0 : listed.getD j0 false = true
              · refine alt s' a w β _ R (htmcut _) (hobcut _ fun x f h1 h2 hx => ?_) hfr hnext
                rw [lk_cons] at hx
                split at hx
                · rename_i e; subst e
                  simp only [Option.some.injEq] at hx; subst hx
                  have hw := (g2 j0 (Nat.zero_le _) hq2).2.2.2.2.1
                  unfold noOk at hw
                  rw [hno] at hw
                  have hw := hw x0 hq3
                  rw [K.o1 x0 j0 hq2 hl0 ?_ ?_, hw]
                  · refine Classical.byContradiction fun hc => ?_
                    rw [lk_none_iff.2 hc] at hw; cases hw
                  · intro j hj hjl hk
                    rcases hn j hj x0 hk with h3 | h3
                    · exact Nat.le_of_lt (hrowlt j0 hq2 j (htd' j0 hq2 x0 hq3 j hj h3))
                    · exact hq5 j hj h3
                · rename_i e
                  rw [← hobEq x h1 h2 (fun j h => by rw [hlka] at h; simp only [Option.some.injEq, Prod.mk.injEq] at h; exact absurd h.2 e) (hgt x)]; exact hx
              · refine good s' a w β _ R (htmcut _) (hobcut _ fun x f h1 h2 hx => ?_) hfr hnext
                rw [← hobEq x h1 h2 (fun j h => by rw [hlka] at h; simp only [Option.some.injEq, Prod.mk.injEq] at h; rw [← h.1]; exact hl0) (hgt x)]; exact hx
  have hf0 : ∀ i, (Array.replicate ops.size false).getD i false = false := by
    intro i
    rw [Array.getD_eq_getD_getElem?]
    by_cases hi : i < ops.size <;> simp [hi]
  refine main ops.size _ s a w β (by simp) ?_ (fun j _ hj => by simp [hj]) (fun x hx => by rw [hf0] at hx; cases hx) ?_ R'
  · unfold left
    refine Nat.le_trans List.countP_le_length (by simp)
  · exact ⟨fun i _ h => absurd ((hf0 i).symm.trans h) (by simp), fun _ _ => rfl, fun _ i _ h => absurd ((hf0 i).symm.trans h) (by simp), fun _ _ => rfl⟩

end Go.Sm

namespace Go.Sm
open Go.RowKit

variable {w0 : Base} {s : St} {a : Act} {w : World} {β : Nat → Value}

theorem lk_cut2_tm (b h : List Nat) (s : St) (x : Nat) : lk (cut2 b h s).tm x = if (!b.elem x) = true then lk s.tm x else none := lk_filter (fun y => !b.elem y) s.tm x
theorem lk_cut2_ob (b h : List Nat) (s : St) (x : Nat) : lk (cut2 b h s).ob x = if (!b.elem (x / 64) && !h.elem x) = true then lk s.ob x else none := lk_filter (fun y => !b.elem (y / 64) && !h.elem y) s.ob x

/-- What may be read of the objects. -/
def obB2 (b h : List Nat) (s : St) (k : Nat) : Option Ob := match b.elem (k / 64) with
  | true => none
  | false => match h.elem k with
    | true => none
    | false => lk s.ob k
theorem tmB2_eq (b h : List Nat) (s : St) : lk (cut2 b h s).tm = tmB b s := by
  funext t
  rw [lk_cut2_tm, tmB]
  cases b.elem t <;> rfl
theorem obB2_eq (b h : List Nat) (s : St) : lk (cut2 b h s).ob = obB2 b h s := by
  funext t
  rw [lk_cut2_ob, obB2]
  cases b.elem (t / 64) <;> cases h.elem t <;> rfl
theorem opdB2_eq (b h : List Nat) (s : St) : (cut2 b h s).opd = opdB b s := by
  funext x
  cases x with
  | tmp t => show lk (cut2 b h s).tm t = tmB b s t; rw [tmB2_eq]
  | _ => rfl

theorem DrS3.ext {F : Fn} {Q : Exit → Act → World → Prop} {all : Array Oper} {k : List It} {m : Nat} {tk : List (List Nat)} {alts : List (Nat × Nat × Nat)} {no : List (Nat × Ob)} : ∀ {os : List Oper} {bs hs : List (List Nat)} {i : Nat} {s s' : St}, (∀ t, lk s'.tm t = lk s.tm t) → s'.ob = s.ob →
    DrS3 F w0 Q all k m tk alts no bs hs i os s → DrS3 F w0 Q all k m tk alts no bs hs i os s'
  | [], bs, hs, i, s, s', ht, ho, h => by
    have h : J F.P F.N w0 (cont F.P F.N w0 Q k) [.ops all (all.toList.drop m)] s := by cases bs <;> cases hs <;> simpa only [DrS3] using h
    have h' : J F.P F.N w0 (cont F.P F.N w0 Q k) [.ops all (all.toList.drop m)] s' := fun a w β R => h a w β (R.ext (fun t => (ht t).symm) fun k => by rw [ho])
    cases bs <;> cases hs <;> simpa only [DrS3] using h'
  | o :: os, [], hs, i, s, s', ht, ho, h => by simp only [DrS3] at h
  | o :: os, _ :: _, [], i, s, s', ht, ho, h => by simp only [DrS3] at h
  | o :: os, b :: bs, h0 :: hs, i, s, s', ht, ho, h => by
    simp only [DrS3] at h ⊢
    obtain ⟨v, ns, fk, h3, h4, h5, ha, hn, h6⟩ := h
    have good : ∀ (ob : List (Nat × Ob)), GoodOp3 F w0 (cont F.P F.N w0 Q k) all i (cut2 b h0 ⟨s.tm, ob⟩) o.dst v ns fk → GoodOp3 F w0 (cont F.P F.N w0 Q k) all i (cut2 b h0 ⟨s'.tm, ob⟩) o.dst v ns fk := by
      intro ob hg s2 a w β K R l1 l2 fr nx
      refine hg s2 a w β K R (fun x f hx => l1 x f ?_) l2 fr nx
      rw [lk_cut2_tm] at hx ⊢; rw [ht]; exact hx
    refine ⟨v, ns, fk, fun x hx => ⟨(h3 x hx).1, by rw [ho]; exact (h3 x hx).2⟩, h4, ?_, ?_, hn, DrS3.ext ?_ ?_ h6⟩
    · have := good s.ob h5
      rw [← ho] at this; exact this
    · unfold AltOp at ha ⊢
      split at ha
      · trivial
      · rename_i j x hl
        split at ha
        · rename_i ob hno
          rw [ho]; exact good _ ha
        · exact ha.elim
    · intro t
      cases o.dst with
      | none => exact ht t
      | some d => simp only [St.put, lk_cons, ht]
    · rw [ho]; cases o.dst <;> rfl

/-- A call in the quiet part. -/
def DrC3 (F : Fn) (w0 : Base) (Q : Exit → Act → World → Prop) (all : Array Oper) (k : List It) (m : Nat) (tk : List (List Nat)) (alts : List (Nat × Nat × Nat)) (no : List (Nat × Ob)) (bs hs : List (List Nat)) (i : Nat) (os : List Oper) (s : St) (b h : List Nat) (d f : Nat) (fs : List FV) : Prop :=
  ∃ args q, argsR (obB2 b h s) fs = some args ∧ CallOK F.P f args q ∧ freshOs s.ob (impOs (d * 64) (cellsR q)) = true ∧ nsOk d (impOs (d * 64) (cellsR q)) = true ∧
    DrS3 F w0 Q all k m tk alts no bs hs i os ⟨(d, impF (d * 64) q) :: s.tm, impOs (d * 64) (cellsR q) ++ s.ob⟩

/-- A literal that takes arrays of one's own in, in the quiet part. -/
def DrB3 (F : Fn) (w0 : Base) (Q : Exit → Act → World → Prop) (all : Array Oper) (k : List It) (m : Nat) (tk : List (List Nat)) (alts : List (Nat × Nat × Nat)) (no : List (Nat × Ob)) (bs hs : List (List Nat)) (i : Nat) (os : List Oper) (s : St) (b h tki : List Nat) (d t len : Nat) (qs : List (Nat × List C)) : Prop :=
  ∃ (v : FV) (ns : List (Nat × Ob)) (fk : List Nat), (∀ x ∈ fk, some d = some (x / 64) ∧ lk s.ob x = none) ∧ nsOk3 (some d) tki ns = true ∧
    (∀ s2 a w β, Rel F.N w0 s2 a w β → Le (lk (cut2 b h s).tm) (lk s2.tm) → Le (lk (cut2 b h s).ob) (lk s2.ob) → (∀ x ∈ fk, lk s2.ob x = none) → ∀ vs, PartsRel (s2.en w w0.arg β) qs vs →
      ∃ val w' β', (Instr.buildSlice t len vs.toArray).run F.P w = .ok val w' ∧ Rel F.N w0 ((⟨s2.tm, ns ++ s2.ob⟩ : St).put (some d) v) (a.put (some d) val) w' β') ∧
    DrS3 F w0 Q all k m tk alts no bs hs i os ((⟨s.tm, ns ++ s.ob⟩ : St).put (some d) v)

def none' {α : Type} : Option α → Bool
  | none => true
  | some _ => false
def inTk (tk : List Nat) (ns : List (Nat × Ob)) : Bool := ns.all fun p => tk.elem p.1

/-- A handle with a name that is loaded may be told to be the object (a touched key n * 1000000 + K, n from 1). -/
def retK : List Nat → Option Nat
  | [k] => match Nat.ble 1000000 k with
    | true => some (k % 1000000)
    | false => none
  | _ => none
theorem Rel.reob {N d K : Nat} {c : Value} {tm : List (Nat × FV)} {ob : List (Nat × Ob)} (hf : w0.fix K = some c) (R : Rel N w0 ⟨(d, .c (.d (.v c))) :: tm, ob⟩ a w β) : Rel N w0 ⟨(d, .c (.ob K)) :: tm, ob⟩ a w β := by
  refine ⟨R.sz, R.df, ?_, R.ob, R.nd, R.dj, R.ge, R.low, R.fx⟩
  intro t f h
  rw [lk_cons] at h
  split at h
  · rename_i e; subst e
    simp only [Option.some.injEq] at h; subst h
    have hv := R.tm d _ (lk_cons_self _ _ _)
    simp only [FVRel, CRel, Rd] at hv ⊢
    obtain ⟨h1, h2⟩ := R.fx K c hf
    exact ⟨h1, hv.2.2.1.trans h2.symm, hv.2.1⟩
  · rename_i e
    exact R.tm t f (by rw [lk_cons, if_neg e]; exact h)

def dr3 (F : Fn) (w0 : Base) (Q : Exit → Act → World → Prop) (all : Array Oper) (k : List It) (m : Nat) (tk : List (List Nat)) (alts : List (Nat × Nat × Nat)) (no : List (Nat × Ob)) : List (List Nat) → List (List Nat) → Nat → List Oper → St → Prop
  | _, _, _, [], s => J F.P F.N w0 Q (.ops all (all.toList.drop m) :: k) s
  | b :: bs, h :: hs, i, o :: os, s =>
    let go (s : St) : Prop := match o.dst with
      | some d => Nat.blt d F.N = true ∧ match ev F.T F.E (opdB b s) (obB2 b h s) (d * 64) o.type o.op with
        | .q p v ns => p ∧ freshOs s.ob ns = true ∧ nsOk d ns = true ∧
            (match lk alts i with
              | none => True
              | some (j, x) => match lk no j with
                | some ob => (match ev F.T F.E (opdB b s) (obB2 b h ⟨s.tm, (x, ob) :: s.ob⟩) (d * 64) o.type o.op with
                  | .q p' v' ns' => p' ∧ v' = v ∧ ns' = ns
                  | _ => False)
                | none => False) ∧ noOk no (tkAt tk i) i ns ∧
            dr3 F w0 Q all k m tk alts no bs hs (i + 1) os ⟨(d, v) :: s.tm, ns ++ s.ob⟩
        | .el xs j => none' (lk alts i) = true ∧ none' (lk no i) = true ∧ (0 ≤ j ∧ j < xs.length) ∧ Later (∀ e, xs[j.toNat]? = some e → dr3 F w0 Q all k m tk alts no bs hs (i + 1) os ⟨(d, .c (.rd e)) :: s.tm, s.ob⟩)
        | .ld xs j j' size agg => none' (lk alts i) = true ∧ none' (lk no i) = true ∧ j < xs.length ∧ match retK (tkAt tk i) with
            | none => Later (∀ e, xs[j]? = some e → dr3 F w0 Q all k m tk alts no bs hs (i + 1) os ⟨(d, ldV e j' size agg) :: s.tm, s.ob⟩)
            | some K => Later (∀ e, xs[j]? = some e → ∃ c, ldV e j' size agg = .c (.d (.v c)) ∧ w0.fix K = some c ∧ dr3 F w0 Q all k m tk alts no bs hs (i + 1) os ⟨(d, .c (.ob K)) :: s.tm, s.ob⟩)
        | .call f fs => none' (lk alts i) = true ∧ none' (lk no i) = true ∧ DrC3 F w0 Q all k m tk alts no bs hs (i + 1) os s b h d f fs
        | .bs t len qs => none' (lk alts i) = true ∧ none' (lk no i) = true ∧ DrB3 F w0 Q all k m tk alts no bs hs (i + 1) os s b h (tkAt tk i) d t len qs
        | .ef p v ns => none' (lk alts i) = true ∧ p ∧ (lk s.ob (d * 64)).isNone = true ∧ nsOk3 (some d) (tkAt tk i) ns = true ∧ noOk no (tkAt tk i) i ns ∧
            dr3 F w0 Q all k m tk alts no bs hs (i + 1) os ⟨(d, v) :: s.tm, ns ++ s.ob⟩
        | _ => False
      | none => match ev F.T F.E (opdB b s) (obB2 b h s) 0 o.type o.op with
        | .ef p .und ns => none' (lk alts i) = true ∧ p ∧ inTk (tkAt tk i) ns = true ∧ noOk no (tkAt tk i) i ns ∧ dr3 F w0 Q all k m tk alts no bs hs (i + 1) os ⟨s.tm, ns ++ s.ob⟩
        | _ => False
    match o.guard with
    | none => go s
    | some (j, want) => match (all[j]?).bind (·.dst), o.dst with
      | some d, some d' => Nat.blt d' F.N = true ∧ none' (lk alts i) = true ∧ none' (lk no i) = true ∧ match tmB b s d with
        | some (.c (.d (.v (.bool x)))) => br x want (go ⟨(d, .c (.d (.v (.bool want)))) :: s.tm, s.ob⟩)
            (dr3 F w0 Q all k m tk alts no bs hs (i + 1) os ⟨(d', .und) :: (d, .c (.d (.v (.bool (!want))))) :: s.tm, s.ob⟩)
        | some .und => dr3 F w0 Q all k m tk alts no bs hs (i + 1) os ⟨(d', .und) :: s.tm, s.ob⟩
        | _ => False
      | _, _ => False
  | _, _, _, _ :: _, _ => False

/-- One operation that writes. -/
theorem core_ef {F : Fn} (hF : FnOk F) {o : Oper} {k : Nat} {t : St} {p : Prop} {v : FV} {ns : List (Nat × Ob)} (he : ev F.T F.E t.opd (lk t.ob) k o.type o.op = .ef p v ns) (hp : p)
    (hd : ∀ d, o.dst = some d → d < F.N) (hv : o.dst = none → v = .und) {K : Act → World → Prop} {Q : Exit → Act → World → Prop} (R : Rel F.N w0 s a w β) (h1 : Le (lk t.tm) (lk s.tm)) (h2 : Le (lk t.ob) (lk s.ob))
    (hfr : ∀ d, o.dst = some d → lk s.ob k = none) (hK : ∀ a' w' β', Rel F.N w0 ((⟨s.tm, ns ++ s.ob⟩ : St).put o.dst v) a' w' β' → K a' w') : o.wp F.P a w K Q := by
  have he' : ev F.T F.E s.opd (lk s.ob) k o.type o.op = .ef p v ns := ev_mono (opd_mono h1) h2 he (by simp)
  unfold Oper.wp
  rcases ev_ef hF.T hF.E R he' hp with ⟨w', β', r1, rfl, r2⟩ | ⟨hne, hval⟩
  · rw [r1, Oper.upon_skip]
    refine hK _ _ β' ?_
    cases hod : o.dst with
    | none => simpa [St.put, Act.put] using r2
    | some d => exact r2.setTm (hd d hod) (by simp only [FVRel])
  · cases hod : o.dst with
    | none => exact absurd (hv hod) hne
    | some d =>
      obtain ⟨val, w', β', r1, r2, r3⟩ := hval (hfr d hod)
      rw [r1, Oper.upon_value, hod]
      refine hK _ _ β' ?_
      rw [hod]
      exact r2.setTm (hd d hod) r3

theorem nsOk3_of {d : Nat} {tk : List Nat} {ns : List (Nat × Ob)} (h : nsOk d ns = true) : nsOk3 (some d) tk ns = true := by
  unfold nsOk3
  rw [List.all_eq_true]
  intro p hp
  have := nat_beq ((List.all_eq_true.1 h) p hp)
  simp [this]
theorem nsOk3_tk {d : Option Nat} {tk : List Nat} {ns : List (Nat × Ob)} (h : inTk tk ns = true) : nsOk3 d tk ns = true := by
  unfold nsOk3
  rw [List.all_eq_true]
  intro p hp
  have := (List.all_eq_true.1 h) p hp
  rw [this]; simp
theorem noOk_none {no : List (Nat × Ob)} {tk : List Nat} {i : Nat} {ns : List (Nat × Ob)} (h : none' (lk no i) = true) : noOk no tk i ns := by
  unfold noOk
  cases hl : lk no i with
  | none => trivial
  | some x => rw [hl] at h; cases h
theorem altOp_none {F : Fn} {Q : Exit → Act → World → Prop} {all : Array Oper} {alts : List (Nat × Nat × Nat)} {no : List (Nat × Ob)} {i : Nat} {b h : List Nat} {d : Option Nat} {v : FV} {ns : List (Nat × Ob)} {fk : List Nat} (hn : none' (lk alts i) = true) :
    AltOp F w0 Q all alts no i b h s d v ns fk := by
  unfold AltOp
  cases hl : lk alts i with
  | none => trivial
  | some x => rw [hl] at hn; cases hn
theorem freshOs_fk {ob : List (Nat × Ob)} {ns : List (Nat × Ob)} {d : Nat} (hf : freshOs ob ns = true) (hn : nsOk d ns = true) : ∀ x ∈ ns.map (·.1), some d = some (x / 64) ∧ lk ob x = none := fun x hx => ⟨by rw [nsOk_key hn hx], (freshOs_iff.1 hf).1 x hx⟩
theorem freshOs_of {ob ob' : List (Nat × Ob)} {ns : List (Nat × Ob)} (hf : freshOs ob ns = true) (h : ∀ x ∈ ns.map (·.1), lk ob' x = none) : freshOs ob' ns = true := freshOs_iff.2 ⟨h, (freshOs_iff.1 hf).2⟩

theorem dr3_sound {F : Fn} (hF : FnOk F) {Q : Exit → Act → World → Prop} {all : Array Oper} {k : List It} {m : Nat} {tk : List (List Nat)} {alts : List (Nat × Nat × Nat)} {no : List (Nat × Ob)} : ∀ {os : List Oper} {bs hs : List (List Nat)} {i : Nat} {s : St}, (∀ j o, os[j]? = some o → all[i + j]? = some o) →
    dr3 F w0 Q all k m tk alts no bs hs i os s → DrS3 F w0 Q all k m tk alts no bs hs i os s
  | [], bs, hs, i, s, _, h => by
    have h : J F.P F.N w0 Q (.ops all (all.toList.drop m) :: k) s := by cases bs <;> cases hs <;> simpa only [dr3] using h
    have h' : J F.P F.N w0 (cont F.P F.N w0 Q k) [.ops all (all.toList.drop m)] s := by
      intro a w β R
      have := h a w β R
      simp only [cont] at this ⊢
      exact this
    cases bs <;> cases hs <;> simpa only [DrS3] using h'
  | o :: os, [], hs, i, s, _, h => by simp only [dr3] at h
  | o :: os, _ :: _, [], i, s, _, h => by simp only [dr3] at h
  | o :: os, b :: bs, hh :: hs, i, s, hall, h => by
    have hi : all[i]? = some o := by simpa using hall 0 o rfl
    have hall' : ∀ j o, os[j]? = some o → all[i + 1 + j]? = some o := fun j o' h => by
      rw [show i + 1 + j = i + (j + 1) by omega]; exact hall (j + 1) o' (by simpa using h)
    -- one operation that is carried out, in the state s'
    have go : ∀ {s' : St}, (∀ {t : St} {v : FV} {ns : List (Nat × Ob)} {fk : List Nat}, t.tm = s'.tm → (∀ s a w β (K : Act → World → Prop), Rel F.N w0 s a w β → Le (lk (cut2 b hh t).tm) (lk s.tm) → Le (lk (cut2 b hh t).ob) (lk s.ob) → (∀ x ∈ fk, lk s.ob x = none) →
          (∀ a' w' β', Rel F.N w0 ((⟨s.tm, ns ++ s.ob⟩ : St).put o.dst v) a' w' β' → K a' w') → o.wp F.P a w K (cont F.P F.N w0 Q k)) → GoodOp3 F w0 (cont F.P F.N w0 Q k) all i (cut2 b hh t) o.dst v ns fk) →
        (match o.dst with
      | some d => Nat.blt d F.N = true ∧ match ev F.T F.E (cut2 b hh s').opd (lk (cut2 b hh s').ob) (d * 64) o.type o.op with
        | .q p v ns => p ∧ freshOs s'.ob ns = true ∧ nsOk d ns = true ∧
            (match lk alts i with
              | none => True
              | some (j, x) => match lk no j with
                | some ob => (match ev F.T F.E (cut2 b hh s').opd (lk (cut2 b hh ⟨s'.tm, (x, ob) :: s'.ob⟩).ob) (d * 64) o.type o.op with
                  | .q p' v' ns' => p' ∧ v' = v ∧ ns' = ns
                  | _ => False)
                | none => False) ∧ noOk no (tkAt tk i) i ns ∧
            dr3 F w0 Q all k m tk alts no bs hs (i + 1) os ⟨(d, v) :: s'.tm, ns ++ s'.ob⟩
        | .el xs j => none' (lk alts i) = true ∧ none' (lk no i) = true ∧ (0 ≤ j ∧ j < xs.length) ∧ (∀ e, xs[j.toNat]? = some e → dr3 F w0 Q all k m tk alts no bs hs (i + 1) os ⟨(d, .c (.rd e)) :: s'.tm, s'.ob⟩)
        | .ld xs j j' size agg => none' (lk alts i) = true ∧ none' (lk no i) = true ∧ j < xs.length ∧ match retK (tkAt tk i) with
            | none => (∀ e, xs[j]? = some e → dr3 F w0 Q all k m tk alts no bs hs (i + 1) os ⟨(d, ldV e j' size agg) :: s'.tm, s'.ob⟩)
            | some K => (∀ e, xs[j]? = some e → ∃ c, ldV e j' size agg = .c (.d (.v c)) ∧ w0.fix K = some c ∧ dr3 F w0 Q all k m tk alts no bs hs (i + 1) os ⟨(d, .c (.ob K)) :: s'.tm, s'.ob⟩)
        | .call f fs => none' (lk alts i) = true ∧ none' (lk no i) = true ∧ DrC3 F w0 Q all k m tk alts no bs hs (i + 1) os s' b hh d f fs
        | .bs t len qs => none' (lk alts i) = true ∧ none' (lk no i) = true ∧ DrB3 F w0 Q all k m tk alts no bs hs (i + 1) os s' b hh (tkAt tk i) d t len qs
        | .ef p v ns => none' (lk alts i) = true ∧ p ∧ (lk s'.ob (d * 64)).isNone = true ∧ nsOk3 (some d) (tkAt tk i) ns = true ∧ noOk no (tkAt tk i) i ns ∧
            dr3 F w0 Q all k m tk alts no bs hs (i + 1) os ⟨(d, v) :: s'.tm, ns ++ s'.ob⟩
        | _ => False
      | none => match ev F.T F.E (cut2 b hh s').opd (lk (cut2 b hh s').ob) 0 o.type o.op with
        | .ef p .und ns => none' (lk alts i) = true ∧ p ∧ inTk (tkAt tk i) ns = true ∧ noOk no (tkAt tk i) i ns ∧ dr3 F w0 Q all k m tk alts no bs hs (i + 1) os ⟨s'.tm, ns ++ s'.ob⟩
        | _ => False) → DrS3 F w0 Q all k m tk alts no (b :: bs) (hh :: hs) i (o :: os) s' := by
      intro s' hgood h
      simp only [DrS3]
      cases hd : o.dst with
      | none =>
        rw [hd] at h hgood
        simp only at h
        split at h
        · rename_i p ns he
          obtain ⟨q1, q2, q3, q4, q5⟩ := h
          refine ⟨.und, ns, [], fun _ hx => (nomatch hx), nsOk3_tk q3, hgood rfl fun s a w β K R l1 l2 f n => ?_, altOp_none q1, q4, dr3_sound hF hall' q5⟩
          exact core_ef hF he q2 (fun d h => absurd (hd.symm.trans h) (by simp)) (fun _ => rfl) R l1 l2 (fun d h => absurd (hd.symm.trans h) (by simp)) (by rw [hd]; exact n)
        · exact h.elim
      | some d =>
        rw [hd] at h hgood
        obtain ⟨hlt, h⟩ := h
        have hlt : d < F.N := by simpa [Nat.blt_eq] using hlt
        split at h
        · rename_i p v ns he
          obtain ⟨hp, hf, hn, ha, hno, h⟩ := h
          refine ⟨v, ns, ns.map (·.1), freshOs_fk hf hn, nsOk3_of hn, hgood rfl fun s a w β K R l1 l2 f n => core hF hd hlt he (.inl ⟨p, rfl, hp⟩) R l1 l2 (freshOs_of hf f) n, ?_, hno, dr3_sound hF hall' h⟩
          unfold AltOp
          split
          · trivial
          · rename_i j x hl
            rw [hl] at ha
            simp only at ha
            split
            · rename_i ob hob
              rw [hob] at ha
              simp only at ha
              split at ha
              · rename_i p' v' ns' he'
                obtain ⟨a1, rfl, rfl⟩ := ha
                refine hgood rfl fun s a w β K R l1 l2 f n => core hF hd hlt (t := cut2 b hh ⟨s'.tm, (x, ob) :: s'.ob⟩) (by rw [opdB2_eq] at he' ⊢; exact he') (.inl ⟨p', rfl, a1⟩) R l1 l2 (freshOs_of hf f) n
              · exact ha.elim
            · rename_i hob
              rw [hob] at ha; exact ha.elim
        · rename_i xs j he
          obtain ⟨n1, n2, hj, h⟩ := h
          have hx : xs[j.toNat]? = some (xs[j.toNat]'(by omega)) := by simp
          exact ⟨_, [], [], fun _ hx => (nomatch hx), rfl, hgood rfl fun s a w β K R l1 l2 f n => core hF hd hlt he (.inr (.inl ⟨xs, j, _, rfl, hj, hx, rfl, rfl⟩)) R l1 l2 rfl n, altOp_none n1, noOk_none n2, dr3_sound hF hall' (h _ hx)⟩
        · rename_i xs j j' size agg he
          obtain ⟨n1, n2, hj, h⟩ := h
          have hx : xs[j]? = some (xs[j]'hj) := by simp
          split at h
          · exact ⟨_, [], [], fun _ hx => (nomatch hx), rfl, hgood rfl fun s a w β K R l1 l2 f n => core hF hd hlt he (.inr (.inr (.inl ⟨xs, j, j', size, agg, _, rfl, hx, rfl, rfl⟩))) R l1 l2 rfl n, altOp_none n1, noOk_none n2, dr3_sound hF hall' (h _ hx)⟩
          · rename_i K0 _
            obtain ⟨c, hc, hf, h⟩ := h _ hx
            exact ⟨.c (.ob K0), [], [], fun _ hx => (nomatch hx), rfl, hgood rfl fun s a w β K R l1 l2 f n => core hF hd hlt he (.inr (.inr (.inl ⟨xs, j, j', size, agg, _, rfl, hx, rfl, rfl⟩))) R l1 l2 rfl fun a' w' β' R' => n a' w' β' (by
              rw [hc] at R'
              exact Rel.reob hf R'), altOp_none n1, noOk_none n2, dr3_sound hF hall' h⟩
        · rename_i f fs he
          obtain ⟨n1, n2, args, q, g1, g2, g3, g4, g5⟩ := h
          rw [← obB2_eq] at g1
          exact ⟨_, _, _, freshOs_fk g3 g4, nsOk3_of g4, hgood rfl fun s a w β K R l1 l2 f n => core hF hd hlt he (.inr (.inr (.inr ⟨_, _, args, q, rfl, g1, g2, rfl, rfl⟩))) R l1 l2 (freshOs_of g3 f) n, altOp_none n1, noOk_none n2, g5⟩
        · rename_i t len qs he
          obtain ⟨n1, n2, v, ns, fk, g1, g2, g3, g4⟩ := h
          refine ⟨v, ns, fk, fun x hx => g1 x hx, g2, hgood rfl fun s2 a w β K R l1 l2 f n => ?_, altOp_none n1, noOk_none n2, g4⟩
          have he' := ev_mono (opd_mono l1) l2 he (by simp)
          obtain ⟨vs, r1, r2⟩ := ev_bs (P := F.P) R he'
          obtain ⟨val, w', β', q1, q2⟩ := g3 s2 a w β R l1 l2 f vs r1
          unfold Oper.wp
          rw [r2 val w' q1, Oper.upon_value, hd]
          exact n _ _ _ q2
        · rename_i p v ns he
          obtain ⟨n1, hp, hfr, htk, hno, h⟩ := h
          simp only [Option.isNone_iff_eq_none] at hfr
          refine ⟨v, ns, [d * 64], fun x hx => ?_, htk, hgood rfl fun s a w β K R l1 l2 f n => ?_, altOp_none n1, hno, dr3_sound hF hall' h⟩
          · simp only [List.mem_singleton] at hx; subst hx
            exact ⟨by simp, hfr⟩
          · exact core_ef hF he hp (fun d' h => by rw [hd] at h; simp only [Option.some.injEq] at h; subst h; exact hlt) (fun h => by rw [hd] at h; cases h) R l1 l2 (fun d' h => f _ (List.mem_singleton.2 rfl)) (by rw [hd]; exact n)
        · exact h.elim
    simp only [dr3, ← opdB2_eq b hh, ← obB2_eq, ← tmB2_eq b hh] at h
    have good0 : ∀ {t : St} {v : FV} {ns : List (Nat × Ob)} {fk : List Nat}, o.guard = none → (∀ s a w β (K : Act → World → Prop), Rel F.N w0 s a w β → Le (lk (cut2 b hh t).tm) (lk s.tm) → Le (lk (cut2 b hh t).ob) (lk s.ob) → (∀ x ∈ fk, lk s.ob x = none) →
          (∀ a' w' β', Rel F.N w0 ((⟨s.tm, ns ++ s.ob⟩ : St).put o.dst v) a' w' β' → K a' w') → o.wp F.P a w K (cont F.P F.N w0 Q k)) → GoodOp3 F w0 (cont F.P F.N w0 Q k) all i (cut2 b hh t) o.dst v ns fk := by
      intro t v ns fk hg hc s2 a w β K R l1 l2 fr nx
      have hw : Region.wanted o (yielded all a.tmps) = true := by simp [Region.wanted, hg]
      simp only [wpOp, hi, if_pos hw]
      exact .inl (hc s2 a w β K R l1 l2 fr nx)
    cases hg : o.guard with
    | none =>
      rw [hg] at h
      exact go (fun _ hc => good0 hg hc) h
    | some g =>
      obtain ⟨j, want⟩ := g
      rw [hg] at h
      simp only at h
      split at h
      · rename_i dj d' hj hd'
        obtain ⟨hlt, n1, n2, h⟩ := h
        have hlt : d' < F.N := by simpa [Nat.blt_eq] using hlt
        have ext1 : ∀ {x : Bool}, lk (cut2 b hh s).tm dj = some (.c (.d (.v (.bool x)))) → ∀ t, lk s.tm t = lk ((dj, FV.c (.d (.v (.bool x)))) :: s.tm) t := by
          intro x hx t
          rw [lk_cut2_tm] at hx
          split at hx
          · rw [lk_cons]
            split
            · rename_i e; rw [← e]; exact hx
            · rfl
          · cases hx
        have wantd : ∀ {x : Bool} {s2 : St} {a : Act} {w : World} {β : Nat → Value}, lk (cut2 b hh s).tm dj = some (.c (.d (.v (.bool x)))) → Rel F.N w0 s2 a w β → Le (lk (cut2 b hh s).tm) (lk s2.tm) →
            Region.wanted o (yielded all a.tmps) = (x == want) := by
          intro x s2 a w β hx R l
          have hv := bool_rel (R.tm dj _ (l _ _ hx))
          have hy := yielded_bool hj hv
          simp only [Region.wanted, hg, hy]
          cases x <;> cases want <;> rfl
        split at h
        · rename_i x hx
          have lecut : ∀ {c : Bool} {ob : List (Nat × Ob)}, x = c → ∀ t, lk (cut2 b hh ⟨(dj, .c (.d (.v (.bool c)))) :: s.tm, ob⟩).tm t = lk (cut2 b hh s).tm t := by
            intro c ob e t
            rw [lk_cut2_tm, lk_cut2_tm, ← e]
            split
            · exact (ext1 hx t).symm
            · rfl
          by_cases hxw : x = want
          · have := go (s' := ⟨(dj, .c (.d (.v (.bool want)))) :: s.tm, s.ob⟩) (fun {t v ns fk} ht hc => ?_) (h.1 hxw)
            · have e1 := ext1 hx
              rw [hxw] at e1
              exact @DrS3.ext w0 F Q all k m tk alts no (o :: os) (b :: bs) (hh :: hs) i ⟨(dj, .c (.d (.v (.bool want)))) :: s.tm, s.ob⟩ s e1 rfl this
            · intro s2 a w β K R l1 l2 fr nx
              have l1' : Le (lk (cut2 b hh s).tm) (lk s2.tm) := fun y f hy => l1 y f (by
                have e2 := lecut (ob := t.ob) hxw y
                have e3 : (⟨(dj, FV.c (.d (.v (.bool want)))) :: s.tm, t.ob⟩ : St) = t := by cases t; simp only at ht; subst ht; rfl
                rw [e3] at e2
                rw [e2]; exact hy)
              have hw := wantd hx R l1'
              rw [hxw] at hw
              simp only [wpOp, hi]
              rw [if_pos (by rw [hw]; cases want <;> rfl)]
              exact .inl (hc s2 a w β K R l1 l2 fr nx)
          · have hxn : x = (!want) := by cases x <;> cases want <;> first | rfl | exact absurd rfl hxw
            have h2 := dr3_sound hF hall' (h.2 hxn)
            simp only [DrS3]
            refine ⟨.und, [], [], fun _ hx => (nomatch hx), rfl, ?_, altOp_none n1, noOk_none n2, ?_⟩
            · intro s2 a w β K R l1 l2 fr nx
              have hw := wantd hx R l1
              simp only [wpOp, hi]
              rw [if_neg (by rw [hw, hxn]; cases want <;> simp), hd']
              rw [hd'] at nx
              exact nx _ _ _ (R.setTm hlt (by simp only [FVRel]))
            · rw [hd']
              refine @DrS3.ext w0 F Q all k m tk alts no os bs hs (i + 1) ⟨(d', .und) :: (dj, .c (.d (.v (.bool (!want))))) :: s.tm, s.ob⟩ ⟨(d', .und) :: s.tm, s.ob⟩ (fun t => ?_) rfl h2
              simp only [lk_cons]
              split
              · rfl
              · have := ext1 hx t
                rw [hxn, lk_cons] at this
                exact this
        · rename_i hx
          have h2 := dr3_sound hF hall' h
          simp only [DrS3]
          refine ⟨.und, [], [], fun _ hx => (nomatch hx), rfl, ?_, altOp_none n1, noOk_none n2, by rw [hd']; exact h2⟩
          intro s2 a w β K R l1 l2 fr nx
          have hv := R.tm dj _ (l1 _ _ hx)
          simp only [FVRel] at hv
          have hy := yielded_undef hj hv
          simp only [wpOp, hi]
          rw [if_neg (by simp [Region.wanted, hg, hy]), hd']
          rw [hd'] at nx
          exact nx _ _ _ (R.setTm hlt (by simp only [FVRel]))
        · exact h.elim
      · exact h.elim

/-- A call in the quiet part; what is left of it is worked out from the state behind. -/
theorem DrC3.ok {F : Fn} (hF : FnOk F) {Q : Exit → Act → World → Prop} {all : Array Oper} {k : List It} {m : Nat} {tk : List (List Nat)} {alts : List (Nat × Nat × Nat)} {no : List (Nat × Ob)} {bs hs : List (List Nat)} {i : Nat} {os : List Oper} {b h : List Nat} {d f : Nat} {fs : List FV} {args : List RV} {q : RV}
    (hall : (all.toList.drop i).take os.length = os) (ha : argsR (obB2 b h s) fs = some args) (hc : CallOK F.P f args q) (hfr : freshOs s.ob (impOs (d * 64) (cellsR q)) = true)
    (hns : nsOk d (impOs (d * 64) (cellsR q)) = true) (hj : dr3 F w0 Q all k m tk alts no bs hs i os ⟨(d, impF (d * 64) q) :: s.tm, impOs (d * 64) (cellsR q) ++ s.ob⟩) : DrC3 F w0 Q all k m tk alts no bs hs i os s b h d f fs := by
  refine ⟨args, q, ha, hc, hfr, hns, dr3_sound hF (fun j o ho => ?_) hj⟩
  rw [← hall, List.getElem?_take] at ho
  split at ho
  · rw [List.getElem?_drop] at ho
    simpa using ho
  · cases ho

theorem J.dr3 {F : Fn} (hF : FnOk F) {Q : Exit → Act → World → Prop} {id : Nat} {ops : Array Oper} {k : List It} (hmix : F.P.follows .mixedOrders = true) (m : Nat) (rows bs tk hs : List (List Nat)) (alts : List (Nat × Nat × Nat)) (no : List (Nat × Ob)) (hok : drawOk3 ops.toList m rows bs tk hs alts = true)
    (h : dr3 F w0 Q ops k m tk alts no bs hs 0 (ops.toList.take m) s) : J F.P F.N w0 Q (.code (.region id ops true) :: k) s := by
  refine J.draw3 hmix m rows bs tk hs alts no hok (dr3_sound hF (fun j o ho => ?_) h)
  rw [List.getElem?_take] at ho
  split at ho
  · simpa using ho
  · cases ho

attribute [simp] dr3 obB2 none' inTk tkAt noOk nsOk3 retK

end Go.Sm
