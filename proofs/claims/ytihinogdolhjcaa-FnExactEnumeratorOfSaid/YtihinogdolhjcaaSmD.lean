/- The types' table, operands, and the operations that only read: what each gives in the symbolic state, and that the machine agrees. -/
import Derived.Test.YtihinogdolhjcaaSmC
namespace Go.Sm
open Go.RowKit

/-- A cell of a zero value. -/
inductive Z where
  | v (x : Value)
  | nilS (e k : Nat)

def Z.val : Z → Value
  | .v x => x
  | .nilS _ _ => nilV

inductive TK where
  | other | bool | str
  | int (k : IntKind)
  | st (fs : List (Nat × Option Nat))
  | ar (len elem : Nat)
  | sl (elem : Nat)
  | mp (key elem : Nat)

structure TI where
  k : TK
  size : Nat
  bytes : Nat
  zero : List Z

def KOf (P : Program) : TypeDesc → TK
  | .int k => .int k
  | .bool => .bool
  | .string => .str
  | .struct fs => .st (fs.toList.map fun f => (f.offset, (P.info? f.type).map (·.size)))
  | .array n e => .ar n e
  | .slice e => .sl e
  | .map k e => .mp k e
  | _ => .other

def TK.agg : TK → Bool
  | .st _ | .ar _ _ => true
  | _ => false

structure TyOk (P : Program) (t : TypeId) (ti : TI) : Prop where
  size : (P.info? t).map (fun i => (i.size, i.bytes)) = some (ti.size, ti.bytes)
  zero : ((P.info? t).bind (·.zero)).map (·.cells.toList) = some (ti.zero.map Z.val)
  kind : (P.underlying t).map (KOf P) = some ti.k
  ones : ti.zero.all (fun z => z.val.oneCell') = true
  zlen : ti.zero.length = ti.size
  zval : ti.k.agg = false → ((P.info? t).bind (·.zero)) = (ti.zero.map Z.val).head?

abbrev Tab := List (Nat × TI)
def TabOk (P : Program) (T : Tab) : Prop := ∀ t ti, lk T t = some ti → TyOk P t ti

theorem tabOk_nil {P : Program} : TabOk P [] := fun _ _ h => by simp [lk] at h
theorem tabOk_cons {P : Program} {t : Nat} {ti : TI} {T : Tab} (h : TyOk P t ti) (hT : TabOk P T) : TabOk P ((t, ti) :: T) := by
  intro t' ti' h'
  rw [lk_cons] at h'
  split at h'
  · rename_i e; subst e; simp only [Option.some.injEq] at h'; subst h'; exact h
  · exact hT t' ti' h'


variable {P : Program}

theorem TyOk.sizeOf {t : TypeId} {ti : TI} (h : TyOk P t ti) (w : World) : (sizeOf t).run P w = .ok ti.size w := by
  have h1 := h.size
  cases hi : P.info? t with
  | none => rw [hi] at h1; simp at h1
  | some i => rw [hi] at h1; simp at h1; simp [Go.sizeOf, typeInfo, hi, h1.1]

theorem TyOk.zeroValue {t : TypeId} {ti : TI} (h : TyOk P t ti) (w : World) : ∃ z, (zeroValue t).run P w = .ok z w ∧ z.cells.toList = ti.zero.map Z.val := by
  have h1 := h.zero
  cases hi : P.info? t with
  | none => rw [hi] at h1; simp at h1
  | some i =>
    rw [hi] at h1
    cases hz : i.zero with
    | none => simp [hz] at h1
    | some z =>
      simp [hz] at h1
      exact ⟨z, by simp [Go.zeroValue, typeInfo, hi, hz], h1⟩

theorem TyOk.zeroVal {t : TypeId} {ti : TI} {z : Z} (h : TyOk P t ti) (ha : ti.k.agg = false) (hz : ti.zero = [z]) (w : World) : (Go.zeroValue t).run P w = .ok z.val w := by
  have h1 := h.zval ha
  rw [hz] at h1
  cases hi : P.info? t with
  | none => rw [hi] at h1; simp at h1
  | some i =>
    rw [hi] at h1
    cases hz : i.zero with
    | none => simp [hz] at h1
    | some z => simp [hz] at h1; subst h1; simp [Go.zeroValue, typeInfo, hi, hz]

theorem TyOk.desc {t : TypeId} {ti : TI} (h : TyOk P t ti) : ∃ d, P.underlying t = some d ∧ KOf P d = ti.k := by
  have h1 := h.kind
  cases hd : P.underlying t with
  | none => rw [hd] at h1; simp at h1
  | some d => rw [hd] at h1; simp at h1; exact ⟨d, rfl, h1⟩

theorem TyOk.isAgg {t : TypeId} {ti : TI} (h : TyOk P t ti) (w : World) : (isAgg t).run P w = .ok ti.k.agg w := by
  obtain ⟨d, hd, hk⟩ := h.desc
  rw [← hk]
  cases d <;> simp [Go.isAgg, run_underlying hd, KOf, TK.agg]

theorem TyOk.sl {t e : TypeId} {ti : TI} (h : TyOk P t ti) (hk : ti.k = .sl e) : P.underlying t = some (.slice e) := by
  obtain ⟨d, hd, hk'⟩ := h.desc
  rw [hk] at hk'
  cases d <;> simp [KOf] at hk'
  subst hk'; exact hd
theorem TyOk.ar {t e n : TypeId} {ti : TI} (h : TyOk P t ti) (hk : ti.k = .ar n e) : P.underlying t = some (.array n e) := by
  obtain ⟨d, hd, hk'⟩ := h.desc
  rw [hk] at hk'
  cases d <;> simp [KOf] at hk'
  obtain ⟨rfl, rfl⟩ := hk'; exact hd
theorem TyOk.mp {t k e : TypeId} {ti : TI} (h : TyOk P t ti) (hk : ti.k = .mp k e) : P.underlying t = some (.map k e) := by
  obtain ⟨d, hd, hk'⟩ := h.desc
  rw [hk] at hk'
  cases d <;> simp [KOf] at hk'
  obtain ⟨rfl, rfl⟩ := hk'; exact hd
theorem TyOk.int {t : TypeId} {k : IntKind} {ti : TI} (h : TyOk P t ti) (hk : ti.k = .int k) : P.underlying t = some (.int k) := by
  obtain ⟨d, hd, hk'⟩ := h.desc
  rw [hk] at hk'
  cases d <;> simp [KOf] at hk'
  subst hk'; exact hd
theorem TyOk.bool {t : TypeId} {ti : TI} (h : TyOk P t ti) (hk : ti.k = .bool) : P.underlying t = some .bool := by
  obtain ⟨d, hd, hk'⟩ := h.desc
  rw [hk] at hk'
  cases d <;> simp [KOf] at hk'
  exact hd
theorem TyOk.str {t : TypeId} {ti : TI} (h : TyOk P t ti) (hk : ti.k = .str) : P.underlying t = some .string := by
  obtain ⟨d, hd, hk'⟩ := h.desc
  rw [hk] at hk'
  cases d <;> simp [KOf] at hk'
  exact hd
theorem TyOk.st {t : TypeId} {fs : List (Nat × Option Nat)} {ti : TI} (h : TyOk P t ti) (hk : ti.k = .st fs) :
    ∃ f : Array Field, P.underlying t = some (.struct f) ∧ f.toList.map (fun f => (f.offset, (P.info? f.type).map (·.size))) = fs := by
  obtain ⟨d, hd, hk'⟩ := h.desc
  rw [hk] at hk'
  cases d <;> simp [KOf] at hk'
  exact ⟨_, hd, hk'⟩

def constFV : Value → Option FV
  | .slice none 0 0 => some (.c (.d (.vw false 0 [])))
  | .int k n => some (.c (.d (.v (.int k n))))
  | .bool b => some (.c (.d (.v (.bool b))))
  | .string s => some (.c (.d (.v (.string s))))
  | .nilFunc => some (.c (.d (.v .nilFunc)))
  | .nilIface => some (.c (.d (.v .nilIface)))
  | .map none => some (.c (.d (.v (.map none))))
  | .pointer none => some (.c (.d (.v (.pointer none))))
  | _ => none

def St.opd (s : St) : Operand → Option FV
  | .tmp t => lk s.tm t
  | .const v => constFV v
  | .func f => some (.c (.d (.v (.func (.func f) #[] #[]))))
  | .global _ => none

variable {N : Nat} {w0 : Base} {s : St} {a : Act} {w : World} {β : Nat → Value}

theorem constFV_rel {en : En} {v : Value} {f : FV} (h : constFV v = some f) : FVRel en f v := by
  unfold constFV at h
  split at h <;> simp only [Option.some.injEq, reduceCtorEq] at h <;> subst h <;> simp [FVRel, CRel, D.isOwn, Value.oneCell', Rd, nilV]

theorem Rel.opd (R : Rel N w0 s a w β) {x : Operand} {f : FV} (h : s.opd x = some f) : FVRel (s.en w w0.arg β) f (a.eval x) := by
  cases x with
  | tmp t => exact R.tm t f h
  | const v => exact constFV_rel h
  | func g => simp [St.opd] at h; subst h; simp [FVRel, CRel, D.isOwn, Value.oneCell', Rd, Act.eval]
  | global g => simp [St.opd] at h

/-- The cells of a value. -/
def FV.cells : FV → Option (List C)
  | .c x => some [x]
  | .g xs => some xs
  | _ => none

theorem cells_one {v : Value} (h : v.oneCell' = true) : v.cells.toList = [v] := by cases v <;> simp_all [Value.cells, Value.oneCell']

theorem FV.cells_rel {en : En} {f : FV} {v : Value} {cs : List C} (hc : f.cells = some cs) (h : FVRel en f v) : CsRel en cs v.cells.toList := by
  cases f with
  | c x =>
    simp [FV.cells] at hc; subst hc
    simp only [FVRel] at h
    rw [cells_one h.one]; exact ⟨h, trivial⟩
  | g xs =>
    simp [FV.cells] at hc; subst hc
    simp only [FVRel] at h
    obtain ⟨vs, rfl, h⟩ := h
    simpa [Value.cells] using h
  | t xs => simp [FV.cells] at hc
  | und => simp [FV.cells] at hc

theorem CsRel.ones {en : En} : ∀ {cs : List C} {vs : List Value}, CsRel en cs vs → ∀ u ∈ vs, u.oneCell' = true
  | [], [], _, u, hu => by cases hu
  | [], _ :: _, h, _, _ => h.elim
  | _ :: _, [], h, _, _ => h.elim
  | c :: cs, v :: vs, h, u, hu => by
    rcases List.mem_cons.1 hu with rfl | hu
    · exact h.1.one
    · exact CsRel.ones h.2 u hu

/-- Scalars alone. -/
def D.sc : D → Bool
  | .v x => x.oneCell'
  | _ => false

/-! ### loads -/

theorem CsRel.drop {en : En} : ∀ {cs : List C} {vs : List Value} (n : Nat), CsRel en cs vs → CsRel en (cs.drop n) (vs.drop n)
  | cs, vs, 0, h => by simpa using h
  | [], [], n + 1, _ => by simp [CsRel]
  | [], _ :: _, _ + 1, h => h.elim
  | _ :: _, [], _ + 1, h => h.elim
  | _ :: _, _ :: _, n + 1, h => by simpa using CsRel.drop n h.2

theorem CsRel.take {en : En} : ∀ {cs : List C} {vs : List Value} (n : Nat), CsRel en cs vs → CsRel en (cs.take n) (vs.take n)
  | cs, vs, 0, h => by simp [CsRel]
  | [], [], n + 1, _ => by simp [CsRel]
  | [], _ :: _, _ + 1, h => h.elim
  | _ :: _, [], _ + 1, h => h.elim
  | _ :: _, _ :: _, n + 1, h => by simpa using ⟨h.1, CsRel.take n h.2⟩

theorem CsRel.append {en : En} : ∀ {cs ds : List C} {vs us : List Value}, CsRel en cs vs → CsRel en ds us → CsRel en (cs ++ ds) (vs ++ us)
  | [], ds, [], us, _, h => by simpa using h
  | [], _, _ :: _, _, h, _ => h.elim
  | _ :: _, _, [], _, h, _ => h.elim
  | _ :: _, _, _ :: _, _, h, h' => ⟨h.1, CsRel.append h.2 h'⟩

/-- Reading a variable in memory whose cells are known. -/
theorem run_loadVar_cells {t : TypeId} {ti : TI} (h : TyOk P t ti) {b off : Nat} {vs : List Value} (hl : vs.length = ti.size)
    (hc : ∀ (j : Nat) (u : Value), vs[j]? = some u → w.cell? ⟨b, off + j, none⟩ = some u) (hs : ti.k.agg = false → ti.size = 1) :
    (loadVar t ⟨b, off, none⟩).run P w = .ok (if ti.k.agg then .agg vs.toArray else vs.headD undef) w := by
  unfold loadVar
  simp only [Sem.run_bind, h.isAgg, Result.andThen_ok]
  cases ha : ti.k.agg with
  | true =>
    simp only [if_true, Sem.run_bind, h.sizeOf, Result.andThen_ok]
    rw [← hl, run_loadCells_list w _ vs (fun j v hj => by rw [Addr.add_lit]; exact hc j v hj)]
    simp
  | false =>
    have h1 := hs ha
    rw [h1] at hl
    match vs, hl with
    | [u], _ =>
      have := hc 0 u rfl
      simp at this
      simp [this]

def evLoad (T : Tab) (ob : Nat → Option Ob) (t : TypeId) : FV → Option FV
  | .c (.ref k off) => match lk T t, ob k with
    | some ti, some (.var cs) => match Nat.beq ((cs.drop off).take ti.size).length ti.size with
      | true => match ti.k.agg with
        | true => some (.g ((cs.drop off).take ti.size))
        | false => match (cs.drop off).take ti.size with
          | [c] => some (.c c)
          | _ => none
      | false => none
    | _, _ => none
  | .c (.rd xs) => match lk T t with
    | some ti => match Nat.beq (xs.take ti.size).length ti.size with
      | true => match ti.k.agg with
        | true => some (.g ((locCs (xs.take ti.size)).map C.d))
        | false => match xs.take ti.size with
          | [x] => some (.c (.d x.loc))
          | _ => none
      | false => none
    | none => none
  | _ => none

theorem D.loc_isOwn (x : D) : x.loc.isOwn = false := by cases x <;> simp [D.loc, D.isOwn]
theorem arg_isOwn (x : D) : x.arg.isOwn = false := by cases x <;> simp [D.arg, D.isOwn]

theorem Rd.one {w : World} {B : Nat → Prop} {M : Nat → Prop} {x : D} {c : Value} (h : Rd w B M x c) : c.oneCell' = true := by
  cases x with
  | v y => simp only [Rd] at h; obtain ⟨rfl, h⟩ := h; exact h
  | vw a k xs => simp only [Rd] at h; rcases h with ⟨_, rfl⟩ | ⟨b, off, cap, rfl, _⟩ <;> rfl
  | own e k xs => simp only [Rd] at h; rcases h with ⟨_, rfl⟩ | ⟨b, cap, cur, rfl, _⟩ <;> rfl
  | mp xs => simp only [Rd] at h; obtain ⟨r, es, clock, rfl, _⟩ := h; rfl

/-- The values in a block's cells, off from a place. -/
theorem cells_of_CsRel {en : En} {k : Nat} {cs : List C} (h : ObRel en k (.var cs)) :
    ∃ g vs, en.β k = .pointer (some ⟨g, 0, none⟩) ∧ CsRel en cs vs ∧ ∀ (j : Nat) (u : Value), vs[j]? = some u → en.w.cell? ⟨g, j, none⟩ = some u := by
  obtain ⟨g, cur, T, h1, h2, h3⟩ := h
  exact ⟨g, cur.toList, h1, h3, fun j u hu => by rw [cell_of_row en.w g j cur T (0, 0) h2]; simpa using hu⟩

theorem getElem?_drop_take {α : Type} {xs : List α} {off n j : Nat} {u : α} (h : ((xs.drop off).take n)[j]? = some u) : xs[off + j]? = some u := by
  rw [List.getElem?_take] at h
  split at h
  · rw [List.getElem?_drop] at h; exact h
  · cases h

/-- Cells that are read as data: the values, their relation. All are single cells by the model's own store rule; here it is asked for. -/
theorem cells_of_RdCs {w : World} {B : Nat → Prop} {M : Nat → Prop} {b : Nat} : ∀ (xs : List D) (off : Nat), RdCs w B M xs b off →
    ∃ vs : List Value, vs.length = xs.length ∧ (∀ (j : Nat) (u : Value), vs[j]? = some u → w.cell? ⟨b, off + j, none⟩ = some u) ∧
      ∀ (j : Nat) (x : D) (u : Value), xs[j]? = some x → vs[j]? = some u → Rd w B M x u
  | [], off, _ => ⟨[], rfl, fun _ _ h => by simp at h, fun _ _ _ h => by simp at h⟩
  | x :: xs, off, h => by
    simp only [RdCs] at h
    obtain ⟨⟨c, hc, hr⟩, h2⟩ := h
    obtain ⟨vs, hl, hv, hq⟩ := cells_of_RdCs xs (off + 1) h2
    refine ⟨c :: vs, by simp [hl], ?_, ?_⟩
    · intro j u hj
      cases j with
      | zero => simp at hj; subst hj; simpa using hc
      | succ j =>
        have := hv j u (by simpa using hj)
        rw [← this]; congr 2; omega
    · intro j y u hj hu
      cases j with
      | zero => simp at hj hu; subst hj; subst hu; exact hr
      | succ j => exact hq j y u (by simpa using hj) (by simpa using hu)

theorem CsRel_of_RdCs {en : En} : ∀ (xs : List D) (vs : List Value), vs.length = xs.length →
    (∀ (j : Nat) (x : D) (u : Value), xs[j]? = some x → vs[j]? = some u → Rd en.w en.B en.M x u) → CsRel en ((locCs xs).map C.d) vs
  | [], [], _, _ => trivial
  | [], _ :: _, h, _ => by simp at h
  | _ :: _, [], h, _ => by simp at h
  | x :: xs, v :: vs, hl, h => by
    have hr := h 0 x v rfl rfl
    exact ⟨⟨D.loc_isOwn x, hr.one, hr.loc⟩, CsRel_of_RdCs xs vs (by simpa using hl) fun j y u h1 h2 => h (j + 1) y u (by simpa using h1) (by simpa using h2)⟩

theorem nat_beq {a b : Nat} (h : Nat.beq a b = true) : a = b := Nat.eq_of_beq_eq_true h

theorem evLoad_sound {T : Tab} (hT : TabOk P T) (R : Rel N w0 s a w β) {t : TypeId} {f f' : FV} {v : Value} (h : evLoad T (lk s.ob) t f = some f')
    (hf : FVRel (s.en w w0.arg β) f v) : ∃ val, (Instr.loadAt t v).run P w = .ok val w ∧ FVRel (s.en w w0.arg β) f' val := by
  unfold evLoad at h
  split at h
  · -- a variable
    rename_i k off
    split at h
    · rename_i ti cs hti hob
      have hty := hT t ti hti
      obtain ⟨g, vs, hβ, hcs, hcell⟩ := cells_of_CsRel (R.ob k _ hob)
      simp only [FVRel, CRel] at hf
      obtain ⟨_, g', hβ', rfl⟩ := hf
      have : g' = g := by
        have := hβ'.symm.trans hβ
        simpa using this
      subst this
      have hsub := (hcs.drop off).take ti.size
      split at h
      · rename_i hlen
        have hlen := nat_beq hlen
        have hl : ((vs.drop off).take ti.size).length = ti.size := by rw [← hsub.length]; exact hlen
        have hrun := fun hs => run_loadVar_cells (w := w) hty hl (b := g') (off := off) (fun j u hj => hcell (off + j) u (getElem?_drop_take hj)) hs
        split at h
        · rename_i ha
          simp only [Option.some.injEq] at h; subst h
          refine ⟨.agg ((vs.drop off).take ti.size).toArray, ?_, ?_⟩
          · simp only [Instr.loadAt, Instr.sureAddr, Sem.run_bind, Sem.run_pure, Result.andThen_ok]
            rw [hrun (by simp [ha])]; simp [ha]
          · simp only [FVRel]; exact ⟨_, rfl, hsub⟩
        · rename_i ha
          split at h
          · rename_i c hc
            simp only [Option.some.injEq] at h; subst h
            rw [hc] at hsub hlen
            match hv : (vs.drop off).take ti.size, hsub with
            | [u], hsub =>
              rw [hv] at hrun
              refine ⟨u, ?_, ?_⟩
              · simp only [Instr.loadAt, Instr.sureAddr, Sem.run_bind, Sem.run_pure, Result.andThen_ok]
                rw [hrun (fun _ => by simpa using hlen.symm)]; simp [ha]
              · simp only [FVRel]; exact hsub.1
          · cases h
      · cases h
    · cases h
  · -- data that is only read
    rename_i xs
    split at h
    · rename_i ti hti
      have hty := hT t ti hti
      simp only [FVRel, CRel] at hf
      obtain ⟨b, off, rfl, _, _, hr⟩ := hf
      obtain ⟨vs, hlv, hcell, hq⟩ := cells_of_RdCs xs off hr
      split at h
      · rename_i hlen
        have hlen := nat_beq hlen
        have hl : (vs.take ti.size).length = ti.size := by rw [List.length_take, hlv, ← List.length_take]; exact hlen
        have hget : ∀ {α : Type} {l : List α} {n j : Nat} {u : α}, (l.take n)[j]? = some u → l[j]? = some u := by
          intro α l n j u hj
          rw [List.getElem?_take] at hj
          split at hj
          · exact hj
          · cases hj
        have hrun := fun hs => run_loadVar_cells (w := w) hty hl (b := b) (off := off) (fun j u hj => hcell j u (hget hj)) hs
        have hcs : CsRel (s.en w w0.arg β) ((locCs (xs.take ti.size)).map C.d) (vs.take ti.size) :=
          CsRel_of_RdCs _ _ (by rw [hl, hlen]) fun j x u h1 h2 => hq j x u (hget h1) (hget h2)
        split at h
        · rename_i ha
          simp only [Option.some.injEq] at h; subst h
          refine ⟨.agg (vs.take ti.size).toArray, ?_, ?_⟩
          · simp only [Instr.loadAt, Instr.sureAddr, Sem.run_bind, Sem.run_pure, Result.andThen_ok]
            rw [hrun (by simp [ha])]; simp [ha]
          · simp only [FVRel]; exact ⟨_, rfl, hcs⟩
        · rename_i ha
          split at h
          · rename_i x hx
            simp only [Option.some.injEq] at h; subst h
            rw [hx] at hcs hlen
            match hv : vs.take ti.size, hcs with
            | [u], hcs =>
              rw [hv] at hrun
              refine ⟨u, ?_, ?_⟩
              · simp only [Instr.loadAt, Instr.sureAddr, Sem.run_bind, Sem.run_pure, Result.andThen_ok]
                rw [hrun (fun _ => by simpa using hlen.symm)]; simp [ha]
              · simp only [FVRel]; simpa [locCs] using hcs.1
          · cases h
      · cases h
    · cases h
  · cases h

end Go.Sm
