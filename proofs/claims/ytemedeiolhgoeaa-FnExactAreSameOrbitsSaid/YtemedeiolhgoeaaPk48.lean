/- Towards the rows of this seat: what the functions do, as contracts over plain data. -/
import Derived.Test.YtemedeiolhgoeaaPk42
import Derived.Test.YtemedeiolhgoeaaPk2
namespace Go.Sm
open Go.RowKit

variable {P : Program} {N : Nat} {w0 : Base} {s : St} {a : Act} {w w' : World} {β : Nat → Value} {X : Nat → Prop} {B M M' : Nat → Prop}

abbrev u64D (x : Int) : D := .v (.int .u64 x)
abbrev byD (b : UInt8) : D := .v (.int .u8 (b.toNat : Int))
abbrev vB (bs : List UInt8) : D := .vw true 1 (bs.map fun b => [byD b])
abbrev srcCs (c : Value) (x : Int × Int) : List C := [.d (.v c), .d (i64 x.1), .d (u64D x.2)]
abbrev srcVs (c : Value) (x : Int × Int) : Array Value := #[c, .int .i64 x.1, .int .u64 x.2]

/-- A value that is a view of these bytes, in memory that stays as it was. -/
def SrcV (w0 : Base) (bs : List UInt8) (c : Value) : Prop := c.oneCell' = true ∧ Rd w0.toWorld w0.arg (fun _ => False) (vB bs) c

theorem rdEs_cells {b : Nat} : ∀ (us : List Value) (off : Nat), RdEs w B M 1 (us.map fun u => [D.v u]) b off → (∀ n u, us[n]? = some u → w.cell? ⟨b, off + n, none⟩ = some u) ∧ ∀ u ∈ us, u.oneCell' = true
  | [], _, _ => ⟨fun n u h => by simp at h, by simp⟩
  | u :: us, off, h => by
    simp only [List.map_cons, RdEs, RdCs, Rd] at h
    obtain ⟨_, ⟨⟨c, h1, rfl, h2⟩, _⟩, h3⟩ := h
    obtain ⟨i1, i2⟩ := rdEs_cells us (off + 1) h3
    refine ⟨fun n x hx => ?_, fun x hx => ?_⟩
    · cases n with
      | zero => simp only [List.getElem?_cons_zero, Option.some.injEq] at hx; subst hx; simpa using h1
      | succ n => have := i1 n x (by simpa using hx); rwa [show off + 1 + n = off + (n + 1) by omega] at this
    · rcases List.mem_cons.1 hx with rfl | hx
      · exact h2
      · exact i2 x hx
theorem cell_congr {w w' : World} {b : Nat} (h : w'.heap[b]? = w.heap[b]?) (off : Nat) : w'.cell? ⟨b, off, none⟩ = w.cell? ⟨b, off, none⟩ := by
  unfold World.cell?
  simp only [h]
theorem vB_map (bs : List UInt8) : (bs.map fun b => [byD b]) = (bs.map fun b => Value.int .u8 (b.toNat : Int)).map fun u => [D.v u] := by rw [List.map_map]; rfl
theorem SrcV.at {bs : List UInt8} {c : Value} (h : SrcV w0 bs c) (hl : ∀ b, w0.arg b → w.heap[b]? = w0.heap[b]?) (hz : w0.heap.size ≤ w.heap.size) (hB : ∀ b, w0.arg b → B b) (hM : ∀ b, M b → ¬ w0.arg b) : Rd w B M (vB bs) c := by
  obtain ⟨_, h⟩ := h
  simp only [Rd] at h ⊢
  rcases h with h | ⟨b, off, cap, h1, h2, _, h4, h5, h6⟩
  · exact .inl h
  · have ha := h5 trivial
    refine .inr ⟨b, off, cap, h1, h2, fun hm => hM b hm ha, Nat.lt_of_lt_of_le h4 hz, fun _ => hB b ha, ?_⟩
    rw [vB_map] at h6 ⊢
    obtain ⟨i1, i2⟩ := rdEs_cells _ _ h6
    exact rdEs_vals _ _ i2 fun n u hu => by rw [cell_congr (hl b ha)]; exact i1 n u hu
theorem Rel.M_mine (R : Rel N w0 s a w β) {b : Nat} (h : (s.en w w0.arg β).M b) : w0.mine b := by
  obtain ⟨k, o, ho, hl, hb⟩ := h
  exact R.ge k b (R.live_block ho hl hb)
theorem mine_not_arg {b : Nat} (h : w0.mine b) : ¬ w0.arg b := fun ha => arg_not_mine ha h
/-- The source's bytes as a view. -/
theorem J.asView {Q : Exit → Act → World → Prop} {k : List It} {d : Nat} {bs : List UInt8} {c : Value} (hs : SrcV w0 bs c) (hd : lk s.tm d = some (.c (.d (.v c)))) (h : J P N w0 Q k ⟨(d, .c (.d (vB bs))) :: s.tm, s.ob⟩) : J P N w0 Q k s := by
  intro a w β R
  have hv := R.tm d _ hd
  refine h a w β (R.retm ?_)
  simp only [FVRel, CRel] at hv ⊢
  have hv : a.tmps.getD d undef = c := by have := hv.2.2; simp only [Rd] at this; exact this.1
  rw [hv]
  exact ⟨rfl, hs.1, hs.at R.low.block R.low.size (fun _ h => h) fun b hb => mine_not_arg (R.M_mine hb)⟩

/-! ### the contract -/
/-- A function of a source and other data: what it may return (one of the q i), and the source behind it. -/
def CallS (P : Program) (f : FuncId) (bs : List UInt8) (x : Int × Int) (args : List RV) {ι : Type} (Post : ι → Prop) (q : ι → RV) (x' : ι → Int × Int) : Prop :=
  Entered P f ∧ ∀ (w : World) (g : Nat) (T : TypeId) (c : Value) (vs us : List Value), w.heap[g]? = some (.cells (srcVs c x) T (0, 0)) → SrcV ⟨w, (· = g), fun _ => none⟩ bs c → AVsX w (· = g) args vs us →
    Calls P f (Value.pointer (some ⟨g, 0, none⟩) :: vs).toArray w fun e w' => ∃ i, Post i ∧ ∃ v T', e = .returned v ∧ w'.heap[g]? = some (.cells (srcVs c (x' i)) T' (0, 0)) ∧ OwnV w' (fun b => w.heap.size ≤ b) (q i) v ∧ Low ⟨w, (· = g), fun _ => none⟩ w w'

def srcPost (P : Program) (fn : Func) (w : World) (g : Nat) (c : Value) {ι : Type} (Post : ι → Prop) (q : ι → RV) (x' : ι → Int × Int) : Exit → Act → World → Prop :=
  bodyPost P fn fun e w' => ∃ i, Post i ∧ ∃ v T', e = .returned v ∧ w'.heap[g]? = some (.cells (srcVs c (x' i)) T' (0, 0)) ∧ OwnV w' (fun b => w.heap.size ≤ b) (q i) v ∧ Low ⟨w, (· = g), fun _ => none⟩ w w'
/-- The end of such a body. -/
def RetS (T : Tab) (rs : List ResultVar) (c : Value) {ι : Type} (Post : ι → Prop) (q : ι → RV) (x' : ι → Int × Int) (s : St) : Prop :=
  match expRs T s rs with
  | some (ps, ks) => ks.Nodup ∧ ks.elem 0 = false ∧ freshCs (ps.flatMap (·.2)) = true ∧ ∃ i, Post i ∧ toRV ps = q i ∧ lk s.ob 0 = some (.var (srcCs c (x' i)))
  | none => False
def srcBase (w : World) (g : Nat) : Base := ⟨w, (· = g), fun k => if k = 0 then some (.pointer (some ⟨g, 0, none⟩)) else none⟩
theorem srcBase_ok (w : World) (g : Nat) : (srcBase w g).ok64 := fun k c h => by
  have h : (if k = 0 then some (Value.pointer (some ⟨g, 0, none⟩)) else none) = some c := h
  split at h
  · omega
  · cases h
theorem results_shape (fn : Func) (tmps : Array Value) {us vs : List Value} {ps : List (Bool × List D)} (h : (fn.results.toList.mapM (resultOne tmps)).run P w = .ok us w) (q2 : CompShape ps us vs) (q5 : us.length = ps.length) :
    ∃ v, (results fn tmps).run P w = .ok v w ∧ RShape (toRV ps) v vs := by
  rcases us with _ | ⟨u, _ | ⟨u2, us⟩⟩
  · refine ⟨_, results_run fn tmps h, ?_⟩
    match ps, q2, q5 with
    | [], q2, _ => exact ⟨[], rfl, q2⟩
  · refine ⟨_, results_run fn tmps h, ?_⟩
    match ps, q2, q5 with
    | [(b, ds)], q2, _ =>
      obtain ⟨u', r', x, c, hu, rfl, hx, hb, hr, rfl⟩ := q2
      simp only [List.cons.injEq] at hu
      obtain ⟨rfl, rfl⟩ := hu
      cases b with
      | true => simp only [toRV, RShape, List.append_nil]; exact hb
      | false =>
        simp only at hb
        subst hb
        match ds, hx with
        | [d], _ => simp [toRV, RShape]
  · refine ⟨_, results_run fn tmps h, ?_⟩
    match ps, q2, q5 with
    | p1 :: p2 :: ps, q2, _ =>
      simp only [toRV, RShape]
      exact ⟨_, rfl, q2⟩
theorem srcRet {T : Tab} (hT : TabOk P T) {g : Nat} {w1 : World} (R : Rel N (srcBase w1 g) s a w β) {rs : List ResultVar} {c : Value} {ι : Type} {Post : ι → Prop} {q : ι → RV} {x' : ι → Int × Int} (h : RetS T rs c Post q x' s) (fn : Func) (hfn : fn.results.toList = rs) :
    a.defers = [] ∧ ∃ v, (results fn a.tmps).run P w = .ok v w ∧ ∃ i, Post i ∧ ∃ v' T', Ending.returned v = .returned v' ∧ w.heap[g]? = some (.cells (srcVs c (x' i)) T' (0, 0)) ∧ OwnV w (fun b => w1.heap.size ≤ b) (q i) v' ∧ Low ⟨w1, (· = g), fun _ => none⟩ w1 w := by
  unfold RetS at h
  split at h
  · rename_i ps ks h1
    obtain ⟨h2, h0, h3, i, hi, hr, hK⟩ := h
    obtain ⟨us, vs, q1, q2, q3, q4, q5⟩ := expRs_sound hT R h1 h3
    subst hfn
    have hβ : β 0 = .pointer (some ⟨g, 0, none⟩) := (R.fx 0 (.pointer (some ⟨g, 0, none⟩)) rfl).2
    have ho := R.ob 0 _ hK
    simp only [ObRel] at ho
    obtain ⟨g', cur, T', o1, o2, o3⟩ := ho
    have o1 : β 0 = .pointer (some ⟨g', 0, none⟩) := o1
    rw [hβ] at o1
    simp only [Value.pointer.injEq, Option.some.injEq, Addr.mk.injEq, and_true] at o1
    subst o1
    have hcur : cur = srcVs c (x' i) := by
      have hl := o3.length
      have := (csRel_vals (us := [c, .int .i64 (x' i).1, .int .u64 (x' i).2]) o3).1
      apply Array.ext'
      rw [this]
    rw [hcur] at o2
    have hg0 : g ∈ obFp (s.en w (srcBase w1 g).arg β) 0 := by rw [obFp_var (en := s.en w (srcBase w1 g).arg β) hK]; simp [St.en, hβ, blk]
    have hc : cellsR (q i) = ps.flatMap (·.2) := by
      rw [← hr]
      match ps with
      | [] => rfl
      | [(true, ds)] => simp [toRV, cellsR]
      | [(false, [])] => simp [toRV, cellsR]
      | [(false, [d])] => simp [toRV, cellsR]
      | [(false, d :: e :: ds)] => simp [toRV, cellsR]
      | p1 :: p2 :: ps => simp [toRV, cellsR]
    obtain ⟨v, hrun, hsh⟩ := results_shape fn a.tmps q1 q2 q5
    refine ⟨R.df, v, hrun, i, hi, v, T', rfl, o2, ⟨vs, ?_, ?_, ?_, ?_, ?_⟩, ⟨R.low.os, R.low.tape, R.low.output, R.low.size, R.low.block, R.low.drawn⟩⟩
    · rw [← hr]; exact hsh
    all_goals rw [hc]
    · exact h3
    · exact q3
    · rw [q4]; exact nodup_obFp R h2
    · intro b hb
      rw [q4] at hb
      obtain ⟨k, hk, hbk⟩ := List.mem_flatMap.1 hb
      have hk0 : (0 : Nat) ≠ k := fun e => by rw [← e] at hk; have := elem_iff.2 hk; rw [h0] at this; cases this
      have hbg : b ≠ g := fun e => by subst e; exact R.dj 0 k hk0 b hg0 hbk
      rcases R.ge k b hbk with h | h
      · exact h
      · exact absurd h hbg
  · exact h.elim

theorem plain_cs {en : En} (hB : en.B = fun b => Old w b ∧ ¬ X b) (hw : en.w = w) (hM : ∀ b, en.M b → X b) : ∀ {ds : List D} {us : List Value} {k : Nat}, ds.all (fun d => !d.isOwn) = true → DsV (ArgX w X) ds us → CsRel en (impCs k ds) us
  | [], us, _, _, h => by simp only [DsV] at h; subst h; trivial
  | d :: ds, us, k, ho, h => by
    simp only [List.all_cons, Bool.and_eq_true] at ho
    obtain ⟨v, r, rfl, h1, h2⟩ := h
    have ih := plain_cs hB hw hM (k := k + 1) ho.2 h2
    have K : Keeps w w X en.M := ⟨Nat.le_refl _, fun _ _ _ => rfl, fun b hb => .inl (hM b hb)⟩
    have key : ∀ d : D, Rd w (fun b => Old w b ∧ ¬ X b) X d v → d.isOwn = false → CRel en (.d d) v := fun d hr hd => by
      refine ⟨hd, Rd.one hr, ?_⟩
      rw [hw, hB]
      exact Rd.keep K d v hr
    cases d with
    | own e z xs => simp [D.isOwn] at ho
    | v y => exact ⟨key _ h1 rfl, ih⟩
    | vw b z xs => exact ⟨key _ h1 rfl, ih⟩
    | mp es => exact ⟨key _ h1 rfl, ih⟩

/-- The contract, from the conditions at the body. -/
theorem callS {F : Fn} (hF : FnOk F) {f : FuncId} {fn : Func} {cd : Code} {bs : List UInt8} {x : Int × Int} {args : List RV} {ι : Type} {Post : ι → Prop} {q : ι → RV} {x' : ι → Int × Int} (n : Nat) (hf : F.P.funcs[f]? = some fn) (hb : fn.body = some cd) (hN : fn.ntmps = F.N)
    (hrs : fn.results.toList = F.rs) (hname : (fn.name == "runtime.NumGoroutine") = false) (hle : args.length + 1 ≤ F.N) (hp : args.all RV.plain = true) (hno : (args.flatMap cellsR).all (fun d => !d.isOwn) = true)
    (h : ∀ (w : World) (g : Nat) (c : Value), SrcV (srcBase w g) bs c → vc F (srcBase w g) (srcPost F.P fn w g c Post q x') (RetS F.T F.rs c Post q x') n [.code cd] ⟨(0, .c (.ref 0 0)) :: argTmX 1 0 args, [(0, .var (srcCs c x))]⟩) : CallS F.P f bs x args Post q x' := by
  refine ⟨⟨fn, hf, hname, by rw [hb]; rfl⟩, fun w g T c vs us hg hsv hv => ?_⟩
  refine calls_of_wp hf hb ?_
  have hl := hv.length
  have hsv' : SrcV (srcBase w g) bs c := hsv
  have hj := vc_soundQ (w0 := srcBase w g) hF (Q := srcPost F.P fn w g c Post q x') (E := RetS F.T F.rs c Post q x') (fun s a w' β R h => ⟨srcRet hF.T R h fn hrs, srcRet hF.T R h fn hrs⟩) n _ _ (h w g c hsv')
  generalize hst : (⟨(0, .c (.ref 0 0)) :: argTmX 1 0 args, [(0, .var (srcCs c x))]⟩ : St) = st at hj
  let β : Nat → Value := fun _ => .pointer (some ⟨g, 0, none⟩)
  have hob : st.ob = [(0, .var (srcCs c x))] := by rw [← hst]
  have htm : st.tm = (0, .c (.ref 0 0)) :: argTmX 1 0 args := by rw [← hst]
  have hM : ∀ b, (st.en w (srcBase w g).arg β).M b → b = g := by
    rintro b ⟨k, o, _, _, hb⟩
    have hb : blk (Value.pointer (some ⟨g, 0, none⟩)) = some b := hb
    simp only [blk, Option.some.injEq] at hb
    exact hb.symm
  have hfp : ∀ k, ∀ b ∈ obFp (st.en w (srcBase w g).arg β) k, b = g ∧ k = 0 := by
    intro k b hb
    by_cases hk : k = 0
    · subst hk
      rw [obFp_var (en := st.en w (srcBase w g).arg β) (cs := srcCs c x) (by show lk st.ob 0 = _; rw [hob]; rfl)] at hb
      have hb : b ∈ (blk (Value.pointer (some ⟨g, 0, none⟩))).toList := hb
      simp [blk] at hb
      exact ⟨hb, rfl⟩
    · have h0 : lk st.ob k = none := by rw [hob, lk_cons_ne _ _ (Ne.symm hk)]; rfl
      unfold obFp at hb
      have h0 : (st.en w (srcBase w g).arg β).ob k = none := h0
      rw [h0] at hb; cases hb
  have hcs : CsRel (st.en w (srcBase w g).arg β) (impCs 0 (args.flatMap cellsR)) us := plain_cs (w := w) (X := (· = g)) rfl rfl hM hno hv.dsv
  have R : Rel F.N (srcBase w g) st { tmps := (Value.pointer (some ⟨g, 0, none⟩) :: vs).toArray ++ Array.replicate (fn.ntmps - (Value.pointer (some ⟨g, 0, none⟩) :: vs).toArray.size) undef, defers := [] } w β := by
    refine ⟨by simp; omega, rfl, ?_, ?_, ?_, ?_, ?_, Low.refl _ _, ?_⟩
    · intro t f h
      rw [htm, lk_cons] at h
      split at h
      · rename_i e; subst e
        simp only [Option.some.injEq] at h; subst h
        simp only [FVRel, CRel]
        refine ⟨by show (lk st.ob 0).isSome = true; rw [hob]; rfl, g, rfl, ?_⟩
        rw [Array.getD_eq_getD_getElem?, Array.getElem?_append_left (by simp)]
        simp
      · obtain ⟨v, h1, h2, h3⟩ := argTmX_rel hp hv hcs t f h
        have hlt := (List.getElem?_eq_some_iff.1 h1).1
        have : ((Value.pointer (some ⟨g, 0, none⟩) :: vs).toArray ++ Array.replicate (fn.ntmps - (Value.pointer (some ⟨g, 0, none⟩) :: vs).toArray.size) undef).getD t undef = v := by
          rw [Array.getD_eq_getD_getElem?, Array.getElem?_append_left (by simp; omega)]
          rw [show t = (t - 1) + 1 by omega]
          simp [h1]
        rw [this]; exact h3
    · intro k o h
      rw [hob, lk_cons] at h
      split at h
      · rename_i e; subst e
        simp only [Option.some.injEq] at h; subst h
        exact ⟨g, srcVs c x, T, rfl, hg, ⟨rfl, hsv.1, by simp only [Rd]; exact ⟨trivial, hsv.1⟩⟩, ⟨rfl, rfl, by simp only [Rd]; exact ⟨trivial, rfl⟩⟩, ⟨rfl, rfl, by simp only [Rd]; exact ⟨trivial, rfl⟩⟩, trivial⟩
      · cases h
    · intro k
      by_cases hk : k = 0
      · subst hk
        rw [obFp_var (en := st.en w (srcBase w g).arg β) (cs := srcCs c x) (by show lk st.ob 0 = _; rw [hob]; rfl)]
        show (blk (Value.pointer (some ⟨g, 0, none⟩))).toList.Nodup
        simp [blk]
      · rw [List.eq_nil_iff_forall_not_mem.2 fun b hb => hk (hfp k b hb).2]; exact List.nodup_nil
    · intro k k' hkk b hb hb'
      have h1 := (hfp k b hb).2
      have h2 := (hfp k' b hb').2
      omega
    · intro k b hb
      exact .inr (hfp k b hb).1
    · intro k cc h
      have h2 : (if k = 0 then some (Value.pointer (some ⟨g, 0, none⟩)) else none) = some cc := h
      by_cases e : k = 0
      · rw [if_pos e] at h2
        subst e
        exact ⟨by rw [hob]; rfl, Option.some.inj h2⟩
      · rw [if_neg e] at h2; cases h2
  have := hj _ w β R
  simp only [cont] at this
  exact this

/-! ### the caller's other arguments: what is static, and arrays that are lent -/
def argSC (K : Nat) (ob : Nat → Option Ob) : C → Option D
  | .d x => match stA x with
    | true => some x
    | false => none
  | .ob k => match ob k, Nat.beq k K with
    | some (.arr _ z xs), false => match stAEs xs with
      | true => some (.vw true z xs)
      | false => none
    | _, _ => none
  | _ => none
def argSCs (K : Nat) (ob : Nat → Option Ob) : List C → Option (List D)
  | [] => some []
  | c :: cs => match argSC K ob c, argSCs K ob cs with
    | some d, some ds => some (d :: ds)
    | _, _ => none
def argSF (K : Nat) (ob : Nat → Option Ob) : FV → Option RV
  | .c x => match argSC K ob x with
    | some d => some (.one d)
    | none => none
  | .g xs => match argSCs K ob xs with
    | some ds => some (.agg ds)
    | none => none
  | _ => none
def argsS (K : Nat) (ob : Nat → Option Ob) : List FV → Option (List RV)
  | [] => some []
  | f :: r => match argSF K ob f, argsS K ob r with
    | some d, some ds => some (d :: ds)
    | _, _ => none
theorem argSC_sound (R : Rel N w0 s a w β) {K : Nat} (hcl : ∀ b ∈ obFp (s.en w w0.arg β) K, ∃ cur e, w.heap[b]? = some (.cells cur e (0, 0))) {c : C} {d : D} {v : Value} (h : argSC K (lk s.ob) c = some d) (hv : CRel (s.en w w0.arg β) c v) :
    ArgX w (fun b => b ∈ obFp (s.en w w0.arg β) K) d v := by
  have hB : ∀ b, w0.arg b → ¬ b ∈ obFp (s.en w w0.arg β) K := fun b hb hX => arg_not_mine hb (R.ge K b hX)
  unfold argSC at h
  split at h
  · rename_i x
    split at h
    · rename_i hs
      simp only [Option.some.injEq] at h; subst h
      have hr := Rd.argA hB hcl x v hs hv.2.2
      cases x with
      | own e z xs => simp [stA] at hs
      | v y => exact hr
      | vw b z xs => exact hr
      | mp es => exact hr
    · cases h
  · rename_i k
    split at h
    · rename_i e z xs hob hel
      split at h
      · rename_i hs
        simp only [Option.some.injEq] at h; subst h
        obtain ⟨_, hv, _⟩ := hv
        have hv : v = β k := hv
        have hr : OwnRel w w0.arg (s.en w w0.arg β).M e z xs (β k) := R.ob k _ hob
        show Rd w _ _ _ v
        simp only [Rd]
        rcases hr with ⟨rfl, h⟩ | ⟨g, cap, cur, r1, r2, r3, r4, r5, r6⟩
        · exact .inl ⟨rfl, none, 0, hv.trans h, fun _ => rfl⟩
        · have hgk : g ∈ obFp (s.en w w0.arg β) k := by
            rw [obFp_arr (en := s.en w w0.arg β) hob]
            show g ∈ fp w _ (β k)
            rw [r1, fp_own_some]; simp
          have hne : k ≠ K := fun e => by
            rw [e] at hel
            have : Nat.beq K K = true := Nat.beq_refl K
            rw [hel] at this; cases this
          have hX : ¬ g ∈ obFp (s.en w w0.arg β) K := R.dj k K hne g hgk
          exact .inr ⟨g, 0, cap, hv.trans r1, r2, hX, lt_of_heap r3, fun _ => ⟨lt_of_heap r3, hX⟩, RdEs.argA hB hcl xs 0 hs r6⟩
      · cases h
    · cases h
  · cases h
theorem argSCs_sound (R : Rel N w0 s a w β) {K : Nat} (hcl : ∀ b ∈ obFp (s.en w w0.arg β) K, ∃ cur e, w.heap[b]? = some (.cells cur e (0, 0))) : ∀ {cs : List C} {ds : List D} {vs : List Value}, argSCs K (lk s.ob) cs = some ds → CsRel (s.en w w0.arg β) cs vs → DsV (ArgX w (fun b => b ∈ obFp (s.en w w0.arg β) K)) ds vs
  | [], ds, [], h, _ => by simp [argSCs] at h; subst h; rfl
  | [], _, _ :: _, _, h => h.elim
  | _ :: _, _, [], _, h => h.elim
  | c :: cs, ds, v :: vs, h, hv => by
    simp only [argSCs] at h
    split at h
    · rename_i d ds' h1 h2
      simp only [Option.some.injEq] at h; subst h
      exact ⟨v, vs, rfl, argSC_sound R hcl h1 hv.1, argSCs_sound R hcl h2 hv.2⟩
    · cases h
theorem argsS_sound (R : Rel N w0 s a w β) {K : Nat} (hcl : ∀ b ∈ obFp (s.en w w0.arg β) K, ∃ cur e, w.heap[b]? = some (.cells cur e (0, 0))) : ∀ {fs : List FV} {rs : List RV} {vs : List Value}, argsS K (lk s.ob) fs = some rs → FVsV (s.en w w0.arg β) fs vs →
    ∃ us, AVsX w (fun b => b ∈ obFp (s.en w w0.arg β) K) rs vs us
  | [], rs, vs, h, hv => by simp [argsS] at h; subst h; exact ⟨[], hv, rfl⟩
  | f :: fs, rs, vs, h, hv => by
    simp only [argsS] at h
    obtain ⟨v, q, rfl, h3, h4⟩ := hv
    split at h
    · rename_i r rs' h1 h2
      simp only [Option.some.injEq] at h; subst h
      obtain ⟨us, u1⟩ := argsS_sound R hcl h2 h4
      unfold argSF at h1
      split at h1
      · rename_i x
        split at h1
        · rename_i d hd
          simp only [Option.some.injEq] at h1; subst h1
          simp only [FVRel] at h3
          exact ⟨v :: us, v, q, [v], us, rfl, rfl, rfl, ⟨v, [], rfl, argSC_sound R hcl hd h3, rfl⟩, u1⟩
        · cases h1
      · rename_i xs
        split at h1
        · rename_i ds hd
          simp only [Option.some.injEq] at h1; subst h1
          simp only [FVRel] at h3
          obtain ⟨x, rfl, hx⟩ := h3
          exact ⟨x ++ us, _, q, x, us, rfl, rfl, rfl, argSCs_sound R hcl hd hx, u1⟩
        · cases h1
      · cases h1
    · cases h

/-- A call of such a function, and the world behind it. -/
theorem Rel.srcCall (R : Rel N w0 s a w β) {d f K : Nat} {fs : List FV} {args : List RV} {bs : List UInt8} {c : Value} {x : Int × Int} {ι : Type} {Post : ι → Prop} {q : ι → RV} {x' : ι → Int × Int} (hs : SrcV w0 bs c) (hd : d < N)
    (hK : lk s.ob K = some (.var (srcCs c x))) (ha : argsS K (lk s.ob) fs = some args) (hc : CallS P f bs x args Post q x') (hfr : ∀ i, freshOs ((K, .var (srcCs c (x' i))) :: s.ob) (impOs (d * 64) (cellsR (q i))) = true)
    {vs : List Value} (hv : FVsV (s.en w w0.arg β) (.c (.ref K 0) :: fs) vs) : Calls P f vs.toArray w fun e w' => ∃ i, Post i ∧ ∃ v, e = .returned v ∧ ∃ β', Rel N w0 ⟨(d, impF (d * 64) (q i)) :: s.tm, impOs (d * 64) (cellsR (q i)) ++ (K, .var (srcCs c (x' i))) :: s.ob⟩ (a.put (some d) v) w' β' := by
  obtain ⟨v0, vs', rfl, h1, h2⟩ := hv
  simp only [FVRel, CRel] at h1
  obtain ⟨_, g, hβ, rfl⟩ := h1
  have hβ : β K = .pointer (some ⟨g, 0, none⟩) := hβ
  have hr := R.ob K _ hK
  simp only [ObRel] at hr
  obtain ⟨g', cur, T, o1, o2, o3⟩ := hr
  have o1 : β K = .pointer (some ⟨g', 0, none⟩) := o1
  rw [hβ] at o1
  simp only [Value.pointer.injEq, Option.some.injEq, Addr.mk.injEq, and_true] at o1
  subst o1
  have hcur : cur = srcVs c x := by
    have := (csRel_vals (us := [c, .int .i64 x.1, .int .u64 x.2]) o3).1
    apply Array.ext'
    rw [this]
  rw [hcur] at o2
  have hbk : blk (β K) = some g := by rw [hβ]; rfl
  have hfpK : obFp (s.en w w0.arg β) K = [g] := by
    rw [obFp_var (en := s.en w w0.arg β) hK]
    show (blk (β K)).toList = _
    rw [hbk]; rfl
  have hgK : g ∈ obFp (s.en w w0.arg β) K := by rw [hfpK]; simp
  have hmine := R.ge K g hgK
  have hlt := lt_of_heap o2
  have hsv : SrcV ⟨w, (· = g), fun _ => none⟩ bs c := ⟨hs.1, hs.at R.low.block R.low.size (fun b hb => ⟨Nat.lt_of_lt_of_le hb.1 R.low.size, fun e => by subst e; exact arg_not_mine hb hmine⟩) fun _ h => h.elim⟩
  have hX : (fun b => b ∈ obFp (s.en w w0.arg β) K) = (· = g) := by
    funext b
    rw [hfpK]
    simp
  obtain ⟨us, u1⟩ := argsS_sound R (K := K) (fun b hb => by
    rw [hfpK, List.mem_singleton] at hb
    subst hb
    exact ⟨_, _, o2⟩) ha h2
  rw [hX] at u1
  refine Calls.mono (hc.2 w g T c vs' us o2 hsv u1) fun e w' ⟨i, hi, v, T', he, hg', hown, hlow⟩ => ?_
  have R1 := R.setObj (o' := .var (srcCs c (x' i))) (ob := .cells (srcVs c (x' i)) T' (0, 0)) hK rfl hbk (by
      rw [obFp_var (cs := srcCs c (x' i)) (lk_cons_self _ _ _)]
      show (blk (β K)).toList = _
      rw [hbk]; rfl) (fun _ => ⟨g, srcVs c (x' i), T', hβ, setOb_self w g _ hlt, ⟨rfl, hs.1, by simp only [Rd]; exact ⟨trivial, hs.1⟩⟩, ⟨rfl, rfl, by simp only [Rd]; exact ⟨trivial, rfl⟩⟩, ⟨rfl, rfl, by simp only [Rd]; exact ⟨trivial, rfl⟩⟩, trivial⟩)
  have hb : Bel (World.setOb w g (.cells (srcVs c (x' i)) T' (0, 0))).heap.size (World.setOb w g (.cells (srcVs c (x' i)) T' (0, 0))) w' := by
    refine ⟨⟨hlow.os, hlow.tape, hlow.output, by rw [setOb_size]; exact hlow.size, fun b hb => ?_⟩, hlow.drawn⟩
    rw [setOb_size] at hb
    by_cases hbg : b = g
    · subst hbg; rw [hg', setOb_self w b _ hlt]
    · rw [setOb_ne w _ hbg]; exact hlow.block b ⟨hb, hbg⟩
  obtain ⟨us', q1, q2, q3, q4, q5⟩ := hown
  obtain ⟨β', g1, g2⟩ := R1.import hb (hfr i) q2 q3 q4 (by rw [setOb_size]; exact q5)
  exact ⟨i, hi, v, he, β', g1.setTm hd (impF_rel q1 g2)⟩

/-- A call of such a function. -/
theorem CallW.src {Q : Exit → Act → World → Prop} {k : List It} {d f K : Nat} {fs : List FV} {args : List RV} {bs : List UInt8} {c : Value} {x : Int × Int} {ι : Type} {Post : ι → Prop} {q : ι → RV} {x' : ι → Int × Int} (hs : SrcV w0 bs c) (hd : d < N)
    (hK : lk s.ob K = some (.var (srcCs c x))) (ha : argsS K (lk s.ob) fs = some args) (hc : CallS P f bs x args Post q x') (hfr : ∀ i, freshOs ((K, .var (srcCs c (x' i))) :: s.ob) (impOs (d * 64) (cellsR (q i))) = true)
    (hj : ∀ i, Post i → J P N w0 Q k ⟨(d, impF (d * 64) (q i)) :: s.tm, impOs (d * 64) (cellsR (q i)) ++ (K, .var (srcCs c (x' i))) :: s.ob⟩) : CallW P N w0 Q k s d f (.c (.ref K 0) :: fs) :=
  ⟨hc.1, fun _ _ _ R _ hv => Calls.mono (R.srcCall hs hd hK ha hc hfr hv) fun _ _ ⟨i, hi, v, he, β', hR⟩ => ⟨v, he, _, β', hR, hj i hi⟩⟩

/-! ### a new source -/
/-- A function that makes a source of bytes. -/
def CallN (P : Program) (f : FuncId) (bs : List UInt8) (Post : Int × Int → Prop) : Prop :=
  Entered P f ∧ ∀ (w : World) (c : Value), SrcV ⟨w, fun _ => False, fun _ => none⟩ bs c → Calls P f #[c] w fun e w' => ∃ x', Post x' ∧ ∃ g T', e = .returned (.pointer (some ⟨g, 0, none⟩)) ∧ w.heap.size ≤ g ∧ w'.heap[g]? = some (.cells (srcVs c x') T' (0, 0)) ∧ Bel w.heap.size w w'
def newPost (P : Program) (fn : Func) (w : World) (c : Value) (Post : Int × Int → Prop) : Exit → Act → World → Prop :=
  bodyPost P fn fun e w' => ∃ x', Post x' ∧ ∃ g T', e = .returned (.pointer (some ⟨g, 0, none⟩)) ∧ w.heap.size ≤ g ∧ w'.heap[g]? = some (.cells (srcVs c x') T' (0, 0)) ∧ Bel w.heap.size w w'
/-- The end of such a body. -/
def RetN (rs : List ResultVar) (c : Value) (Post : Int × Int → Prop) (s : St) : Prop :=
  match rs with
  | [.tmp t] => match lk s.tm t with
    | some (.c (.ref K 0)) => ∃ x', Post x' ∧ lk s.ob K = some (.var (srcCs c x'))
    | _ => False
  | _ => False
def newBase (w : World) : Base := ⟨w, fun _ => False, fun _ => none⟩
theorem newBase_ok (w : World) : (newBase w).ok64 := fun k c h => by cases h
theorem newRet {w1 : World} (R : Rel N (newBase w1) s a w β) {rs : List ResultVar} {c : Value} {Post : Int × Int → Prop} (h : RetN rs c Post s) (fn : Func) (hfn : fn.results.toList = rs) :
    a.defers = [] ∧ ∃ v, (results fn a.tmps).run P w = .ok v w ∧ ∃ x', Post x' ∧ ∃ g T', Ending.returned v = .returned (.pointer (some ⟨g, 0, none⟩)) ∧ w1.heap.size ≤ g ∧ w.heap[g]? = some (.cells (srcVs c x') T' (0, 0)) ∧ Bel w1.heap.size w1 w := by
  unfold RetN at h
  split at h
  · rename_i t
    split at h
    · rename_i K hK
      obtain ⟨x', hx, hob⟩ := h
      have hv := R.tm t _ hK
      simp only [FVRel, CRel] at hv
      obtain ⟨_, g, hβ, hv⟩ := hv
      have hβ : β K = .pointer (some ⟨g, 0, none⟩) := hβ
      have ho := R.ob K _ hob
      simp only [ObRel] at ho
      obtain ⟨g', cur, T', o1, o2, o3⟩ := ho
      have o1 : β K = .pointer (some ⟨g', 0, none⟩) := o1
      rw [hβ] at o1
      simp only [Value.pointer.injEq, Option.some.injEq, Addr.mk.injEq, and_true] at o1
      subst o1
      have hcur : cur = srcVs c x' := by
        have := (csRel_vals (us := [c, .int .i64 x'.1, .int .u64 x'.2]) o3).1
        apply Array.ext'
        rw [this]
      rw [hcur] at o2
      have hgK : g ∈ obFp (s.en w (newBase w1).arg β) K := by rw [obFp_var (en := s.en w (newBase w1).arg β) hob]; simp [St.en, hβ, blk]
      have hge : w1.heap.size ≤ g := (R.ge K g hgK).elim id fun h => h.elim
      refine ⟨R.df, a.tmps.getD t undef, ?_, x', hx, g, T', by rw [hv], hge, o2, ⟨⟨R.low.os, R.low.tape, R.low.output, R.low.size, fun b hb => R.low.block b ⟨hb, fun h => h.elim⟩⟩, R.low.drawn⟩⟩
      have := results_run (P := P) (w := w) fn a.tmps (us := [a.tmps.getD t undef]) (by rw [hfn]; rfl)
      exact this
    · exact h.elim
  · exact h.elim
theorem callN {F : Fn} (hF : FnOk F) {f : FuncId} {fn : Func} {cd : Code} {bs : List UInt8} {Post : Int × Int → Prop} (n : Nat) (hf : F.P.funcs[f]? = some fn) (hb : fn.body = some cd) (hN : fn.ntmps = F.N)
    (hrs : fn.results.toList = F.rs) (hname : (fn.name == "runtime.NumGoroutine") = false) (hle : 1 ≤ F.N)
    (h : ∀ (w : World) (c : Value), SrcV (newBase w) bs c → vc F (newBase w) (newPost F.P fn w c Post) (RetN F.rs c Post) n [.code cd] ⟨[(0, .c (.d (.v c)))], []⟩) : CallN F.P f bs Post := by
  refine ⟨⟨fn, hf, hname, by rw [hb]; rfl⟩, fun w c hsv => ?_⟩
  refine calls_of_wp hf hb ?_
  have hsv' : SrcV (newBase w) bs c := hsv
  have hj := vc_soundQ (w0 := newBase w) hF (Q := newPost F.P fn w c Post) (E := RetN F.rs c Post) (fun s a w' β R h => ⟨newRet R h fn hrs, newRet R h fn hrs⟩) n _ _ (h w c hsv')
  have R : Rel F.N (newBase w) ⟨[(0, .c (.d (.v c)))], []⟩ { tmps := #[c] ++ Array.replicate (fn.ntmps - (#[c] : Array Value).size) undef, defers := [] } w fun _ => undef := by
    have hfp : ∀ k, obFp (St.en ⟨[(0, .c (.d (.v c)))], []⟩ w (newBase w).arg fun _ => undef) k = [] := fun k => rfl
    refine ⟨by simp; omega, rfl, ?_, (fun k o h => (by cases h)), (fun k => by rw [hfp]; exact List.nodup_nil), (fun k k' _ b hb => by rw [hfp] at hb; cases hb), (fun k b hb => by rw [hfp] at hb; cases hb), Low.refl _ _, (fun k c h => (by cases h))⟩
    intro t f h
    rw [lk_cons] at h
    split at h
    · rename_i e; subst e
      simp only [Option.some.injEq] at h; subst h
      have : (#[c] ++ Array.replicate (fn.ntmps - (#[c] : Array Value).size) undef).getD 0 undef = c := by
        rw [Array.getD_eq_getD_getElem?, Array.getElem?_append_left (by simp)]; simp
      rw [this]
      exact ⟨rfl, hsv.1, by simp only [Rd]; exact ⟨trivial, hsv.1⟩⟩
    · cases h
  have := hj _ w _ R
  simp only [cont] at this
  exact this

attribute [simp] RetS RetN argSC argSCs argSF argsS
end Go.Sm

namespace Go.Sm
open Go.RowKit

variable {P : Program} {N : Nat} {w0 : Base} {s : St} {a : Act} {w w' : World} {β : Nat → Value}

theorem fpVs_part {w : World} {Q : D → Value → Prop} {ys : List (List D)} {news : List Value} (h : EsV Q 1 ys news) (lo n : Nat) : List.Sublist (fpVs w 1 ((ys.drop lo).take n) ((news.drop lo).take n)) (fpVs w 1 ys news) := by
  have h1 := h.drop1 lo
  have e2 : fpVs w 1 (ys.drop lo) (news.drop lo) = fpVs w 1 ((ys.drop lo).take n) ((news.drop lo).take n) ++ fpVs w 1 ((ys.drop lo).drop n) ((news.drop lo).drop n) := by
    have := fpVs_append (w := w) (h1.take1 n) (ys := (ys.drop lo).drop n) (us := (news.drop lo).drop n)
    rw [List.take_append_drop, List.take_append_drop] at this
    exact this
  have e1 : fpVs w 1 ys news = fpVs w 1 (ys.take lo) (news.take lo) ++ fpVs w 1 (ys.drop lo) (news.drop lo) := by
    have := fpVs_append (w := w) (h.take1 lo) (ys := ys.drop lo) (us := news.drop lo)
    rw [List.take_append_drop, List.take_append_drop] at this
    exact this
  rw [e1, e2]
  exact (List.sublist_append_left _ _).trans (List.sublist_append_right _ _)

theorem OpW.appWin {Q : Exit → Act → World → Prop} {all : Array Oper} {os : List Oper} {k : List It} {o : Oper} {c : Call} {x y : Operand} {t e e3 d k1 k3 lo n : Nat} {T : Tab} {ti te : TI} {xs ys : List (List D)}
    (ho : o.op = .call c) (hcc : c.callee = .builtin .append) (hargs : c.args = #[x, y]) (hts : c.argTypes = #[t, t]) (hd : o.dst = some d) (hlt : d < N)
    (hT : TabOk P T) (hti : lk T t = some ti) (htk : ti.k = .sl e) (hte : lk T e = some te) (hz : te.size = 1) (hx : s.opd x = some (.c (.ob k1))) (h1 : lk s.ob k1 = some (.arr e 1 xs))
    (hy : s.opd y = some (.c (.win k3 1 lo n))) (h3 : lk s.ob k3 = some (.arr e3 1 ys)) (hne : k3 ≠ k1) (hfr : lk s.ob (d * 64) = none)
    (hb : (xs.length + ys.length) * te.bytes ≤ 140737488355328) (h63 : xs.length + ys.length ≤ 9223372036854775807)
    (h : J P N w0 Q (.ops all os :: k) ⟨(d, .c (.ob (d * 64))) :: s.tm, (d * 64, .arr e 1 (xs ++ (ys.drop lo).take n)) :: (k1, .dead) :: (k3, .dead) :: s.ob⟩) : OpW P N w0 Q all os k s o := by
  have hu := (hT t ti hti).sl htk
  have hty := hT e te hte
  refine OpW.val hd fun a w β R => ?_
  have hx := R.opd hx
  have hy := R.opd hy
  simp only [FVRel, CRel] at hx hy
  obtain ⟨_, hx, _⟩ := hx
  obtain ⟨_, hy⟩ := hy
  have hr3 : OwnRel w w0.arg (s.en w w0.arg β).M e3 1 ys (β k3) := R.ob k3 _ h3
  have hle : ((ys.drop lo).take n).length ≤ ys.length := by rw [List.length_take, List.length_drop]; omega
  have hsrc : ∃ news, EsV (Rd w w0.arg (s.en w w0.arg β).M) 1 ((ys.drop lo).take n) news ∧ (∀ u ∈ news, u.oneCell' = true) ∧
      ((a.eval y = nilV ∧ ((ys.drop lo).take n).length = 0) ∨ ∃ ad cap, a.eval y = .slice (some ad) ((ys.drop lo).take n).length cap ∧ ∀ j u, news[j]? = some u → w.cell? (ad.add j) = some u) ∧
      List.Sublist (fpVs w 1 ((ys.drop lo).take n) news) (obFp (s.en w w0.arg β) k3) := by
    rcases hy with ⟨hβ, rfl, hv⟩ | ⟨g, M, cap, off, c', hβ, hv, hoff, hlen, hc⟩
    · rw [List.take_zero]
      exact ⟨[], rfl, by simp, .inl ⟨hv, rfl⟩, by simp [fpVs]⟩
    · have hβ : β k3 = .slice (some ⟨g, 0, none⟩) M cap := hβ
      rcases hr3 with ⟨rfl, h0⟩ | ⟨g', cap', cur, hβ', q1, q2, q3, q4, q5⟩
      · rw [hβ] at h0; cases h0
      · rw [hβ] at hβ'
        simp only [Value.slice.injEq, Option.some.injEq, Addr.mk.injEq, and_true] at hβ'
        obtain ⟨rfl, rfl, rfl⟩ := hβ'
        obtain ⟨news, n1, n2, n3⟩ := q5.cellsV
        have hl : ((ys.drop lo).take n).length = n := by rw [List.length_take, List.length_drop]; omega
        refine ⟨(news.drop lo).take n, (n1.drop1 lo).take1 n, fun u hu => n2 u (List.mem_of_mem_drop (List.mem_of_mem_take hu)), .inr ⟨_, _, hv.trans (by rw [hl]), fun j u hj => ?_⟩, ?_⟩
        · rw [List.getElem?_take] at hj
          split at hj
          · rw [List.getElem?_drop] at hj
            have := n3 _ _ hj
            rw [Addr.add_lit] at this ⊢
            rcases hoff with h | h
            · omega
            · rw [h, Nat.mul_one]; rwa [Nat.zero_add] at this
          · cases hj
        · refine (fpVs_part n1 lo n).trans ?_
          rw [obFp_arr (en := s.en w w0.arg β) h3]
          show List.Sublist _ (fp w (.own e3 1 ys) (β k3))
          rw [hβ, fp_own_some, fpEs_vals ys news 0 n1 (fun j u hj => by have := n3 j u hj; rwa [Addr.add_lit] at this)]
          exact List.sublist_cons_self _ _
  obtain ⟨news, n1, n2, n3, n4⟩ := hsrc
  have hmul : (xs.length + ((ys.drop lo).take n).length) * te.bytes ≤ 140737488355328 := Nat.le_trans (Nat.mul_le_mul_right _ (by omega)) hb
  obtain ⟨v', w', r1, r2, r3⟩ := R.append (ty := o.type) hu hty hz.symm h1 hfr n1 n2 n3 (.inr ⟨k3, rfl, hne, ⟨_, h3⟩, n4⟩) (by simp only [maxLen]; omega) hmul
  refine ⟨v', w', _, _, ?_, r3.setTm hlt ?_, h⟩
  · have hx : a.eval x = β k1 := hx
    rw [← hx] at r1
    simp [execOp, ho, resolve, hcc, hargs, hts, invoke, builtin, r1]
  · simp only [FVRel, CRel]
    exact ⟨by simp [St.en, lk_cons_self], by simp [St.en, upd_self], r2⟩

/-- An array leaves an array of arrays: its handle has a name from here on. -/
theorem J.outQ {Q : Exit → Act → World → Prop} {k : List It} {ky K i j e z e' z' : Nat} {xs ys : List (List D)} {E : List D} (hw : w0.ok64) (ho : lk s.ob ky = some (.arr e z xs)) (hE : xs[i]? = some E) (hj : E[j]? = some (.own e' z' ys)) (hf : freshEs ys = true)
    (hKn : lk s.ob K = none) (h64 : 64 ≤ K) (hst : stTm s.tm = true) (hso : stObs [] s.ob = true)
    (h : ∀ c, J P N (w0.named K c) Q k ⟨s.tm, (K, .arr e' z' ys) :: (ky, .arr e z (xs.set i (E.set j (.v c)))) :: s.ob⟩) : J P N w0 Q k s := by
  intro a w β R
  have hf0 : w0.fix K = none := fix_none hw h64
  obtain ⟨c, R'⟩ := R.out ho hE hj hf hKn hst hso
  exact cont_weaken (fun e a w h => h) (fun s a w β h => Rel.unnamed hf0 h) k .normal a w (h c a w _ R')

/-- An element of an array that is a value. -/
theorem OpW.index {Q : Exit → Act → World → Prop} {all : Array Oper} {os : List Oper} {k : List It} {o : Oper} {x y : Operand} {t e d len : Nat} {kd : IntKind} {n : Int} {T : Tab} {ti te : TI} {cs : List C}
    (ho : o.op = .index t x y) (hd : o.dst = some d) (hlt : d < N) (hT : TabOk P T) (hti : lk T t = some ti) (htk : ti.k = .ar len e) (hte : lk T e = some te) (hag : te.k.agg = true)
    (hx : s.opd x = some (.g cs)) (hy : s.opd y = some (.c (.d (.v (.int kd n))))) (hn : 0 ≤ n ∧ n < len)
    (h : J P N w0 Q (.ops all os :: k) ⟨(d, .g ((cs.drop (n.toNat * te.size)).take te.size)) :: s.tm, s.ob⟩) : OpW P N w0 Q all os k s o := by
  have hu := (hT t ti hti).ar htk
  have hty := hT e te hte
  refine OpW.val hd fun a w β R => ?_
  have hx := R.opd hx
  have hy := int_rel (R.opd hy)
  simp only [FVRel] at hx
  obtain ⟨vs, hv, hr⟩ := hx
  have h4 := hty.isAgg w
  rw [hag] at h4
  refine ⟨.agg ((vs.drop (n.toNat * te.size)).take te.size).toArray, w, _, β, ?_, R.setTm hlt ?_, h⟩
  · simp [execOp, ho, Instr.index, hy, hv, asIntOf, run_underlying hu, hn, part, h4, hty.sizeOf]
  · simp only [FVRel]
    exact ⟨_, rfl, (hr.drop _).take _⟩
end Go.Sm

namespace Go.Sm
open Go.RowKit

variable {P : Program} {N : Nat} {w0 : Base} {s : St} {a : Act} {w w' : World} {β : Nat → Value} {X : Nat → Prop} {B M M' : Nat → Prop}

theorem SrcV.of {bs : List UInt8} {c : Value} (h : Rd w w0.arg M (vB bs) c) (hl : ∀ b, w0.arg b → w.heap[b]? = w0.heap[b]?) : SrcV w0 bs c := by
  refine ⟨Rd.one h, ?_⟩
  simp only [Rd] at h ⊢
  rcases h with h | ⟨b, off, cap, h1, h2, _, _, h5, h6⟩
  · exact .inl h
  · have ha := h5 trivial
    refine .inr ⟨b, off, cap, h1, h2, not_false, ha.1, fun _ => ha, ?_⟩
    rw [vB_map] at h6 ⊢
    obtain ⟨i1, i2⟩ := rdEs_cells _ _ h6
    exact rdEs_vals _ _ i2 fun n u hu => by rw [cell_congr (hl b ha).symm]; exact i1 n u hu

/-- A call of a function that makes a source. -/
theorem CallW.newS {Q : Exit → Act → World → Prop} {k : List It} {d f : Nat} {bs : List UInt8} {Post : Int × Int → Prop} (hd : d < N) (hc : CallN P f bs Post) (hfr : lk s.ob (d * 64) = none)
    (hj : ∀ c x', SrcV w0 bs c → Post x' → J P N w0 Q k ⟨(d, .c (.ref (d * 64) 0)) :: s.tm, (d * 64, .var (srcCs c x')) :: s.ob⟩) : CallW P N w0 Q k s d f [.c (.d (vB bs))] := by
  refine ⟨hc.1, fun a w β R vs hv => ?_⟩
  obtain ⟨c, vs', rfl, h1, h2⟩ := hv
  simp only [FVsV] at h2
  subst h2
  simp only [FVRel, CRel] at h1
  have hs : SrcV w0 bs c := SrcV.of h1.2.2 R.low.block
  have hsv : SrcV ⟨w, fun _ => False, fun _ => none⟩ bs c := ⟨hs.1, hs.at R.low.block R.low.size (fun b hb => ⟨Nat.lt_of_lt_of_le hb.1 R.low.size, fun h => h⟩) fun _ h => h.elim⟩
  refine Calls.mono (hc.2 w c hsv) fun e w' ⟨x', hx, g, T', he, hge, hg, hb⟩ => ?_
  refine ⟨_, he, ⟨(d, .c (.ref (d * 64) 0)) :: s.tm, (d * 64, .var (srcCs c x')) :: s.ob⟩, upd β (d * 64) (.pointer (some ⟨g, 0, none⟩)), ?_, hj c x' hs hx⟩
  have hlt : ∀ j b, b ∈ obFp (s.en w w0.arg β) j → b < w.heap.size := fun j b hb => obFp_lt (en := s.en w w0.arg β) (fun o ho => R.ob j o ho) b hb
  have S : Step (s.en w w0.arg β) (St.en ⟨s.tm, (d * 64, .var (srcCs c x')) :: s.ob⟩ w' w0.arg (upd β (d * 64) (.pointer (some ⟨g, 0, none⟩)))) := by
    refine ⟨rfl, ⟨hb.size, fun b hbs _ => hb.block b hbs, ?_⟩, fun j hj => ?_⟩
    · rintro b ⟨j, o', ho, hlv, hbb⟩
      simp only [St.en, lk_cons] at ho hbb
      split at ho
      · rename_i e
        subst e
        rw [upd_self] at hbb
        simp only [blk, Option.some.injEq] at hbb
        subst hbb
        exact .inr hge
      · rename_i e
        rw [upd_ne _ _ (Ne.symm e)] at hbb
        exact .inl ⟨j, o', ho, hlv, hbb⟩
    · have hj' : (lk s.ob j).isSome = true := hj
      have hjn : j ≠ d * 64 := fun e => by rw [e, hfr] at hj'; cases hj'
      refine ⟨?_, upd_ne _ _ hjn⟩
      simp only [St.en, lk_cons]
      rw [if_neg (Ne.symm hjn)]
      exact hj'
  have e1 : lk ((d * 64, Ob.var (srcCs c x')) :: s.ob) (d * 64) = some (.var (srcCs c x')) := lk_cons_self _ _ _
  have f1 : obFp (St.en ⟨s.tm, (d * 64, .var (srcCs c x')) :: s.ob⟩ w' w0.arg (upd β (d * 64) (.pointer (some ⟨g, 0, none⟩)))) (d * 64) = [g] := by
    rw [obFp_var (en := St.en ⟨s.tm, (d * 64, .var (srcCs c x')) :: s.ob⟩ w' w0.arg (upd β (d * 64) (.pointer (some ⟨g, 0, none⟩)))) e1]
    simp only [St.en]
    rw [upd_self]; rfl
  have R' := R.update S (Low.of (hb.mono R.base_le)) [d * 64] (by
      intro j hj
      simp only [List.mem_singleton] at hj
      refine ⟨lk_cons_ne _ _ (Ne.symm hj), fun o ho hl b hbb => hb.block b ?_⟩
      exact hlt j b (R.live_block ho hl hbb)) (by
      intro j hj o' ho
      simp only [List.mem_singleton] at hj
      subst hj
      have := e1.symm.trans ho
      simp only [Option.some.injEq] at this; subst this
      refine ⟨g, srcVs c x', T', ?_, hg, ⟨rfl, hs.1, by simp only [Rd]; exact ⟨trivial, hs.1⟩⟩, ⟨rfl, rfl, by simp only [Rd]; exact ⟨trivial, rfl⟩⟩, ⟨rfl, rfl, by simp only [Rd]; exact ⟨trivial, rfl⟩⟩, trivial⟩
      simp only [St.en]; exact upd_self _ _ _) (by
      intro j hj
      simp only [List.mem_singleton] at hj; subst hj
      rw [f1]; simp) (by
      intro j hj b hbm
      simp only [List.mem_singleton] at hj; subst hj
      rw [f1, List.mem_singleton] at hbm; subst hbm
      refine ⟨.inl (Nat.le_trans R.base_le hge), fun k' hk' h => absurd (hlt k' b h) (by omega), fun k' hk' hne => ?_⟩
      simp only [List.mem_singleton] at hk'; exact absurd hk' hne) R.sz R.df (R.tm_step rfl S)
  refine R'.setTm hd ?_
  simp only [FVRel, CRel]
  exact ⟨by show (lk _ (d * 64)).isSome = true; rw [e1]; rfl, g, upd_self _ _ _, rfl⟩
end Go.Sm

namespace Go.Sm
open Go.RowKit

variable {P : Program} {N : Nat} {w0 : Base} {s : St} {a : Act} {w : World} {β : Nat → Value}

/-- What is told by v may be told by v'. -/
def ConvW (N : Nat) (w0 : Base) (v v' : FV) : Prop := ∀ (s : St) (a : Act) (w : World) (β : Nat → Value), Rel N w0 s a w β → ∀ val, FVRel (s.en w w0.arg β) v val → FVRel (s.en w w0.arg β) v' val
theorem Rel.conv {d : Nat} {v v' : FV} {tm : List (Nat × FV)} {ob : List (Nat × Ob)} (R : Rel N w0 ⟨(d, v) :: tm, ob⟩ a w β) (h : ConvW N w0 v v') : Rel N w0 ⟨(d, v') :: tm, ob⟩ a w β := by
  refine ⟨R.sz, R.df, ?_, R.ob, R.nd, R.dj, R.ge, R.low, R.fx⟩
  intro j g hj
  rw [lk_cons] at hj
  split at hj
  · rename_i e; subst e
    simp only [Option.some.injEq] at hj; subst hj
    exact h _ a w β R _ (R.tm d v (lk_cons_self _ _ _))
  · rename_i e
    exact R.tm j g (by rw [lk_cons_ne _ _ e]; exact hj)
/-- A source's bytes. -/
theorem ConvW.src {bs : List UInt8} {c : Value} (hs : SrcV w0 bs c) : ConvW N w0 (.c (.d (.v c))) (.c (.d (vB bs))) := fun s a w β R val hv => by
  simp only [FVRel, CRel] at hv ⊢
  have hv : val = c := by have := hv.2.2; simp only [Rd] at this; exact this.1
  rw [hv]
  exact ⟨rfl, hs.1, hs.at R.low.block R.low.size (fun _ h => h) fun b hb => mine_not_arg (R.M_mine hb)⟩

def drV (cv : List (Nat × FV)) (F : Fn) (w0 : Base) (Q : Exit → Act → World → Prop) (all : Array Oper) (k : List It) (m : Nat) : List (List Nat) → Nat → List Oper → St → Prop
  | _, _, [], s => J F.P F.N w0 Q (.ops all (all.toList.drop m) :: k) s
  | [], _, _ :: _, _ => False
  | b :: bs, i, o :: os, s =>
    let go (s : St) : Prop := match o.dst with
      | some d => Nat.blt d F.N = true ∧ match ev F.T F.E (opdB b s) (obB b s) (d * 64) o.type o.op with
        | .q p v ns => p ∧ freshOs s.ob ns = true ∧ nsOk d ns = true ∧ (match lk cv i with
            | none => drV cv F w0 Q all k m bs (i + 1) os ⟨(d, v) :: s.tm, ns ++ s.ob⟩
            | some v' => ConvW F.N w0 v v' ∧ drV cv F w0 Q all k m bs (i + 1) os ⟨(d, v') :: s.tm, ns ++ s.ob⟩)
        | .el xs j => (0 ≤ j ∧ j < xs.length) ∧ Later (∀ e, xs[j.toNat]? = some e → drV cv F w0 Q all k m bs (i + 1) os ⟨(d, .c (.rd e)) :: s.tm, s.ob⟩)
        | .ld xs j j' size agg => j < xs.length ∧ Later (∀ e, xs[j]? = some e → match lk cv i with
            | none => drV cv F w0 Q all k m bs (i + 1) os ⟨(d, ldV e j' size agg) :: s.tm, s.ob⟩
            | some v' => ConvW F.N w0 (ldV e j' size agg) v' ∧ drV cv F w0 Q all k m bs (i + 1) os ⟨(d, v') :: s.tm, s.ob⟩)
        | .call f fs => DrC F w0 Q all k m bs (i + 1) os s b d f fs
        | _ => False
      | none => False
    match o.guard with
    | none => go s
    | some (j, want) => match (all[j]?).bind (·.dst), o.dst with
      | some d, some d' => Nat.blt d' F.N = true ∧ match tmB b s d with
        | some (.c (.d (.v (.bool x)))) => br x want (go ⟨(d, .c (.d (.v (.bool want)))) :: s.tm, s.ob⟩)
            (drV cv F w0 Q all k m bs (i + 1) os ⟨(d', .und) :: (d, .c (.d (.v (.bool (!want))))) :: s.tm, s.ob⟩)
        | some .und => drV cv F w0 Q all k m bs (i + 1) os ⟨(d', .und) :: s.tm, s.ob⟩
        | _ => False
      | _, _ => False


theorem drV_sound {cv : List (Nat × FV)} {F : Fn} (hF : FnOk F) {Q : Exit → Act → World → Prop} {all : Array Oper} {k : List It} {m : Nat} : ∀ {os : List Oper} {bs : List (List Nat)} {i : Nat} {s : St}, (∀ j o, os[j]? = some o → all[i + j]? = some o) →
    drV cv F w0 Q all k m bs i os s → DrS F w0 Q all k m bs i os s
  | [], bs, i, s, _, h => by
    have h : J F.P F.N w0 Q (.ops all (all.toList.drop m) :: k) s := by cases bs <;> simpa only [drV] using h
    have h' : J F.P F.N w0 (cont F.P F.N w0 Q k) [.ops all (all.toList.drop m)] s := by
      intro a w β R
      have := h a w β R
      simp only [cont] at this ⊢
      exact this
    cases bs <;> simpa only [DrS] using h'
  | o :: os, [], i, s, _, h => by simp only [drV] at h
  | o :: os, b :: bs, i, s, hall, h => by
    have hi : all[i]? = some o := by simpa using hall 0 o rfl
    have hall' : ∀ j o, os[j]? = some o → all[i + 1 + j]? = some o := fun j o' h => by
      rw [show i + 1 + j = i + (j + 1) by omega]; exact hall (j + 1) o' (by simpa using h)
    -- one operation that is carried out, in the state s'
    have go : ∀ {s' : St}, (∀ {v : FV} {ns : List (Nat × Ob)} {d : Nat}, o.dst = some d → (∀ s a w β (K : Act → World → Prop), Rel F.N w0 s a w β → Le (lk (cut b s').tm) (lk s.tm) → Le (lk (cut b s').ob) (lk s.ob) → freshOs s.ob ns = true →
          (∀ a' w' β', Rel F.N w0 ⟨(d, v) :: s.tm, ns ++ s.ob⟩ a' w' β' → K a' w') → o.wp F.P a w K (cont F.P F.N w0 Q k)) → GoodOp F w0 (cont F.P F.N w0 Q k) all i (cut b s') d v ns) →
        (match o.dst with
      | some d => Nat.blt d F.N = true ∧ match ev F.T F.E (cut b s').opd (lk (cut b s').ob) (d * 64) o.type o.op with
        | .q p v ns => p ∧ freshOs s'.ob ns = true ∧ nsOk d ns = true ∧ (match lk cv i with
            | none => drV cv F w0 Q all k m bs (i + 1) os ⟨(d, v) :: s'.tm, ns ++ s'.ob⟩
            | some v' => ConvW F.N w0 v v' ∧ drV cv F w0 Q all k m bs (i + 1) os ⟨(d, v') :: s'.tm, ns ++ s'.ob⟩)
        | .el xs j => (0 ≤ j ∧ j < xs.length) ∧ (∀ e, xs[j.toNat]? = some e → drV cv F w0 Q all k m bs (i + 1) os ⟨(d, .c (.rd e)) :: s'.tm, s'.ob⟩)
        | .ld xs j j' size agg => j < xs.length ∧ (∀ e, xs[j]? = some e → match lk cv i with
            | none => drV cv F w0 Q all k m bs (i + 1) os ⟨(d, ldV e j' size agg) :: s'.tm, s'.ob⟩
            | some v' => ConvW F.N w0 (ldV e j' size agg) v' ∧ drV cv F w0 Q all k m bs (i + 1) os ⟨(d, v') :: s'.tm, s'.ob⟩)
        | .call f fs => DrC F w0 Q all k m bs (i + 1) os s' b d f fs
        | _ => False
      | none => False) → DrS F w0 Q all k m (b :: bs) i (o :: os) s' := by
      intro s' hgood h
      cases hd : o.dst with
      | none => rw [hd] at h; exact h.elim
      | some d =>
        rw [hd] at h
        obtain ⟨hlt, h⟩ := h
        have hlt : d < F.N := by simpa [Nat.blt_eq] using hlt
        simp only [DrS]
        split at h
        · rename_i p v ns he
          obtain ⟨hp, hf, hn, h⟩ := h
          split at h
          · exact ⟨d, v, ns, hd, hlt, hf, hn, hgood hd fun s a w β K R l1 l2 f n => core hF hd hlt he (.inl ⟨p, rfl, hp⟩) R l1 l2 f n, drV_sound hF hall' h⟩
          · rename_i v' _
            obtain ⟨hcv, h⟩ := h
            exact ⟨d, v', ns, hd, hlt, hf, hn, hgood hd fun s a w β K R l1 l2 f n => core hF hd hlt he (.inl ⟨p, rfl, hp⟩) R l1 l2 f fun a' w' β' R' => n a' w' β' (R'.conv hcv), drV_sound hF hall' h⟩
        · rename_i xs j he
          obtain ⟨hj, h⟩ := h
          have hx : xs[j.toNat]? = some (xs[j.toNat]'(by omega)) := by simp
          exact ⟨d, _, [], hd, hlt, rfl, nsOk_nil d, hgood hd fun s a w β K R l1 l2 f n => core hF hd hlt he (.inr (.inl ⟨xs, j, _, rfl, hj, hx, rfl, rfl⟩)) R l1 l2 f n, drV_sound hF hall' (h _ hx)⟩
        · rename_i xs j j' size agg he
          obtain ⟨hj, h⟩ := h
          have hx : xs[j]? = some (xs[j]'hj) := by simp
          have h := h _ hx
          split at h
          · exact ⟨d, _, [], hd, hlt, rfl, nsOk_nil d, hgood hd fun s a w β K R l1 l2 f n => core hF hd hlt he (.inr (.inr (.inl ⟨xs, j, j', size, agg, _, rfl, hx, rfl, rfl⟩))) R l1 l2 f n, drV_sound hF hall' h⟩
          · rename_i v' _
            obtain ⟨hcv, h⟩ := h
            exact ⟨d, v', [], hd, hlt, rfl, nsOk_nil d, hgood hd fun s a w β K R l1 l2 f n => core hF hd hlt he (.inr (.inr (.inl ⟨xs, j, j', size, agg, _, rfl, hx, rfl, rfl⟩))) R l1 l2 f fun a' w' β' R' => n a' w' β' (R'.conv hcv), drV_sound hF hall' h⟩
        · rename_i f fs he
          obtain ⟨args, q, g1, g2, g3, g4, g5⟩ := h
          rw [← obB_eq] at g1
          exact ⟨d, _, _, hd, hlt, g3, g4, hgood hd fun s a w β K R l1 l2 f n => core hF hd hlt he (.inr (.inr (.inr ⟨_, _, args, q, rfl, g1, g2, rfl, rfl⟩))) R l1 l2 f n, g5⟩
        · exact h.elim
    simp only [drV, ← opdB_eq, ← obB_eq, ← tmB_eq] at h
    cases hg : o.guard with
    | none =>
      rw [hg] at h
      refine go (fun {v ns d} hd hc => ?_) h
      intro s2 a w β K R l1 l2 fr nx
      have hw : Region.wanted o (yielded all a.tmps) = true := by simp [Region.wanted, hg]
      simp only [wpOp, hi, if_pos hw]
      exact .inl (hc s2 a w β K R l1 l2 fr nx)
    | some g =>
      obtain ⟨j, want⟩ := g
      rw [hg] at h
      simp only at h
      split at h
      · rename_i dj d' hj hd'
        obtain ⟨hlt, h⟩ := h
        have hlt : d' < F.N := by simpa [Nat.blt_eq] using hlt
        have ext1 : ∀ {x : Bool}, lk (cut b s).tm dj = some (.c (.d (.v (.bool x)))) → ∀ t, lk s.tm t = lk ((dj, FV.c (.d (.v (.bool x)))) :: s.tm) t := by
          intro x hx t
          rw [lk_cut_tm] at hx
          split at hx
          · rw [lk_cons]
            split
            · rename_i e; rw [← e]; exact hx
            · rfl
          · cases hx
        have wantd : ∀ {x : Bool} {s2 : St} {a : Act} {w : World} {β : Nat → Value}, lk (cut b s).tm dj = some (.c (.d (.v (.bool x)))) → Rel F.N w0 s2 a w β → Le (lk (cut b s).tm) (lk s2.tm) →
            Region.wanted o (yielded all a.tmps) = (x == want) := by
          intro x s2 a w β hx R l
          have hv := bool_rel (R.tm dj _ (l _ _ hx))
          have hy := yielded_bool hj hv
          simp only [Region.wanted, hg, hy]
          cases x <;> cases want <;> rfl
        split at h
        · rename_i x hx
          have lecut : ∀ {c : Bool}, x = c → ∀ t, lk (cut b ⟨(dj, .c (.d (.v (.bool c)))) :: s.tm, s.ob⟩).tm t = lk (cut b s).tm t := by
            intro c e t
            rw [lk_cut_tm, lk_cut_tm, ← e]
            split
            · exact (ext1 hx t).symm
            · rfl
          by_cases hxw : x = want
          · have := go (s' := ⟨(dj, .c (.d (.v (.bool want)))) :: s.tm, s.ob⟩) (fun {v ns d} hd hc => ?_) (h.1 hxw)
            · have e1 := ext1 hx
              rw [hxw] at e1
              exact @DrS.ext w0 F Q all k m (o :: os) (b :: bs) i ⟨(dj, .c (.d (.v (.bool want)))) :: s.tm, s.ob⟩ s e1 (fun _ => rfl) this
            · intro s2 a w β K R l1 l2 fr nx
              have l1' : Le (lk (cut b s).tm) (lk s2.tm) := fun t f ht => l1 t f (by rw [lecut hxw]; exact ht)
              have hw := wantd hx R l1'
              rw [hxw] at hw
              simp only [wpOp, hi]
              rw [if_pos (by rw [hw]; cases want <;> rfl)]
              exact .inl (hc s2 a w β K R l1 l2 fr nx)
          · have hxn : x = (!want) := by cases x <;> cases want <;> first | rfl | exact absurd rfl hxw
            have h2 := drV_sound hF hall' (h.2 hxn)
            simp only [DrS]
            refine ⟨d', .und, [], hd', hlt, rfl, nsOk_nil d', ?_, @DrS.ext w0 F Q all k m os bs (i + 1) ⟨(d', .und) :: (dj, .c (.d (.v (.bool (!want))))) :: s.tm, s.ob⟩ ⟨(d', .und) :: s.tm, s.ob⟩ (fun t => ?_) (fun _ => rfl) h2⟩
            · intro s2 a w β K R l1 l2 fr nx
              have hw := wantd hx R l1
              simp only [wpOp, hi]
              rw [if_neg (by rw [hw, hxn]; cases want <;> simp), hd']
              exact nx _ _ _ (R.setTm hlt (by simp only [FVRel]))
            · simp only [lk_cons]
              split
              · rfl
              · have := ext1 hx t
                rw [hxn, lk_cons] at this
                exact this
        · rename_i hx
          have h2 := drV_sound hF hall' h
          simp only [DrS]
          refine ⟨d', .und, [], hd', hlt, rfl, nsOk_nil d', ?_, h2⟩
          intro s2 a w β K R l1 l2 fr nx
          have hv := R.tm dj _ (l1 _ _ hx)
          simp only [FVRel] at hv
          have hy := yielded_undef hj hv
          simp only [wpOp, hi]
          rw [if_neg (by simp [Region.wanted, hg, hy]), hd']
          exact nx _ _ _ (R.setTm hlt (by simp only [FVRel]))
        · exact h.elim
      · exact h.elim


theorem J.drV (cv : List (Nat × FV)) {F : Fn} (hF : FnOk F) {Q : Exit → Act → World → Prop} {id : Nat} {ops : Array Oper} {k : List It} (hmix : F.P.follows .mixedOrders = true) (m : Nat) (rows bs : List (List Nat)) (hok : drawOk ops.toList m rows bs = true)
    (h : drV cv F w0 Q ops k m bs 0 (ops.toList.take m) s) : J F.P F.N w0 Q (.code (.region id ops true) :: k) s := by
  refine J.draw hmix m rows bs hok (drV_sound hF (fun j o ho => ?_) h)
  rw [List.getElem?_take] at ho
  split at ho
  · simpa using ho
  · cases ho

attribute [simp] drV
end Go.Sm
