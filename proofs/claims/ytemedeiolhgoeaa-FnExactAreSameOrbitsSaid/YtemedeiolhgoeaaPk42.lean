/- Towards the rows of this seat: what the functions do, as contracts over plain data. -/
import Derived.Test.YtemedeiolhgoeaaPk19
import Derived.Test.YtemedeiolhgoeaaPk8
namespace Go.Sm
open Go.RowKit

variable {P : Program} {N : Nat} {w0 : Base} {s : St} {a : Act} {w : World} {β : Nat → Value}

theorem rdEs_vals {w : World} {B M : Nat → Prop} {b : Nat} : ∀ (us : List Value) (off : Nat), (∀ u ∈ us, u.oneCell' = true) → (∀ n u, us[n]? = some u → w.cell? ⟨b, off + n, none⟩ = some u) → RdEs w B M 1 (us.map fun u => [D.v u]) b off
  | [], _, _, _ => by simp [RdEs]
  | u :: us, off, h1, h => by
    simp only [List.map_cons, RdEs, RdCs, Rd]
    refine ⟨rfl, ⟨⟨u, by simpa using h 0 u rfl, rfl, h1 u (by simp)⟩, trivial⟩, rdEs_vals us (off + 1) (fun x hx => h1 x (by simp [hx])) fun n x hx => ?_⟩
    have := h (n + 1) x (by simpa using hx)
    rw [show off + 1 + n = off + (n + 1) by omega]; exact this
theorem fpEs_sing (w : World) (b : Nat) : ∀ (us : List Value) (off : Nat), fpEs w 1 (us.map fun u => [D.v u]) b off = []
  | [], _ => by simp [fpEs]
  | u :: us, off => by simp [fpEs, fpCs, fp, fpEs_sing w b us]
theorem csRel_vals {en : En} : ∀ {us : List Value} {vs : List Value}, CsRel en ((us.map D.v).map C.d) vs → vs = us ∧ ∀ u ∈ us, u.oneCell' = true
  | [], [], _ => ⟨rfl, by simp⟩
  | [], _ :: _, h => h.elim
  | _ :: _, [], h => h.elim
  | u :: us, v :: vs, h => by
    simp only [List.map_cons, CsRel, CRel, Rd] at h
    obtain ⟨h1, h2⟩ := csRel_vals (us := us) (vs := vs) h.2
    refine ⟨by rw [h.1.2.2.1, h1], fun x hx => ?_⟩
    rcases List.mem_cons.1 hx with rfl | hx
    · exact h.1.2.2.2
    · exact h2 x hx

/-- A variable of plain values becomes an array of one's own, the slot a place in it. -/
theorem Rel.varArr (R : Rel N w0 s a w β) {d K K' : Nat} {us : List Value} (hK : lk s.ob K = some (.var ((us.map D.v).map C.d))) (hK' : lk s.ob K' = none) (hl : us.length ≤ maxLen)
    (hd : lk s.tm d = some (.c (.ref K 0))) : ∃ e β', Rel N w0 ⟨(d, .c (.re K' 1 0 0)) :: s.tm, (K', .arr e 1 (us.map fun u => [D.v u])) :: (K, .dead) :: s.ob⟩ a w β' := by
  have hv := R.tm d _ hd
  have hr := R.ob K _ hK
  simp only [ObRel] at hr
  obtain ⟨g, cur, T, q1, q2, q3⟩ := hr
  have q1 : β K = .pointer (some ⟨g, 0, none⟩) := q1
  obtain ⟨q4, q5⟩ := csRel_vals q3
  have hne : K' ≠ K := fun e => by rw [e, hK] at hK'; cases hK'
  have hb : blk (β K) = some g := by rw [q1]; rfl
  have S : Step (s.en w w0.arg β) (St.en ⟨s.tm, (K', .arr T 1 (us.map fun u => [D.v u])) :: (K, .dead) :: s.ob⟩ w w0.arg (upd β K' (.slice (some ⟨g, 0, none⟩) us.length us.length))) := by
    refine ⟨rfl, ⟨Nat.le_refl _, fun _ _ _ => rfl, ?_⟩, fun j hj => ?_⟩
    · rintro b ⟨j, o', ho, hlv, hbb⟩
      simp only [St.en, lk_cons] at ho hbb
      split at ho
      · rename_i e
        subst e
        rw [upd_self] at hbb
        simp only [blk, Option.some.injEq] at hbb
        subst hbb
        exact .inl ⟨K, _, hK, rfl, hb⟩
      · rename_i e
        split at ho
        · simp only [Option.some.injEq] at ho; subst ho; simp [Ob.live] at hlv
        · rw [upd_ne _ _ (Ne.symm e)] at hbb
          exact .inl ⟨j, o', ho, hlv, hbb⟩
    · have hj' : (lk s.ob j).isSome = true := hj
      have hjn : j ≠ K' := fun e => by rw [e, hK'] at hj'; cases hj'
      refine ⟨?_, upd_ne _ _ hjn⟩
      simp only [St.en, lk_cons]
      rw [if_neg (Ne.symm hjn)]
      split
      · rfl
      · exact hj'
  have hgK : g ∈ obFp (s.en w w0.arg β) K := by rw [obFp_var (en := s.en w w0.arg β) hK]; simp [St.en, hb]
  have e1 : lk ((K', Ob.arr T 1 (us.map fun u => [D.v u])) :: (K, .dead) :: s.ob) K' = some (.arr T 1 (us.map fun u => [D.v u])) := lk_cons_self _ _ _
  have e2 : lk ((K', Ob.arr T 1 (us.map fun u => [D.v u])) :: (K, .dead) :: s.ob) K = some .dead := by rw [lk_cons_ne _ _ hne, lk_cons_self]
  have f1 : obFp (St.en ⟨s.tm, (K', .arr T 1 (us.map fun u => [D.v u])) :: (K, .dead) :: s.ob⟩ w w0.arg (upd β K' (.slice (some ⟨g, 0, none⟩) us.length us.length))) K' = [g] := by
    rw [obFp_arr (en := St.en ⟨s.tm, (K', .arr T 1 (us.map fun u => [D.v u])) :: (K, .dead) :: s.ob⟩ w w0.arg (upd β K' (.slice (some ⟨g, 0, none⟩) us.length us.length))) e1]
    simp only [St.en]
    rw [upd_self, fp_own_some, fpEs_sing]
  have f2 : obFp (St.en ⟨s.tm, (K', .arr T 1 (us.map fun u => [D.v u])) :: (K, .dead) :: s.ob⟩ w w0.arg (upd β K' (.slice (some ⟨g, 0, none⟩) us.length us.length))) K = [] := obFp_dead (en := St.en ⟨s.tm, (K', .arr T 1 (us.map fun u => [D.v u])) :: (K, .dead) :: s.ob⟩ w w0.arg (upd β K' (.slice (some ⟨g, 0, none⟩) us.length us.length))) e2
  have R' := R.update S (Low.refl _ _) [K', K] (by
      intro j hj
      simp only [List.mem_cons, List.not_mem_nil, or_false, not_or] at hj
      refine ⟨?_, fun _ _ _ _ _ => rfl⟩
      show lk ((K', _) :: (K, _) :: s.ob) j = _
      rw [lk_cons_ne _ _ (Ne.symm hj.1), lk_cons_ne _ _ (Ne.symm hj.2)]) (by
      intro j hj o' ho
      simp only [List.mem_cons, List.not_mem_nil, or_false] at hj
      rcases hj with rfl | rfl
      · have := e1.symm.trans ho
        simp only [Option.some.injEq] at this; subst this
        simp only [ObRel, OwnRel, St.en]
        refine .inr ⟨g, us.length, cur, by rw [upd_self, List.length_map], by rw [List.length_map]; exact Nat.le_refl _, q2, hl, by rw [← q4]; simp, ?_⟩
        refine rdEs_vals us 0 q5 fun n u hu => ?_
        rw [Nat.zero_add, cell_of_row w g n cur T (0, 0) q2, ← hu, ← q4]; simp
      · have := e2.symm.trans ho
        simp only [Option.some.injEq] at this; subst this; trivial) (by
      intro j hj
      simp only [List.mem_cons, List.not_mem_nil, or_false] at hj
      rcases hj with rfl | rfl
      · rw [f1]; simp
      · rw [f2]; exact List.nodup_nil) (by
      intro j hj b hbm
      simp only [List.mem_cons, List.not_mem_nil, or_false] at hj
      rcases hj with rfl | rfl
      · rw [f1, List.mem_singleton] at hbm; subst hbm
        refine ⟨R.ge K b hgK, fun k' hk' => ?_, fun k' hk' hne' => ?_⟩
        · simp only [List.mem_cons, List.not_mem_nil, or_false, not_or] at hk'
          exact R.dj K k' (Ne.symm hk'.2) b hgK
        · simp only [List.mem_cons, List.not_mem_nil, or_false] at hk'
          rcases hk' with rfl | rfl
          · exact absurd rfl hne'
          · rw [f2]; simp
      · rw [f2] at hbm; cases hbm) R.sz R.df (R.tm_step rfl S)
  refine ⟨T, _, R'.retm (s := ⟨s.tm, (K', .arr T 1 (us.map fun u => [D.v u])) :: (K, .dead) :: s.ob⟩) ?_⟩
  simp only [FVRel, CRel] at hv ⊢
  obtain ⟨_, g', h2, h3⟩ := hv
  have h2' : β K = .pointer (some ⟨g', 0, none⟩) := h2
  rw [q1] at h2'
  simp only [Value.pointer.injEq, Option.some.injEq, Addr.mk.injEq, and_true] at h2'
  subst h2'
  refine ⟨by show (lk _ K').isSome = true; rw [e1]; rfl, g, us.length, us.length, ?_, ?_⟩
  · simp only [St.en]; exact upd_self _ _ _
  · rw [h3]

/-- The array variable's slice. -/
theorem OpW.varSlice {Q : Exit → Act → World → Prop} {all : Array Oper} {os : List Oper} {k : List It} {o : Oper} {t d d0 K K' el len : Nat} {T : Tab} {ti te : TI} {us : List Value} (ho : o.op = .slice t (.tmp d0) none none none) (hd : o.dst = some d) (hlt : d < N)
    (hT : TabOk P T) (hti : lk T t = some ti) (htk : ti.k = .ar len el) (hte : lk T el = some te) (hl1 : 1 ≤ len) (hxl : us.length = len) (hlm : len ≤ maxLen)
    (hK : lk s.ob K = some (.var ((us.map D.v).map C.d))) (hK' : lk s.ob K' = none) (hx : lk s.tm d0 = some (.c (.ref K 0)))
    (h : ∀ e, J P N w0 Q (.ops all os :: k) ⟨(d, .c (.win K' 1 0 len)) :: (d0, .c (.re K' 1 0 0)) :: s.tm, (K', .arr e 1 (us.map fun u => [D.v u])) :: (K, .dead) :: s.ob⟩) : OpW P N w0 Q all os k s o := by
  have hu := (hT t ti hti).ar htk
  have hs := fun w => (hT el te hte).sizeOf w
  refine OpW.val hd fun a w β R => ?_
  obtain ⟨e, β', R'⟩ := R.varArr hK hK' (by omega) hx
  have hv := R'.tm d0 _ (lk_cons_self _ _ _)
  have hK2 : lk (St.ob ⟨(d0, FV.c (.re K' 1 0 0)) :: s.tm, (K', .arr e 1 (us.map fun u => [D.v u])) :: (K, .dead) :: s.ob⟩) K' = some (.arr e 1 (us.map fun u => [D.v u])) := lk_cons_self _ _ _
  have hr := R'.ob K' _ hK2
  simp only [FVRel, CRel] at hv
  obtain ⟨h1, g, M, cap, h2, h3⟩ := hv
  have h2 : β' K' = .slice (some ⟨g, 0, none⟩) M cap := h2
  have he' : a.eval (.tmp d0) = .pointer (some ⟨g, 0, none⟩) := h3
  have hr : OwnRel w w0.arg (St.en ⟨(d0, FV.c (.re K' 1 0 0)) :: s.tm, (K', .arr e 1 (us.map fun u => [D.v u])) :: (K, .dead) :: s.ob⟩ w w0.arg β').M e 1 (us.map fun u => [D.v u]) (β' K') := hr
  have hM : M = us.length := by
    rcases hr with ⟨_, h0⟩ | ⟨b, cap2, cur, r1, _⟩
    · rw [h2] at h0; cases h0
    · rw [h2, List.length_map] at r1
      simp only [Value.slice.injEq] at r1
      exact r1.2.1
  have hne : ¬ len = 0 := by omega
  refine ⟨.slice (some ⟨g, 0, none⟩) len len, w, _, β', ?_, R'.setTm hlt ?_, h e⟩
  · simp [execOp, ho, Instr.sliceAt, run_underlying hu, Instr.sureAddr, Instr.sliceBounds, he', hs, Addr.add_lit, hne]
  · simp only [FVRel, CRel]
    exact ⟨h1, .inr ⟨g, M, cap, 0, len, h2, rfl, .inr (by omega), by omega, Nat.le_refl _⟩⟩

/-- An array of one's own as a part of it: it is lent to a call that takes others over. -/
theorem J.obWin {Q : Exit → Act → World → Prop} {k : List It} {d K e z : Nat} {xs : List (List D)} (hK : lk s.ob K = some (.arr e z xs)) (hd : lk s.tm d = some (.c (.ob K)))
    (h : J P N w0 Q k ⟨(d, .c (.win K z 0 xs.length)) :: s.tm, s.ob⟩) : J P N w0 Q k s := by
  intro a w β R
  have hv := R.tm d _ hd
  refine h a w β (R.retm ?_)
  simp only [FVRel, CRel] at hv ⊢
  obtain ⟨h1, h2, h3⟩ := hv
  refine ⟨h1, ?_⟩
  have hr : OwnRel w w0.arg (s.en w w0.arg β).M e z xs (β K) := R.ob K _ hK
  have h2 : a.tmps.getD d undef = β K := h2
  rcases hr with ⟨rfl, h0⟩ | ⟨b, cap, cur, r1, r2, _⟩
  · exact .inl ⟨h0, rfl, h2.trans h0⟩
  · exact .inr ⟨b, xs.length, cap, 0, cap, r1, h2.trans r1, .inr (by omega), by omega, r2⟩

/-- A place in an array that nobody changes any more: what is read there. -/
theorem J.freezeRe {Q : Exit → Act → World → Prop} {k : List It} {d K e : Nat} {us : List Value} (hus : us ≠ []) (hK : lk s.ob K = some (.arr e 1 (us.map fun u => [D.v u]))) (hd : lk s.tm d = some (.c (.re K 1 0 0)))
    (h : J P N w0 Q k ⟨(d, .c (.rd (us.map D.v))) :: s.tm, (K, .dead) :: s.ob⟩) : J P N w0 Q k s := by
  intro a w β R
  have hv := R.tm d _ hd
  refine h a w β ((R.kill hK).retm (s := ⟨s.tm, (K, .dead) :: s.ob⟩) ?_)
  simp only [FVRel, CRel] at hv ⊢
  obtain ⟨_, g, M, cap, h2, h3⟩ := hv
  have h2 : β K = .slice (some ⟨g, 0, none⟩) M cap := h2
  rcases R.kill_view hK with ⟨h0, _⟩ | ⟨b, cap2, r1, r2, r3, r4, r5⟩
  · exact absurd (List.map_eq_nil_iff.1 h0) hus
  · rw [h2] at r1
    simp only [Value.slice.injEq, Option.some.injEq, Addr.mk.injEq] at r1
    obtain ⟨⟨rfl, _⟩, _, _⟩ := r1
    refine ⟨g, 0, by rw [h3], r3, r4, ?_⟩
    have key : ∀ (us : List Value) (off : Nat), RdEs w w0.arg (St.en ⟨s.tm, (K, .dead) :: s.ob⟩ w w0.arg β).M 1 (locEs (us.map fun u => [D.v u])) g off → RdCs w w0.arg (St.en ⟨s.tm, (K, .dead) :: s.ob⟩ w w0.arg β).M (us.map D.v) g off := by
      intro us
      induction us with
      | nil => intro off _; simp [RdCs]
      | cons u us ih =>
        intro off hr
        simp only [List.map_cons, locEs, locCs, D.loc, RdEs, RdCs] at hr ⊢
        exact ⟨hr.2.1.1, ih _ hr.2.2⟩
    exact key us 0 r5
end Go.Sm

namespace Go.Sm
open Go.RowKit

variable {P : Program} {N : Nat} {w0 : Base} {s : St} {a : Act} {w w' : World} {β : Nat → Value} {X : Nat → Prop} {B M M' : Nat → Prop}

def argLC (ks : List Nat) (ob : Nat → Option Ob) : C → Option D
  | .d x => match stA x with
    | true => some x
    | false => none
  | .ob k => match ob k, ks.elem k with
    | some (.arr e z xs), true => match freshEs xs with
      | true => some (.own e z xs)
      | false => none
    | _, _ => none
  | .win k z 0 n => match ob k, ks.elem k with
    | some (.arr _ z' xs), false => match Nat.beq z z' && Nat.beq n xs.length && stAEs xs with
      | true => some (.vw true z xs)
      | false => none
    | _, _ => none
  | _ => none
def argLCs (ks : List Nat) (ob : Nat → Option Ob) : List C → Option (List D)
  | [] => some []
  | c :: cs => match argLC ks ob c, argLCs ks ob cs with
    | some d, some ds => some (d :: ds)
    | _, _ => none
def argLF (ks : List Nat) (ob : Nat → Option Ob) : FV → Option RV
  | .c x => match argLC ks ob x with
    | some d => some (.one d)
    | none => none
  | .g xs => match argLCs ks ob xs with
    | some ds => some (.agg ds)
    | none => none
  | _ => none
def argsL (ks : List Nat) (ob : Nat → Option Ob) : List FV → Option (List RV)
  | [] => some []
  | f :: r => match argLF ks ob f, argsL ks ob r with
    | some d, some ds => some (d :: ds)
    | _, _ => none
theorem argLC_sound (R : Rel N w0 s a w β) {ks : List Nat} (hcl : ∀ b, XOf (s.en w w0.arg β) ks b → ∃ cur e, w.heap[b]? = some (.cells cur e (0, 0))) {c : C} {d : D} {v : Value} (h : argLC ks (lk s.ob) c = some d) (hv : CRel (s.en w w0.arg β) c v) :
    ArgX w (XOf (s.en w w0.arg β) ks) d v ∧ fp w d v = (keyC c).flatMap (obFp (s.en w w0.arg β)) ∧ (∀ e z xs, d = .own e z xs → ∃ k, c = .ob k ∧ v = β k) := by
  have hA : ∀ {x : D}, stA x = true → Rd w w0.arg (s.en w w0.arg β).M x v → Rd w (fun b => Old w b ∧ ¬ XOf (s.en w w0.arg β) ks b) (XOf (s.en w w0.arg β) ks) x v :=
    fun {x} hs hr => Rd.argA (fun b hb hX => arg_not_mine hb (XOf.mine R hX)) hcl x v hs hr
  unfold argLC at h
  split at h
  · rename_i x
    split at h
    · rename_i hs
      simp only [Option.some.injEq] at h; subst h
      have hr := hA hs hv.2.2
      cases x with
      | own e z xs => simp [stA] at hs
      | v y => exact ⟨hr, by simp [fp, keyC], fun _ _ _ h => by cases h⟩
      | vw b z xs => exact ⟨hr, by simp [fp, keyC], fun _ _ _ h => by cases h⟩
      | mp es => exact ⟨hr, by simp [fp, keyC], fun _ _ _ h => by cases h⟩
    · cases h
  · rename_i k
    split at h
    · rename_i e z xs hob hel
      split at h
      · rename_i hf
        simp only [Option.some.injEq] at h; subst h
        obtain ⟨_, rfl, _⟩ := hv
        have hr : OwnRel w w0.arg (s.en w w0.arg β).M e z xs (β k) := R.ob k _ hob
        have hfp := obFp_arr (en := s.en w w0.arg β) hob
        refine ⟨⟨?_, hf, fun b hb => ⟨k, elem_iff.1 hel, by rw [hfp]; exact hb⟩⟩, ?_, fun _ _ _ _ => ⟨k, rfl, rfl⟩⟩
        · show Rd w _ _ _ (β k)
          simp only [Rd]
          rcases hr with hr | ⟨b, cap, cur, h1, h2, h3, h4, h5, h6⟩
          · exact .inl hr
          · exact .inr ⟨b, cap, cur, h1, h2, not_false, h3, h4, h5, RdEs.free xs 0 hf h6 fun _ _ => not_false⟩
        · simp only [keyC, List.flatMap_cons, List.flatMap_nil, List.append_nil]
          exact hfp.symm
      · cases h
    · cases h
  · rename_i k z n
    split at h
    · rename_i e z' xs hob hel
      split at h
      · rename_i hf
        simp only [Bool.and_eq_true] at hf
        obtain ⟨⟨hz, hn⟩, hs⟩ := hf
        obtain rfl := nat_beq hz
        obtain rfl := nat_beq hn
        simp only [Option.some.injEq] at h; subst h
        simp only [CRel] at hv
        have hr : OwnRel w w0.arg (s.en w w0.arg β).M e z xs (β k) := R.ob k _ hob
        have hfp : (keyC (C.win k z 0 xs.length)).flatMap (obFp (s.en w w0.arg β)) = [] := rfl
        refine ⟨?_, by rw [hfp]; simp only [fp], fun _ _ _ h => by cases h⟩
        show Rd w _ _ _ v
        simp only [Rd]
        rcases hv.2 with ⟨_, h0, h1⟩ | ⟨g, N, cap, off, c', q1, q2, q3, q4, q5⟩
        · exact .inl ⟨List.eq_nil_of_length_eq_zero h0, none, 0, by rw [h1], fun _ => rfl⟩
        · by_cases hn0 : xs.length = 0
          · exact .inl ⟨List.eq_nil_of_length_eq_zero hn0, some ⟨g, off, none⟩, c', by rw [q2, hn0], fun h => (nomatch h)⟩
          · have hoff : off = 0 := by have := q3.resolve_left hn0; omega
            have q1' : β k = .slice (some ⟨g, 0, none⟩) N cap := q1
            rcases hr with ⟨rfl, h⟩ | ⟨b, cap2, cur, r1, r2, r3, r4, r5, r6⟩
            · simp at hn0
            · rw [q1'] at r1
              simp only [Value.slice.injEq, Option.some.injEq, Addr.mk.injEq] at r1
              obtain ⟨⟨rfl, _⟩, _, _⟩ := r1
              have hgk : g ∈ obFp (s.en w w0.arg β) k := by
                rw [obFp_arr (en := s.en w w0.arg β) hob]
                show g ∈ fp w _ (β k)
                rw [q1', fp_own_some]; simp
              have hX : ¬ XOf (s.en w w0.arg β) ks g := by
                rintro ⟨k', hk', hb'⟩
                have hne : k ≠ k' := fun e => by rw [← e, ← elem_iff, hel] at hk'; cases hk'
                exact R.dj k k' hne g hgk hb'
              refine .inr ⟨g, off, c', q2, q5, hX, lt_of_heap r3, fun _ => ⟨lt_of_heap r3, hX⟩, ?_⟩
              rw [hoff]
              exact RdEs.argA (fun b hb hX => arg_not_mine hb (XOf.mine R hX)) hcl xs 0 hs r6
      · cases h
    · cases h
  · cases h

theorem argLCs_sound (R : Rel N w0 s a w β) {ks : List Nat} (hcl : ∀ b, XOf (s.en w w0.arg β) ks b → ∃ cur e, w.heap[b]? = some (.cells cur e (0, 0))) : ∀ {cs : List C} {ds : List D} {vs : List Value}, argLCs ks (lk s.ob) cs = some ds → CsRel (s.en w w0.arg β) cs vs →
    DsV (ArgX w (XOf (s.en w w0.arg β) ks)) ds vs ∧ fpDs w ds vs = (ownKeys cs).flatMap (obFp (s.en w w0.arg β)) ∧
      ∀ (i : Nat) (e z : Nat) (xs : List (List D)) (v : Value), ds[i]? = some (.own e z xs) → vs[i]? = some v → ∃ k, cs[i]? = some (.ob k) ∧ v = β k
  | [], ds, [], h, _ => by simp [argLCs] at h; subst h; exact ⟨rfl, rfl, fun i e z xs v h => by simp at h⟩
  | [], _, _ :: _, _, h => h.elim
  | _ :: _, _, [], _, h => h.elim
  | c :: cs, ds, v :: vs, h, hv => by
    simp only [argLCs] at h
    split at h
    · rename_i d ds' h1 h2
      simp only [Option.some.injEq] at h; subst h
      obtain ⟨a1, a2, a3⟩ := argLC_sound R hcl h1 hv.1
      obtain ⟨b1, b2, b3⟩ := argLCs_sound R hcl h2 hv.2
      refine ⟨⟨v, vs, rfl, a1, b1⟩, ?_, ?_⟩
      · simp only [fpDs, List.headD_cons, List.tail_cons, b2]
        rw [a2]
        cases c <;> simp [ownKeys, keyC]
      · intro i e z xs u hi hu
        cases i with
        | zero =>
          simp at hi hu; subst hu
          obtain ⟨k, hk1, hk2⟩ := a3 e z xs hi
          exact ⟨k, by simp [hk1], hk2⟩
        | succ i => simpa using b3 i e z xs u (by simpa using hi) (by simpa using hu)
    · cases h

theorem argsL_sound (R : Rel N w0 s a w β) {ks : List Nat} (hcl : ∀ b, XOf (s.en w w0.arg β) ks b → ∃ cur e, w.heap[b]? = some (.cells cur e (0, 0))) : ∀ {fs : List FV} {rs : List RV} {vs : List Value}, argsL ks (lk s.ob) fs = some rs → FVsV (s.en w w0.arg β) fs vs →
    ∃ us, AVsX w (XOf (s.en w w0.arg β) ks) rs vs us ∧ argLCs ks (lk s.ob) (cellsF fs) = some (rs.flatMap cellsR) ∧ CsRel (s.en w w0.arg β) (cellsF fs) us
  | [], rs, vs, h, hv => by simp [argsL] at h; subst h; exact ⟨[], ⟨hv, rfl⟩, rfl, trivial⟩
  | f :: fs, rs, vs, h, hv => by
    simp only [argsL] at h
    obtain ⟨v, q, rfl, h3, h4⟩ := hv
    split at h
    · rename_i r rs' h1 h2
      simp only [Option.some.injEq] at h; subst h
      obtain ⟨us, u1, u2, u3⟩ := argsL_sound R hcl h2 h4
      have happ : ∀ {cs cs' : List C} {ds ds' : List D}, argLCs ks (lk s.ob) cs = some ds → argLCs ks (lk s.ob) cs' = some ds' → argLCs ks (lk s.ob) (cs ++ cs') = some (ds ++ ds') := by
        intro cs
        induction cs with
        | nil => intro cs' ds ds' g1 g2; simp [argLCs] at g1; subst g1; simpa using g2
        | cons c cs ih =>
          intro cs' ds ds' g1 g2
          simp only [argLCs] at g1
          split at g1
          · rename_i d ds1 e1 e2
            simp only [Option.some.injEq] at g1; subst g1
            simp only [List.cons_append, argLCs, e1, ih e2 g2]
          · cases g1
      unfold argLF at h1
      split at h1
      · rename_i x
        split at h1
        · rename_i d hd
          simp only [Option.some.injEq] at h1; subst h1
          simp only [FVRel] at h3
          obtain ⟨a1, _, _⟩ := argLC_sound R hcl hd h3
          exact ⟨v :: us, ⟨v, q, [v], us, rfl, rfl, rfl, ⟨v, [], rfl, a1, rfl⟩, u1⟩, by simp only [cellsF, argLCs, hd, u2, List.flatMap_cons, cellsR, List.singleton_append], ⟨h3, u3⟩⟩
        · cases h1
      · rename_i xs
        split at h1
        · rename_i ds hd
          simp only [Option.some.injEq] at h1; subst h1
          simp only [FVRel] at h3
          obtain ⟨x, rfl, hx⟩ := h3
          obtain ⟨a1, _, _⟩ := argLCs_sound R hcl hd hx
          exact ⟨x ++ us, ⟨_, q, x, us, rfl, rfl, rfl, a1, u1⟩, by simp only [cellsF, List.flatMap_cons, cellsR]; exact happ hd u2, hx.append u3⟩
        · cases h1
      · cases h1
    · cases h

/-- A call of a function that changes the arguments that are handed over. -/
theorem CallW.mutL {Q : Exit → Act → World → Prop} {k : List It} {d f : Nat} {fs : List FV} {args : List RV} {q : RV} {outs : List (Nat × D)} (hc : CallX P f args ⟨q, outs⟩) (hd : d < N)
    (ha : argsL (ownKeys (cellsF fs)) (lk s.ob) fs = some args) (hko : keysOk (lk s.ob) (ownKeys (cellsF fs)) = true) (hkn : nodupB (ownKeys (cellsF fs)) = true) (hst : stTm s.tm = true) (hso : stObs (ownKeys (cellsF fs)) s.ob = true)
    (hfr : freshOs s.ob (impOs (d * 64) (cellsR q)) = true)
    (hj : J P N w0 Q k ⟨(d, impF (d * 64) q) :: s.tm, impOs (d * 64) (cellsR q) ++ (outObs (cellsF fs) outs ++ (deads (ownKeys (cellsF fs)) ++ s.ob))⟩) : CallW P N w0 Q k s d f fs := by
  refine ⟨hc.1, fun a w β R vs hv => ?_⟩
  generalize hks : ownKeys (cellsF fs) = ks at *
  have hk := keysOk_get hko
  have hknd := nodupB_iff hkn
  obtain ⟨us, u1, u2, u3⟩ := argsL_sound R (XOf.cells R hk) ha hv
  obtain ⟨c1, c2, c3⟩ := argLCs_sound R (XOf.cells R hk) u2 u3
  rw [hks] at c2
  generalize hcs : cellsF fs = cs at *
  let X := XOf (s.en w w0.arg β) ks
  refine Calls.mono (hc.2 w X vs us u1 (by rw [c2]; exact nodup_obFp R hknd)) fun e w' ⟨v, hve, ⟨us', vs', o1, o2, o3, o4, o5, o6⟩, hlow⟩ => ?_
  refine ⟨v, hve, ?_⟩
  -- what comes back
  have hul : us'.length = outs.length := by have := congrArg List.length o2; simpa using this
  have hX : Chg X w w' := ⟨hlow.size, fun b hb hx => hlow.block b ⟨hb, hx⟩, XOf.cells R hk⟩
  have hB : ∀ b, w0.arg b → ¬ X b := fun b hb hx => arg_not_mine hb (XOf.mine R hx)
  have hout : ∀ (j i : Nat) (e z : Nat) (xs : List (List D)), outs[j]? = some (i, .own e z xs) → ∃ ky, cs[i]? = some (.ob ky) ∧ keyAt cs i = ky ∧ us'[j]? = some (β ky) ∧ ky ∈ ks := by
    intro j i e z xs h
    have h1 : (us'.map some)[j]? = some (fixOf (args.flatMap cellsR) us i) := by rw [o2, List.getElem?_map, h]; rfl
    rw [List.getElem?_map] at h1
    cases hu : us'[j]? with
    | none => rw [hu] at h1; simp at h1
    | some u =>
      rw [hu] at h1
      simp only [Option.map_some, Option.some.injEq] at h1
      have h1 := h1.symm
      unfold fixOf at h1
      split at h1
      · rename_i e' z' xs' hdi
        obtain ⟨ky, k1, k2⟩ := c3 i e' z' xs' u hdi h1
        exact ⟨ky, k1, by simp [keyAt, k1], by rw [k2], hks ▸ ownKeys_get k1⟩
      · cases h1
  have hlkN : ∀ ky, ky ∈ (impOs (d * 64) (cellsR q)).map (·.1) → lk s.ob ky = none := fresh_lk s.ob _ hfr
  have hksome : ∀ ky ∈ ks, (lk s.ob ky).isSome = true := fun ky h => by obtain ⟨e, z, xs, h⟩ := hk ky h; rw [h]; rfl
  let β' := impB β (d * 64) (cellsR q) vs'
  let s' : St := ⟨s.tm, impOs (d * 64) (cellsR q) ++ (outObs cs outs ++ (deads ks ++ s.ob))⟩
  have hβold : ∀ ky, (lk s.ob ky).isSome = true → ownAt (cellsR q) (d * 64) ky = none := by
    intro ky h
    cases hq : ownAt (cellsR q) (d * 64) ky with
    | none => rfl
    | some x => rw [hlkN ky ((impOs_mem ky _ _).2 ⟨x, hq⟩)] at h; cases h
  have hβ' : ∀ ky, (lk s.ob ky).isSome = true → β' ky = β ky := fun ky h => by simp only [β', impB, hβold ky h]
  have hdv := DsV.right (by rw [hul, List.length_map]) o4
  -- the objects that are made or changed: their place among what comes back
  have hEnt : ∀ ky o, lk s'.ob ky = some o → o.live = true →
      (∃ (j e z : Nat) (xs : List (List D)), (outs.map (·.2) ++ cellsR q)[j]? = some (.own e z xs) ∧ (us' ++ vs')[j]? = some (β' ky) ∧ o = .arr e z xs ∧ ((∃ i, ky = d * 64 + i ∧ j = outs.length + i) ∨ (ky ∈ ks ∧ ∃ i, outs[j]? = some (i, .own e z xs) ∧ cs[i]? = some (.ob ky)))) ∨
      (ky ∉ ks ∧ lk s.ob ky = some o) := by
    intro ky o ho hl
    have ho' : lk (impOs (d * 64) (cellsR q) ++ (outObs cs outs ++ (deads ks ++ s.ob))) ky = some o := ho
    rw [impOs_lk] at ho'
    cases hq : ownAt (cellsR q) (d * 64) ky with
    | some x =>
      obtain ⟨e, z, xs⟩ := x
      rw [hq] at ho'
      simp only [Option.some.injEq] at ho'
      have hq' := hq
      unfold ownAt at hq'
      split at hq'
      · rename_i hle
        split at hq'
        · rename_i e' z' xs' hdi
          simp only [Option.some.injEq, Prod.mk.injEq] at hq'
          obtain ⟨rfl, rfl, rfl⟩ := hq'
          obtain ⟨u, hu, _⟩ := hdv.get _ _ hdi
          refine .inl ⟨outs.length + (ky - d * 64), e', z', xs', ?_, ?_, ho'.symm, .inl ⟨ky - d * 64, by omega, rfl⟩⟩
          · rw [List.getElem?_append_right (by simp), List.length_map, Nat.add_sub_cancel_left]; exact hdi
          · rw [List.getElem?_append_right (by omega), hul, Nat.add_sub_cancel_left]
            simp only [β', impB, hq, hu, Option.getD_some]
        · cases hq'
      · cases hq'
    | none =>
      rw [hq] at ho'
      simp only at ho'
      rcases outObs_lk cs (deads ks ++ s.ob) ky outs with ⟨j, i, e, z, xs, g1, g2, g3⟩ | ⟨g1, g2⟩
      · rw [g3] at ho'
        simp only [Option.some.injEq] at ho'
        obtain ⟨ky', k1, k2, k3, k4⟩ := hout j i e z xs g1
        have : ky' = ky := k2.symm.trans g2
        subst this
        have hjl := (List.getElem?_eq_some_iff.1 g1).1
        refine .inl ⟨j, e, z, xs, ?_, ?_, ho'.symm, .inr ⟨k4, i, g1, k1⟩⟩
        · rw [List.getElem?_append_left (by simpa using hjl), List.getElem?_map, g1]; rfl
        · rw [List.getElem?_append_left (by omega), k3, hβ' ky' (hksome ky' k4)]
      · rw [g2, deads_lk] at ho'
        split at ho'
        · simp only [Option.some.injEq] at ho'; subst ho'; simp [Ob.live] at hl
        · rename_i hn; exact .inr ⟨hn, ho'⟩
  have hnd := fun (j : Nat) (dd : D) (vv : Value) h1 h2 => fpDs_nd o4 o5 j dd vv h1 h2
  have hmem := fun (j : Nat) (dd : D) (vv : Value) (b : Nat) h1 h2 h3 => o6 b (fpDs_mem o4 j dd vv h1 h2 h3)
  have hrd := fun (j : Nat) (dd : D) h1 => o4.get j dd h1
  have hinj : ∀ {ky j e z xs j' e' z' xs'}, ((∃ i, ky = d * 64 + i ∧ j = outs.length + i) ∨ (ky ∈ ks ∧ ∃ i, outs[j]? = some (i, D.own e z xs) ∧ cs[i]? = some (.ob ky))) →
      ∀ {ky'}, ((∃ i, ky' = d * 64 + i ∧ j' = outs.length + i) ∨ (ky' ∈ ks ∧ ∃ i, outs[j']? = some (i, D.own e' z' xs') ∧ cs[i]? = some (.ob ky'))) → j = j' → ky = ky' := by
    intro ky j e z xs j' e' z' xs' h ky' h' hjj
    subst hjj
    rcases h with ⟨i, rfl, h1⟩ | ⟨_, i, h1, h2⟩
    · rcases h' with ⟨i', rfl, h1'⟩ | ⟨_, i', h1', h2'⟩
      · omega
      · have := (List.getElem?_eq_some_iff.1 h1').1; omega
    · rcases h' with ⟨i', rfl, h1'⟩ | ⟨_, i', h1', h2'⟩
      · have := (List.getElem?_eq_some_iff.1 h1).1; omega
      · rw [h1] at h1'
        simp only [Option.some.injEq, Prod.mk.injEq] at h1'
        rw [← h1'.1, h2] at h2'
        simp only [Option.some.injEq, C.ob.injEq] at h2'
        exact h2'
  have hhead : ∀ {dd : D} {u : Value} {b : Nat}, Rd w' (fun _ => False) (fun _ => False) dd u → (∃ e z xs, dd = .own e z xs) → blk u = some b → b ∈ fp w' dd u := by
    rintro dd u b hr ⟨e, z, xs, rfl⟩ hb
    simp only [Rd] at hr
    rcases hr with ⟨_, rfl⟩ | ⟨g, cap, cur, rfl, _⟩
    · simp [blk] at hb
    · simp [blk] at hb; subst hb; rw [fp_own_some]; simp
  have hsome' : ∀ ky, (lk s.ob ky).isSome = true → (lk s'.ob ky).isSome = true := by
    intro ky h
    show (lk (impOs (d * 64) (cellsR q) ++ (outObs cs outs ++ (deads ks ++ s.ob))) ky).isSome = true
    rw [lk_append, lk_append, lk_append]
    obtain ⟨o, ho⟩ := Option.isSome_iff_exists.1 h
    rw [ho]; simp
  have hold : ∀ ky o b, ky ∉ ks → lk s.ob ky = some o → b ∈ obFp (s.en w w0.arg β) ky → b < w.heap.size ∧ ¬ X b := by
    intro ky o b hn ho hb
    refine ⟨obFp_lt (en := s.en w w0.arg β) (fun o ho => R.ob ky o ho) b hb, ?_⟩
    rintro ⟨k2, hk2, hb2⟩
    exact R.dj ky k2 (fun e => hn (e ▸ hk2)) b hb hb2
  have hM : ∀ b, (s'.en w' w0.arg β').M b → (s.en w w0.arg β).M b ∨ X b ∨ w.heap.size ≤ b := by
    rintro b ⟨ky, o, ho, hl, hb⟩
    rcases hEnt ky o ho hl with ⟨j, e, z, xs, h1, h2, h3, _⟩ | ⟨hn, ho2⟩
    · obtain ⟨u, hu, hr⟩ := hrd j _ h1
      rw [h2] at hu
      simp only [Option.some.injEq] at hu
      have hb' : blk (β' ky) = some b := hb
      have := hmem j _ _ b h1 h2 (hhead (hu ▸ hr) ⟨e, z, xs, rfl⟩ hb')
      exact this.elim (fun h => .inr (.inr h)) (fun h => .inr (.inl h))
    · have hb' : blk (β' ky) = some b := hb
      rw [hβ' ky (by rw [ho2]; rfl)] at hb'
      exact .inl ⟨ky, o, ho2, hl, hb'⟩
  have hBe : (s'.en w' w0.arg β').B = (s.en w w0.arg β).B := rfl
  have hcst : ∀ c v, stC c = true → CRel (s.en w w0.arg β) c v → CRel (s'.en w' w0.arg β') c v := fun c v hs h =>
    CRel.st (en := s.en w w0.arg β) (en' := s'.en w' w0.arg β') (X := X) hX hB hBe hM (fun ky h => ⟨hsome' ky h, hβ' ky h⟩) hs h
  -- objects of old
  have hobOld : ∀ ky o, ky ∉ ks → lk s.ob ky = some o → ObRel (s'.en w' w0.arg β') ky o ∧ (∀ h : lk s'.ob ky = some o, obFp (s'.en w' w0.arg β') ky = obFp (s.en w w0.arg β) ky) := by
    intro ky o hn ho
    have hr := R.ob ky o ho
    have hs := stObs_lk hso ho hn
    have hbe := hβ' ky (by rw [ho]; rfl)
    cases o with
    | dead => exact ⟨trivial, fun h => by rw [obFp_dead (en := s'.en w' w0.arg β') h, obFp_dead (en := s.en w w0.arg β) ho]⟩
    | var vcs =>
      obtain ⟨g, cur, T, h1, h2, h3⟩ := hr
      have hb : g ∈ obFp (s.en w w0.arg β) ky := by rw [obFp_var (en := s.en w w0.arg β) ho, h1]; simp [blk]
      obtain ⟨hlt, hx⟩ := hold ky _ g hn ho hb
      refine ⟨⟨g, cur, T, hbe.trans h1, (hX.block g hlt hx).trans h2, CsRel.st hcst hs h3⟩, fun h => ?_⟩
      rw [obFp_var (en := s'.en w' w0.arg β') h, obFp_var (en := s.en w w0.arg β) ho]
      show (blk (β' ky)).toList = (blk (β ky)).toList
      rw [hbe]
    | mp es =>
      obtain ⟨r, ents, clock, h1, h2, h3⟩ := hr
      have hb : r ∈ obFp (s.en w w0.arg β) ky := by rw [obFp_mp (en := s.en w w0.arg β) ho, h1]; simp [blk]
      obtain ⟨hlt, hx⟩ := hold ky _ r hn ho hb
      refine ⟨⟨r, ents, clock, hbe.trans h1, (hX.block r hlt hx).trans h2, h3⟩, fun h => ?_⟩
      rw [obFp_mp (en := s'.en w' w0.arg β') h, obFp_mp (en := s.en w w0.arg β) ho]
      show (blk (β' ky)).toList = (blk (β ky)).toList
      rw [hbe]
    | it m rem last =>
      obtain ⟨g, r, since, seen, st, h1, h2, h3, h4⟩ := hr
      have hb : g ∈ obFp (s.en w w0.arg β) ky := by rw [obFp_it (en := s.en w w0.arg β) ho, h1]; simp [blk]
      obtain ⟨hlt, hx⟩ := hold ky _ g hn ho hb
      refine ⟨⟨g, r, since, seen, st, hbe.trans h1, (hX.block g hlt hx).trans h2, Rd.stA hX hB hM (.mp m) _ rfl h3, h4⟩, fun h => ?_⟩
      rw [obFp_it (en := s'.en w' w0.arg β') h, obFp_it (en := s.en w w0.arg β) ho]
      show (blk (β' ky)).toList = (blk (β ky)).toList
      rw [hbe]
    | arr e z xs =>
      have hfpo := obFp_arr (en := s.en w w0.arg β) ho
      have hr : OwnRel w w0.arg (s.en w w0.arg β).M e z xs (β ky) := hr
      rcases hr with ⟨rfl, h1⟩ | ⟨g, cap, cur, h1, h2, h3, h4, h5, h6⟩
      · refine ⟨.inl ⟨rfl, hbe.trans h1⟩, fun h => ?_⟩
        rw [obFp_arr (en := s'.en w' w0.arg β') h, hfpo]
        show fp w' _ (β' ky) = fp w _ (β ky)
        rw [hbe, h1, fp_own_nil, fp_own_nil]
      · have hfpe : obFp (s.en w w0.arg β) ky = g :: fpEs w z xs g 0 := by
          rw [hfpo]; show fp w _ (β ky) = _; rw [h1, fp_own_some]
        obtain ⟨hlt, hx⟩ := hold ky _ g hn ho (by rw [hfpe]; exact List.mem_cons_self ..)
        obtain ⟨r1, r2⟩ := RdEs.stO hX hB hM (fun _ => hX.cell hlt hx) xs 0 hs (fun y hy => (hold ky _ y hn ho (by rw [hfpe]; exact List.mem_cons_of_mem _ hy)).2) h6
        refine ⟨.inr ⟨g, cap, cur, hbe.trans h1, h2, (hX.block g hlt hx).trans h3, h4, h5, r1⟩, fun h => ?_⟩
        rw [obFp_arr (en := s'.en w' w0.arg β') h, hfpe]
        show fp w' _ (β' ky) = _
        rw [hbe, h1, fp_own_some, r2]
  -- objects that came back
  have hobNew : ∀ ky e z xs j, lk s'.ob ky = some (.arr e z xs) → (outs.map (·.2) ++ cellsR q)[j]? = some (.own e z xs) → (us' ++ vs')[j]? = some (β' ky) →
      ((∃ i, ky = d * 64 + i ∧ j = outs.length + i) ∨ (ky ∈ ks ∧ ∃ i, outs[j]? = some (i, .own e z xs) ∧ cs[i]? = some (.ob ky))) →
      ObRel (s'.en w' w0.arg β') ky (.arr e z xs) ∧ obFp (s'.en w' w0.arg β') ky = fp w' (.own e z xs) (β' ky) := by
    intro ky e z xs j ho h1 h2 h3
    refine ⟨?_, obFp_arr (en := s'.en w' w0.arg β') ho⟩
    obtain ⟨u, hu, hr⟩ := hrd j _ h1
    rw [h2] at hu
    simp only [Option.some.injEq] at hu
    subst hu
    show OwnRel w' w0.arg _ e z xs (β' ky)
    have hfi : freshEs xs = true := freshCs_get o3 j _ h1
    have hr0 := hr
    simp only [Rd] at hr
    rcases hr with hr | ⟨g, cap, cur, hβe, g1, g2, g3, g4, g5, g6⟩
    · exact .inl hr
    · refine .inr ⟨g, cap, cur, hβe, g1, g3, g4, g5, RdEs.free xs 0 hfi g6 fun b hb hMb => ?_⟩
      have hbF : b ∈ fp w' (.own e z xs) (β' ky) := by rw [hβe, fp_own_some]; exact List.mem_cons_of_mem _ hb
      obtain ⟨ky', o', ho', hl', hb'⟩ := hMb
      rcases hEnt ky' o' ho' hl' with ⟨j', e', z', xs', h1', h2', h3', h4'⟩ | ⟨hn, ho2⟩
      · obtain ⟨u', hu', hr'⟩ := hrd j' _ h1'
        rw [h2'] at hu'
        simp only [Option.some.injEq] at hu'
        subst hu'
        have hb2 := hhead hr' ⟨e', z', xs', rfl⟩ hb'
        by_cases hjj : j' = j
        · have hkk := hinj h4' h3 hjj
          subst hjj; subst hkk
          have := (hnd j' _ _ h1 h2).1
          rw [hβe, fp_own_some] at this
          have hb3 : blk (β' ky') = some b := hb'
          rw [hβe] at hb3
          simp [blk] at hb3; subst hb3
          exact (List.nodup_cons.1 this).1 hb
        · exact (hnd j _ _ h1 h2).2 j' _ _ hjj h1' h2' b hbF hb2
      · have hb3 : blk (β' ky') = some b := hb'
        rw [hβ' ky' (by rw [ho2]; rfl)] at hb3
        obtain ⟨hlt, hx⟩ := hold ky' o' b hn ho2 (R.live_block ho2 hl' hb3)
        exact (hmem j _ _ b h1 h2 hbF).elim (fun h => Nat.lt_irrefl _ (Nat.lt_of_lt_of_le hlt h)) hx
  have hdeadFp : ∀ ky, (∀ o, lk s'.ob ky = some o → o.live = false) → obFp (s'.en w' w0.arg β') ky = [] := by
    intro ky h
    unfold obFp
    show (match lk s'.ob ky with | some (.var _) => _ | some (.mp _) => _ | some (.it _ _ _) => _ | some (.arr e s xs) => _ | _ => []) = []
    cases ho : lk s'.ob ky with
    | none => rfl
    | some o =>
      have := h o ho
      cases o <;> simp [Ob.live] at this
      rfl
  -- each place: dead, back, or old
  have hcase : ∀ ky, obFp (s'.en w' w0.arg β') ky = [] ∨ (∃ (j e z : Nat) (xs : List (List D)), (outs.map (·.2) ++ cellsR q)[j]? = some (.own e z xs) ∧ (us' ++ vs')[j]? = some (β' ky) ∧ obFp (s'.en w' w0.arg β') ky = fp w' (.own e z xs) (β' ky) ∧
      ((∃ i, ky = d * 64 + i ∧ j = outs.length + i) ∨ (ky ∈ ks ∧ ∃ i, outs[j]? = some (i, .own e z xs) ∧ cs[i]? = some (.ob ky)))) ∨
      (ky ∉ ks ∧ (∃ o, lk s.ob ky = some o) ∧ obFp (s'.en w' w0.arg β') ky = obFp (s.en w w0.arg β) ky) := by
    intro ky
    cases ho : lk s'.ob ky with
    | none => exact .inl (hdeadFp ky fun o h => by rw [ho] at h; cases h)
    | some o =>
      cases hl : o.live with
      | false => exact .inl (hdeadFp ky fun o' h => by rw [ho] at h; simp only [Option.some.injEq] at h; subst h; exact hl)
      | true =>
        rcases hEnt ky o ho hl with ⟨j, e, z, xs, h1, h2, rfl, h4⟩ | ⟨hn, ho2⟩
        · exact .inr (.inl ⟨j, e, z, xs, h1, h2, (hobNew ky e z xs j ho h1 h2 h4).2, h4⟩)
        · exact .inr (.inr ⟨hn, ⟨o, ho2⟩, (hobOld ky o hn ho2).2 ho⟩)
  have R' : Rel N w0 s' a w' β' := by
    refine ⟨R.sz, R.df, ?_, ?_, ?_, ?_, ?_, R.low.trans ⟨hlow.os, hlow.tape, hlow.output, hlow.size, fun b hb => hX.block b (Nat.lt_of_lt_of_le hb.1 R.base_le) (hB b hb), hlow.drawn⟩, ?_⟩
    · intro t g hg
      exact FVRel.st hcst g _ (stTm_lk hst hg) (R.tm t g hg)
    · intro ky o ho
      cases hl : o.live with
      | false => cases o <;> simp [Ob.live] at hl; trivial
      | true =>
        rcases hEnt ky o ho hl with ⟨j, e, z, xs, h1, h2, rfl, h4⟩ | ⟨hn, ho2⟩
        · exact (hobNew ky e z xs j ho h1 h2 h4).1
        · exact (hobOld ky o hn ho2).1
    · intro ky
      rcases hcase ky with h | ⟨j, e, z, xs, h1, h2, h3, _⟩ | ⟨_, _, h⟩
      · rw [h]; exact List.nodup_nil
      · rw [h3]; exact (hnd j _ _ h1 h2).1
      · rw [h]; exact R.nd ky
    · intro ky ky' hne b hb hb'
      rcases hcase ky with h | ⟨j, e, z, xs, h1, h2, h3, h4⟩ | ⟨hn, ⟨o, ho⟩, h⟩
      · rw [h] at hb; cases hb
      · rcases hcase ky' with h' | ⟨j', e', z', xs', h1', h2', h3', h4'⟩ | ⟨hn', ⟨o', ho'⟩, h'⟩
        · rw [h'] at hb'; cases hb'
        · rw [h3] at hb; rw [h3'] at hb'
          exact (hnd j _ _ h1 h2).2 j' _ _ (fun e => hne (hinj h4 h4' e.symm)) h1' h2' b hb hb'
        · rw [h3] at hb; rw [h'] at hb'
          obtain ⟨hlt, hx⟩ := hold ky' o' b hn' ho' hb'
          exact (hmem j _ _ b h1 h2 hb).elim (fun h => Nat.lt_irrefl _ (Nat.lt_of_lt_of_le hlt h)) hx
      · rcases hcase ky' with h' | ⟨j', e', z', xs', h1', h2', h3', h4'⟩ | ⟨hn', ⟨o', ho'⟩, h'⟩
        · rw [h'] at hb'; cases hb'
        · rw [h] at hb; rw [h3'] at hb'
          obtain ⟨hlt, hx⟩ := hold ky o b hn ho hb
          exact (hmem j' _ _ b h1' h2' hb').elim (fun h => Nat.lt_irrefl _ (Nat.lt_of_lt_of_le hlt h)) hx
        · rw [h] at hb; rw [h'] at hb'; exact R.dj ky ky' hne b hb hb'
    · intro ky b hb
      rcases hcase ky with h | ⟨j, e, z, xs, h1, h2, h3, _⟩ | ⟨_, _, h⟩
      · rw [h] at hb; cases hb
      · rw [h3] at hb
        exact (hmem j _ _ b h1 h2 hb).elim (fun h => .inl (Nat.le_trans R.base_le h)) (fun h => XOf.mine R h)
      · rw [h] at hb; exact R.ge ky b hb
    · intro ky c hf
      obtain ⟨f2, f3⟩ := R.fx ky c hf
      exact ⟨hsome' ky f2, (hβ' ky f2).trans f3⟩
  refine ⟨⟨(d, impF (d * 64) q) :: s.tm, s'.ob⟩, β', R'.setTm hd (impF_rel o1 ?_), hj⟩
  refine impCs_rel (key0 := 0) (cellsR q) vs' (d * 64) (hdv.mono fun _ _ _ => trivial) fun i dd u hdi hui => ?_
  obtain ⟨u', hu', hr⟩ := hdv.get i dd hdi
  rw [hui] at hu'
  simp only [Option.some.injEq] at hu'; subst hu'
  have hone := hr.one
  have hfrd : dd.fresh = true := freshCs_get (by rw [freshCs_append] at o3; simp only [Bool.and_eq_true] at o3; exact o3.2) i dd hdi
  cases dd with
  | own e z xs =>
    have hq : ownAt (cellsR q) (d * 64) (d * 64 + i) = some (e, z, xs) := by
      unfold ownAt
      rw [if_pos (by omega), show d * 64 + i - d * 64 = i by omega, hdi]
    refine ⟨?_, ?_, hone⟩
    · show (lk (impOs (d * 64) (cellsR q) ++ (outObs cs outs ++ (deads ks ++ s.ob))) (d * 64 + i)).isSome = true
      rw [impOs_lk, hq]; rfl
    · show u = impB β (d * 64) (cellsR q) vs' (d * 64 + i)
      simp only [impB, hq, show d * 64 + i - d * 64 = i by omega, hui, Option.getD_some]
  | v x => exact ⟨rfl, hone, by simpa only [Rd] using hr⟩
  | vw aa z xs => simp [D.fresh] at hfrd
  | mp es => simp [D.fresh] at hfrd

attribute [simp] argLC argLCs argLF argsL
end Go.Sm
