/- Towards the rows of this seat: what the functions do, as contracts over plain data. -/
import Derived.Test.YtemedeiolhgoeaaPkQrCountOrbitsBK10
import Derived.Test.YtemedeiolhgoeaaPkQrCountOrbitsBK2
namespace Go.Sm
open Go.RowKit

variable {P : Program} {N : Nat} {w0 : Base} {s : St} {a : Act} {w w' : World} {β : Nat → Value} {X : Nat → Prop} {B M M' : Nat → Prop}

abbrev u64D (x : Int) : D := .v (.int .u64 x)
abbrev byD (b : UInt8) : D := .v (.int .u8 (b.toNat : Int))
abbrev vB (bs : List UInt8) : D := .vw true 1 (bs.map fun b => [byD b])
abbrev srcCs (c : Value) (x : Int × Int) : List C := [.d (.v c), .d (i64 x.1), .d (u64D x.2)]
abbrev srcVs (c : Value) (x : Int × Int) : Array Value := #[c, .int .i64 x.1, .int .u64 x.2]

/-- A value that is a view of these bytes, in memory that stays as it was. -/
def SrcV (w0 : Base) (bs : List UInt8) (c : Value) : Prop := c.oneCell' = true ∧ Rd w0.toWorld w0.arg (fun _ => False) (vB bs) c

theorem rdEs_cells {b : Nat} : ∀ (us : List Value) (off : Nat), RdEs w B M 1 (us.map fun u => [D.v u]) b off → (∀ n u, us[n]? = some u → w.cell? ⟨b, off + n, none⟩ = some u) ∧ ∀ u ∈ us, u.oneCell' = true
  | [], _, _ => ⟨fun n u h => by simp at h, by simp⟩
  | u :: us, off, h => by
    simp only [List.map_cons, RdEs, RdCs, Rd] at h
    obtain ⟨_, ⟨⟨c, h1, rfl, h2⟩, _⟩, h3⟩ := h
    obtain ⟨i1, i2⟩ := rdEs_cells us (off + 1) h3
    refine ⟨fun n x hx => ?_, fun x hx => ?_⟩
    · cases n with
      | zero => simp only [List.getElem?_cons_zero, Option.some.injEq] at hx; subst hx; simpa using h1
      | succ n => have := i1 n x (by simpa using hx); rwa [show off + 1 + n = off + (n + 1) by omega] at this
    · rcases List.mem_cons.1 hx with rfl | hx
      · exact h2
      · exact i2 x hx
theorem cell_congr {w w' : World} {b : Nat} (h : w'.heap[b]? = w.heap[b]?) (off : Nat) : w'.cell? ⟨b, off, none⟩ = w.cell? ⟨b, off, none⟩ := by
  unfold World.cell?
  simp only [h]
theorem vB_map (bs : List UInt8) : (bs.map fun b => [byD b]) = (bs.map fun b => Value.int .u8 (b.toNat : Int)).map fun u => [D.v u] := by rw [List.map_map]; rfl
theorem SrcV.at {bs : List UInt8} {c : Value} (h : SrcV w0 bs c) (hl : ∀ b, w0.arg b → w.heap[b]? = w0.heap[b]?) (hz : w0.heap.size ≤ w.heap.size) (hB : ∀ b, w0.arg b → B b) (hM : ∀ b, M b → ¬ w0.arg b) : Rd w B M (vB bs) c := by
  obtain ⟨_, h⟩ := h
  simp only [Rd] at h ⊢
  rcases h with h | ⟨b, off, cap, h1, h2, _, h4, h5, h6⟩
  · exact .inl h
  · have ha := h5 trivial
    refine .inr ⟨b, off, cap, h1, h2, fun hm => hM b hm ha, Nat.lt_of_lt_of_le h4 hz, fun _ => hB b ha, ?_⟩
    rw [vB_map] at h6 ⊢
    obtain ⟨i1, i2⟩ := rdEs_cells _ _ h6
    exact rdEs_vals _ _ i2 fun n u hu => by rw [cell_congr (hl b ha)]; exact i1 n u hu
theorem Rel.M_mine (R : Rel N w0 s a w β) {b : Nat} (h : (s.en w w0.arg β).M b) : w0.mine b := by
  obtain ⟨k, o, ho, hl, hb⟩ := h
  exact R.ge k b (R.live_block ho hl hb)
theorem mine_not_arg {b : Nat} (h : w0.mine b) : ¬ w0.arg b := fun ha => arg_not_mine ha h
/-! ### the contract -/
/-- A function of a source and other data: what it may return (one of the q i), and the source behind it. -/
def CallS (P : Program) (f : FuncId) (bs : List UInt8) (x : Int × Int) (args : List RV) {ι : Type} (Post : ι → Prop) (q : ι → RV) (x' : ι → Int × Int) : Prop :=
  Entered P f ∧ ∀ (w : World) (g : Nat) (T : TypeId) (c : Value) (vs us : List Value), w.heap[g]? = some (.cells (srcVs c x) T (0, 0)) → SrcV ⟨w, (· = g), fun _ => none⟩ bs c → AVsX w (· = g) args vs us →
    Calls P f (Value.pointer (some ⟨g, 0, none⟩) :: vs).toArray w fun e w' => ∃ i, Post i ∧ ∃ v T', e = .returned v ∧ w'.heap[g]? = some (.cells (srcVs c (x' i)) T' (0, 0)) ∧ OwnV w' (fun b => w.heap.size ≤ b) (q i) v ∧ Low ⟨w, (· = g), fun _ => none⟩ w w'

/-- The end of such a body. -/
def RetS (T : Tab) (rs : List ResultVar) (c : Value) {ι : Type} (Post : ι → Prop) (q : ι → RV) (x' : ι → Int × Int) (s : St) : Prop :=
  match expRs T s rs with
  | some (ps, ks) => ks.Nodup ∧ ks.elem 0 = false ∧ freshCs (ps.flatMap (·.2)) = true ∧ ∃ i, Post i ∧ toRV ps = q i ∧ lk s.ob 0 = some (.var (srcCs c (x' i)))
  | none => False
/-! ### the caller's other arguments: what is static, and arrays that are lent -/
def argSC (K : Nat) (ob : Nat → Option Ob) : C → Option D
  | .d x => match stA x with
    | true => some x
    | false => none
  | .ob k => match ob k, Nat.beq k K with
    | some (.arr _ z xs), false => match stAEs xs with
      | true => some (.vw true z xs)
      | false => none
    | _, _ => none
  | _ => none
def argSCs (K : Nat) (ob : Nat → Option Ob) : List C → Option (List D)
  | [] => some []
  | c :: cs => match argSC K ob c, argSCs K ob cs with
    | some d, some ds => some (d :: ds)
    | _, _ => none
def argSF (K : Nat) (ob : Nat → Option Ob) : FV → Option RV
  | .c x => match argSC K ob x with
    | some d => some (.one d)
    | none => none
  | .g xs => match argSCs K ob xs with
    | some ds => some (.agg ds)
    | none => none
  | _ => none
def argsS (K : Nat) (ob : Nat → Option Ob) : List FV → Option (List RV)
  | [] => some []
  | f :: r => match argSF K ob f, argsS K ob r with
    | some d, some ds => some (d :: ds)
    | _, _ => none
theorem argSC_sound (R : Rel N w0 s a w β) {K : Nat} (hcl : ∀ b ∈ obFp (s.en w w0.arg β) K, ∃ cur e, w.heap[b]? = some (.cells cur e (0, 0))) {c : C} {d : D} {v : Value} (h : argSC K (lk s.ob) c = some d) (hv : CRel (s.en w w0.arg β) c v) :
    ArgX w (fun b => b ∈ obFp (s.en w w0.arg β) K) d v := by
  have hB : ∀ b, w0.arg b → ¬ b ∈ obFp (s.en w w0.arg β) K := fun b hb hX => arg_not_mine hb (R.ge K b hX)
  unfold argSC at h
  split at h
  · rename_i x
    split at h
    · rename_i hs
      simp only [Option.some.injEq] at h; subst h
      have hr := Rd.argA hB hcl x v hs hv.2.2
      cases x with
      | own e z xs => simp [stA] at hs
      | v y => exact hr
      | vw b z xs => exact hr
      | mp es => exact hr
    · cases h
  · rename_i k
    split at h
    · rename_i e z xs hob hel
      split at h
      · rename_i hs
        simp only [Option.some.injEq] at h; subst h
        obtain ⟨_, hv, _⟩ := hv
        have hv : v = β k := hv
        have hr : OwnRel w w0.arg (s.en w w0.arg β).M e z xs (β k) := R.ob k _ hob
        show Rd w _ _ _ v
        simp only [Rd]
        rcases hr with ⟨rfl, h⟩ | ⟨g, cap, cur, r1, r2, r3, r4, r5, r6⟩
        · exact .inl ⟨rfl, none, 0, hv.trans h, fun _ => rfl⟩
        · have hgk : g ∈ obFp (s.en w w0.arg β) k := by
            rw [obFp_arr (en := s.en w w0.arg β) hob]
            show g ∈ fp w _ (β k)
            rw [r1, fp_own_some]; simp
          have hne : k ≠ K := fun e => by
            rw [e] at hel
            have : Nat.beq K K = true := Nat.beq_refl K
            rw [hel] at this; cases this
          have hX : ¬ g ∈ obFp (s.en w w0.arg β) K := R.dj k K hne g hgk
          exact .inr ⟨g, 0, cap, hv.trans r1, r2, hX, lt_of_heap r3, fun _ => ⟨lt_of_heap r3, hX⟩, RdEs.argA hB hcl xs 0 hs r6⟩
      · cases h
    · cases h
  · cases h
theorem argSCs_sound (R : Rel N w0 s a w β) {K : Nat} (hcl : ∀ b ∈ obFp (s.en w w0.arg β) K, ∃ cur e, w.heap[b]? = some (.cells cur e (0, 0))) : ∀ {cs : List C} {ds : List D} {vs : List Value}, argSCs K (lk s.ob) cs = some ds → CsRel (s.en w w0.arg β) cs vs → DsV (ArgX w (fun b => b ∈ obFp (s.en w w0.arg β) K)) ds vs
  | [], ds, [], h, _ => by simp [argSCs] at h; subst h; rfl
  | [], _, _ :: _, _, h => h.elim
  | _ :: _, _, [], _, h => h.elim
  | c :: cs, ds, v :: vs, h, hv => by
    simp only [argSCs] at h
    split at h
    · rename_i d ds' h1 h2
      simp only [Option.some.injEq] at h; subst h
      exact ⟨v, vs, rfl, argSC_sound R hcl h1 hv.1, argSCs_sound R hcl h2 hv.2⟩
    · cases h
theorem argsS_sound (R : Rel N w0 s a w β) {K : Nat} (hcl : ∀ b ∈ obFp (s.en w w0.arg β) K, ∃ cur e, w.heap[b]? = some (.cells cur e (0, 0))) : ∀ {fs : List FV} {rs : List RV} {vs : List Value}, argsS K (lk s.ob) fs = some rs → FVsV (s.en w w0.arg β) fs vs →
    ∃ us, AVsX w (fun b => b ∈ obFp (s.en w w0.arg β) K) rs vs us
  | [], rs, vs, h, hv => by simp [argsS] at h; subst h; exact ⟨[], hv, rfl⟩
  | f :: fs, rs, vs, h, hv => by
    simp only [argsS] at h
    obtain ⟨v, q, rfl, h3, h4⟩ := hv
    split at h
    · rename_i r rs' h1 h2
      simp only [Option.some.injEq] at h; subst h
      obtain ⟨us, u1⟩ := argsS_sound R hcl h2 h4
      unfold argSF at h1
      split at h1
      · rename_i x
        split at h1
        · rename_i d hd
          simp only [Option.some.injEq] at h1; subst h1
          simp only [FVRel] at h3
          exact ⟨v :: us, v, q, [v], us, rfl, rfl, rfl, ⟨v, [], rfl, argSC_sound R hcl hd h3, rfl⟩, u1⟩
        · cases h1
      · rename_i xs
        split at h1
        · rename_i ds hd
          simp only [Option.some.injEq] at h1; subst h1
          simp only [FVRel] at h3
          obtain ⟨x, rfl, hx⟩ := h3
          exact ⟨x ++ us, _, q, x, us, rfl, rfl, rfl, argSCs_sound R hcl hd hx, u1⟩
        · cases h1
      · cases h1
    · cases h

/-- A call of such a function, and the world behind it. -/
theorem Rel.srcCall (R : Rel N w0 s a w β) {d f K : Nat} {fs : List FV} {args : List RV} {bs : List UInt8} {c : Value} {x : Int × Int} {ι : Type} {Post : ι → Prop} {q : ι → RV} {x' : ι → Int × Int} (hs : SrcV w0 bs c) (hd : d < N)
    (hK : lk s.ob K = some (.var (srcCs c x))) (ha : argsS K (lk s.ob) fs = some args) (hc : CallS P f bs x args Post q x') (hfr : ∀ i, freshOs ((K, .var (srcCs c (x' i))) :: s.ob) (impOs (d * 64) (cellsR (q i))) = true)
    {vs : List Value} (hv : FVsV (s.en w w0.arg β) (.c (.ref K 0) :: fs) vs) : Calls P f vs.toArray w fun e w' => ∃ i, Post i ∧ ∃ v, e = .returned v ∧ ∃ β', Rel N w0 ⟨(d, impF (d * 64) (q i)) :: s.tm, impOs (d * 64) (cellsR (q i)) ++ (K, .var (srcCs c (x' i))) :: s.ob⟩ (a.put (some d) v) w' β' := by
  obtain ⟨v0, vs', rfl, h1, h2⟩ := hv
  simp only [FVRel, CRel] at h1
  obtain ⟨_, g, hβ, rfl⟩ := h1
  have hβ : β K = .pointer (some ⟨g, 0, none⟩) := hβ
  have hr := R.ob K _ hK
  simp only [ObRel] at hr
  obtain ⟨g', cur, T, o1, o2, o3⟩ := hr
  have o1 : β K = .pointer (some ⟨g', 0, none⟩) := o1
  rw [hβ] at o1
  simp only [Value.pointer.injEq, Option.some.injEq, Addr.mk.injEq, and_true] at o1
  subst o1
  have hcur : cur = srcVs c x := by
    have := (csRel_vals (us := [c, .int .i64 x.1, .int .u64 x.2]) o3).1
    apply Array.ext'
    rw [this]
  rw [hcur] at o2
  have hbk : blk (β K) = some g := by rw [hβ]; rfl
  have hfpK : obFp (s.en w w0.arg β) K = [g] := by
    rw [obFp_var (en := s.en w w0.arg β) hK]
    show (blk (β K)).toList = _
    rw [hbk]; rfl
  have hgK : g ∈ obFp (s.en w w0.arg β) K := by rw [hfpK]; simp
  have hmine := R.ge K g hgK
  have hlt := lt_of_heap o2
  have hsv : SrcV ⟨w, (· = g), fun _ => none⟩ bs c := ⟨hs.1, hs.at R.low.block R.low.size (fun b hb => ⟨Nat.lt_of_lt_of_le hb.1 R.low.size, fun e => by subst e; exact arg_not_mine hb hmine⟩) fun _ h => h.elim⟩
  have hX : (fun b => b ∈ obFp (s.en w w0.arg β) K) = (· = g) := by
    funext b
    rw [hfpK]
    simp
  obtain ⟨us, u1⟩ := argsS_sound R (K := K) (fun b hb => by
    rw [hfpK, List.mem_singleton] at hb
    subst hb
    exact ⟨_, _, o2⟩) ha h2
  rw [hX] at u1
  refine Calls.mono (hc.2 w g T c vs' us o2 hsv u1) fun e w' ⟨i, hi, v, T', he, hg', hown, hlow⟩ => ?_
  have R1 := R.setObj (o' := .var (srcCs c (x' i))) (ob := .cells (srcVs c (x' i)) T' (0, 0)) hK rfl hbk (by
      rw [obFp_var (cs := srcCs c (x' i)) (lk_cons_self _ _ _)]
      show (blk (β K)).toList = _
      rw [hbk]; rfl) (fun _ => ⟨g, srcVs c (x' i), T', hβ, setOb_self w g _ hlt, ⟨rfl, hs.1, by simp only [Rd]; exact ⟨trivial, hs.1⟩⟩, ⟨rfl, rfl, by simp only [Rd]; exact ⟨trivial, rfl⟩⟩, ⟨rfl, rfl, by simp only [Rd]; exact ⟨trivial, rfl⟩⟩, trivial⟩)
  have hb : Bel (World.setOb w g (.cells (srcVs c (x' i)) T' (0, 0))).heap.size (World.setOb w g (.cells (srcVs c (x' i)) T' (0, 0))) w' := by
    refine ⟨⟨hlow.os, hlow.tape, hlow.output, by rw [setOb_size]; exact hlow.size, fun b hb => ?_⟩, hlow.drawn⟩
    rw [setOb_size] at hb
    by_cases hbg : b = g
    · subst hbg; rw [hg', setOb_self w b _ hlt]
    · rw [setOb_ne w _ hbg]; exact hlow.block b ⟨hb, hbg⟩
  obtain ⟨us', q1, q2, q3, q4, q5⟩ := hown
  obtain ⟨β', g1, g2⟩ := R1.import hb (hfr i) q2 q3 q4 (by rw [setOb_size]; exact q5)
  exact ⟨i, hi, v, he, β', g1.setTm hd (impF_rel q1 g2)⟩

/-- A call of such a function. -/
theorem CallW.src {Q : Exit → Act → World → Prop} {k : List It} {d f K : Nat} {fs : List FV} {args : List RV} {bs : List UInt8} {c : Value} {x : Int × Int} {ι : Type} {Post : ι → Prop} {q : ι → RV} {x' : ι → Int × Int} (hs : SrcV w0 bs c) (hd : d < N)
    (hK : lk s.ob K = some (.var (srcCs c x))) (ha : argsS K (lk s.ob) fs = some args) (hc : CallS P f bs x args Post q x') (hfr : ∀ i, freshOs ((K, .var (srcCs c (x' i))) :: s.ob) (impOs (d * 64) (cellsR (q i))) = true)
    (hj : ∀ i, Post i → J P N w0 Q k ⟨(d, impF (d * 64) (q i)) :: s.tm, impOs (d * 64) (cellsR (q i)) ++ (K, .var (srcCs c (x' i))) :: s.ob⟩) : CallW P N w0 Q k s d f (.c (.ref K 0) :: fs) :=
  ⟨hc.1, fun _ _ _ R _ hv => Calls.mono (R.srcCall hs hd hK ha hc hfr hv) fun _ _ ⟨i, hi, v, he, β', hR⟩ => ⟨v, he, _, β', hR, hj i hi⟩⟩

/-! ### a new source -/
/-- The end of such a body. -/
def RetN (rs : List ResultVar) (c : Value) (Post : Int × Int → Prop) (s : St) : Prop :=
  match rs with
  | [.tmp t] => match lk s.tm t with
    | some (.c (.ref K 0)) => ∃ x', Post x' ∧ lk s.ob K = some (.var (srcCs c x'))
    | _ => False
  | _ => False
attribute [simp] RetS RetN argSC argSCs argSF argsS
end Go.Sm

namespace Go.Sm
open Go.RowKit

variable {P : Program} {N : Nat} {w0 : Base} {s : St} {a : Act} {w w' : World} {β : Nat → Value}

theorem fpVs_part {w : World} {Q : D → Value → Prop} {ys : List (List D)} {news : List Value} (h : EsV Q 1 ys news) (lo n : Nat) : List.Sublist (fpVs w 1 ((ys.drop lo).take n) ((news.drop lo).take n)) (fpVs w 1 ys news) := by
  have h1 := h.drop1 lo
  have e2 : fpVs w 1 (ys.drop lo) (news.drop lo) = fpVs w 1 ((ys.drop lo).take n) ((news.drop lo).take n) ++ fpVs w 1 ((ys.drop lo).drop n) ((news.drop lo).drop n) := by
    have := fpVs_append (w := w) (h1.take1 n) (ys := (ys.drop lo).drop n) (us := (news.drop lo).drop n)
    rw [List.take_append_drop, List.take_append_drop] at this
    exact this
  have e1 : fpVs w 1 ys news = fpVs w 1 (ys.take lo) (news.take lo) ++ fpVs w 1 (ys.drop lo) (news.drop lo) := by
    have := fpVs_append (w := w) (h.take1 lo) (ys := ys.drop lo) (us := news.drop lo)
    rw [List.take_append_drop, List.take_append_drop] at this
    exact this
  rw [e1, e2]
  exact (List.sublist_append_left _ _).trans (List.sublist_append_right _ _)

theorem OpW.appWin {Q : Exit → Act → World → Prop} {all : Array Oper} {os : List Oper} {k : List It} {o : Oper} {c : Call} {x y : Operand} {t e e3 d k1 k3 lo n : Nat} {T : Tab} {ti te : TI} {xs ys : List (List D)}
    (ho : o.op = .call c) (hcc : c.callee = .builtin .append) (hargs : c.args = #[x, y]) (hts : c.argTypes = #[t, t]) (hd : o.dst = some d) (hlt : d < N)
    (hT : TabOk P T) (hti : lk T t = some ti) (htk : ti.k = .sl e) (hte : lk T e = some te) (hz : te.size = 1) (hx : s.opd x = some (.c (.ob k1))) (h1 : lk s.ob k1 = some (.arr e 1 xs))
    (hy : s.opd y = some (.c (.win k3 1 lo n))) (h3 : lk s.ob k3 = some (.arr e3 1 ys)) (hne : k3 ≠ k1) (hfr : lk s.ob (d * 64) = none)
    (hb : (xs.length + ys.length) * te.bytes ≤ 140737488355328) (h63 : xs.length + ys.length ≤ 9223372036854775807)
    (h : J P N w0 Q (.ops all os :: k) ⟨(d, .c (.ob (d * 64))) :: s.tm, (d * 64, .arr e 1 (xs ++ (ys.drop lo).take n)) :: (k1, .dead) :: (k3, .dead) :: s.ob⟩) : OpW P N w0 Q all os k s o := by
  have hu := (hT t ti hti).sl htk
  have hty := hT e te hte
  refine OpW.val hd fun a w β R => ?_
  have hx := R.opd hx
  have hy := R.opd hy
  simp only [FVRel, CRel] at hx hy
  obtain ⟨_, hx, _⟩ := hx
  obtain ⟨_, hy⟩ := hy
  have hr3 : OwnRel w w0.arg (s.en w w0.arg β).M e3 1 ys (β k3) := R.ob k3 _ h3
  have hle : ((ys.drop lo).take n).length ≤ ys.length := by rw [List.length_take, List.length_drop]; omega
  have hsrc : ∃ news, EsV (Rd w w0.arg (s.en w w0.arg β).M) 1 ((ys.drop lo).take n) news ∧ (∀ u ∈ news, u.oneCell' = true) ∧
      ((a.eval y = nilV ∧ ((ys.drop lo).take n).length = 0) ∨ ∃ ad cap, a.eval y = .slice (some ad) ((ys.drop lo).take n).length cap ∧ ∀ j u, news[j]? = some u → w.cell? (ad.add j) = some u) ∧
      List.Sublist (fpVs w 1 ((ys.drop lo).take n) news) (obFp (s.en w w0.arg β) k3) := by
    rcases hy with ⟨hβ, rfl, hv⟩ | ⟨g, M, cap, off, c', hβ, hv, hoff, hlen, hc⟩
    · rw [List.take_zero]
      exact ⟨[], rfl, by simp, .inl ⟨hv, rfl⟩, by simp [fpVs]⟩
    · have hβ : β k3 = .slice (some ⟨g, 0, none⟩) M cap := hβ
      rcases hr3 with ⟨rfl, h0⟩ | ⟨g', cap', cur, hβ', q1, q2, q3, q4, q5⟩
      · rw [hβ] at h0; cases h0
      · rw [hβ] at hβ'
        simp only [Value.slice.injEq, Option.some.injEq, Addr.mk.injEq, and_true] at hβ'
        obtain ⟨rfl, rfl, rfl⟩ := hβ'
        obtain ⟨news, n1, n2, n3⟩ := q5.cellsV
        have hl : ((ys.drop lo).take n).length = n := by rw [List.length_take, List.length_drop]; omega
        refine ⟨(news.drop lo).take n, (n1.drop1 lo).take1 n, fun u hu => n2 u (List.mem_of_mem_drop (List.mem_of_mem_take hu)), .inr ⟨_, _, hv.trans (by rw [hl]), fun j u hj => ?_⟩, ?_⟩
        · rw [List.getElem?_take] at hj
          split at hj
          · rw [List.getElem?_drop] at hj
            have := n3 _ _ hj
            rw [Addr.add_lit] at this ⊢
            rcases hoff with h | h
            · omega
            · rw [h, Nat.mul_one]; rwa [Nat.zero_add] at this
          · cases hj
        · refine (fpVs_part n1 lo n).trans ?_
          rw [obFp_arr (en := s.en w w0.arg β) h3]
          show List.Sublist _ (fp w (.own e3 1 ys) (β k3))
          rw [hβ, fp_own_some, fpEs_vals ys news 0 n1 (fun j u hj => by have := n3 j u hj; rwa [Addr.add_lit] at this)]
          exact List.sublist_cons_self _ _
  obtain ⟨news, n1, n2, n3, n4⟩ := hsrc
  have hmul : (xs.length + ((ys.drop lo).take n).length) * te.bytes ≤ 140737488355328 := Nat.le_trans (Nat.mul_le_mul_right _ (by omega)) hb
  obtain ⟨v', w', r1, r2, r3⟩ := R.append (ty := o.type) hu hty hz.symm h1 hfr n1 n2 n3 (.inr ⟨k3, rfl, hne, ⟨_, h3⟩, n4⟩) (by simp only [maxLen]; omega) hmul
  refine ⟨v', w', _, _, ?_, r3.setTm hlt ?_, h⟩
  · have hx : a.eval x = β k1 := hx
    rw [← hx] at r1
    simp [execOp, ho, resolve, hcc, hargs, hts, invoke, builtin, r1]
  · simp only [FVRel, CRel]
    exact ⟨by simp [St.en, lk_cons_self], by simp [St.en, upd_self], r2⟩

end Go.Sm

namespace Go.Sm
open Go.RowKit

variable {P : Program} {N : Nat} {w0 : Base} {s : St} {a : Act} {w w' : World} {β : Nat → Value} {X : Nat → Prop} {B M M' : Nat → Prop}

theorem SrcV.of {bs : List UInt8} {c : Value} (h : Rd w w0.arg M (vB bs) c) (hl : ∀ b, w0.arg b → w.heap[b]? = w0.heap[b]?) : SrcV w0 bs c := by
  refine ⟨Rd.one h, ?_⟩
  simp only [Rd] at h ⊢
  rcases h with h | ⟨b, off, cap, h1, h2, _, _, h5, h6⟩
  · exact .inl h
  · have ha := h5 trivial
    refine .inr ⟨b, off, cap, h1, h2, not_false, ha.1, fun _ => ha, ?_⟩
    rw [vB_map] at h6 ⊢
    obtain ⟨i1, i2⟩ := rdEs_cells _ _ h6
    exact rdEs_vals _ _ i2 fun n u hu => by rw [cell_congr (hl b ha).symm]; exact i1 n u hu

end Go.Sm

namespace Go.Sm
open Go.RowKit

variable {P : Program} {N : Nat} {w0 : Base} {s : St} {a : Act} {w : World} {β : Nat → Value}

/-- What is told by v may be told by v'. -/
def ConvW (N : Nat) (w0 : Base) (v v' : FV) : Prop := ∀ (s : St) (a : Act) (w : World) (β : Nat → Value), Rel N w0 s a w β → ∀ val, FVRel (s.en w w0.arg β) v val → FVRel (s.en w w0.arg β) v' val
theorem Rel.conv {d : Nat} {v v' : FV} {tm : List (Nat × FV)} {ob : List (Nat × Ob)} (R : Rel N w0 ⟨(d, v) :: tm, ob⟩ a w β) (h : ConvW N w0 v v') : Rel N w0 ⟨(d, v') :: tm, ob⟩ a w β := by
  refine ⟨R.sz, R.df, ?_, R.ob, R.nd, R.dj, R.ge, R.low, R.fx⟩
  intro j g hj
  rw [lk_cons] at hj
  split at hj
  · rename_i e; subst e
    simp only [Option.some.injEq] at hj; subst hj
    exact h _ a w β R _ (R.tm d v (lk_cons_self _ _ _))
  · rename_i e
    exact R.tm j g (by rw [lk_cons_ne _ _ e]; exact hj)
/-- A source's bytes. -/
theorem ConvW.src {bs : List UInt8} {c : Value} (hs : SrcV w0 bs c) : ConvW N w0 (.c (.d (.v c))) (.c (.d (vB bs))) := fun s a w β R val hv => by
  simp only [FVRel, CRel] at hv ⊢
  have hv : val = c := by have := hv.2.2; simp only [Rd] at this; exact this.1
  rw [hv]
  exact ⟨rfl, hs.1, hs.at R.low.block R.low.size (fun _ h => h) fun b hb => mine_not_arg (R.M_mine hb)⟩

def drV (cv : List (Nat × FV)) (F : Fn) (w0 : Base) (Q : Exit → Act → World → Prop) (all : Array Oper) (k : List It) (m : Nat) : List (List Nat) → Nat → List Oper → St → Prop
  | _, _, [], s => J F.P F.N w0 Q (.ops all (all.toList.drop m) :: k) s
  | [], _, _ :: _, _ => False
  | b :: bs, i, o :: os, s =>
    let go (s : St) : Prop := match o.dst with
      | some d => Nat.blt d F.N = true ∧ match ev F.T F.E (opdB b s) (obB b s) (d * 64) o.type o.op with
        | .q p v ns => p ∧ freshOs s.ob ns = true ∧ nsOk d ns = true ∧ (match lk cv i with
            | none => drV cv F w0 Q all k m bs (i + 1) os ⟨(d, v) :: s.tm, ns ++ s.ob⟩
            | some v' => ConvW F.N w0 v v' ∧ drV cv F w0 Q all k m bs (i + 1) os ⟨(d, v') :: s.tm, ns ++ s.ob⟩)
        | .el xs j => (0 ≤ j ∧ j < xs.length) ∧ Later (∀ e, xs[j.toNat]? = some e → drV cv F w0 Q all k m bs (i + 1) os ⟨(d, .c (.rd e)) :: s.tm, s.ob⟩)
        | .ld xs j j' size agg => j < xs.length ∧ Later (∀ e, xs[j]? = some e → match lk cv i with
            | none => drV cv F w0 Q all k m bs (i + 1) os ⟨(d, ldV e j' size agg) :: s.tm, s.ob⟩
            | some v' => ConvW F.N w0 (ldV e j' size agg) v' ∧ drV cv F w0 Q all k m bs (i + 1) os ⟨(d, v') :: s.tm, s.ob⟩)
        | .call f fs => DrC F w0 Q all k m bs (i + 1) os s b d f fs
        | _ => False
      | none => False
    match o.guard with
    | none => go s
    | some (j, want) => match (all[j]?).bind (·.dst), o.dst with
      | some d, some d' => Nat.blt d' F.N = true ∧ match tmB b s d with
        | some (.c (.d (.v (.bool x)))) => br x want (go ⟨(d, .c (.d (.v (.bool want)))) :: s.tm, s.ob⟩)
            (drV cv F w0 Q all k m bs (i + 1) os ⟨(d', .und) :: (d, .c (.d (.v (.bool (!want))))) :: s.tm, s.ob⟩)
        | some .und => drV cv F w0 Q all k m bs (i + 1) os ⟨(d', .und) :: s.tm, s.ob⟩
        | _ => False
      | _, _ => False


theorem drV_sound {cv : List (Nat × FV)} {F : Fn} (hF : FnOk F) {Q : Exit → Act → World → Prop} {all : Array Oper} {k : List It} {m : Nat} : ∀ {os : List Oper} {bs : List (List Nat)} {i : Nat} {s : St}, (∀ j o, os[j]? = some o → all[i + j]? = some o) →
    drV cv F w0 Q all k m bs i os s → DrS F w0 Q all k m bs i os s
  | [], bs, i, s, _, h => by
    have h : J F.P F.N w0 Q (.ops all (all.toList.drop m) :: k) s := by cases bs <;> simpa only [drV] using h
    have h' : J F.P F.N w0 (cont F.P F.N w0 Q k) [.ops all (all.toList.drop m)] s := by
      intro a w β R
      have := h a w β R
      simp only [cont] at this ⊢
      exact this
    cases bs <;> simpa only [DrS] using h'
  | o :: os, [], i, s, _, h => by simp only [drV] at h
  | o :: os, b :: bs, i, s, hall, h => by
    have hi : all[i]? = some o := by simpa using hall 0 o rfl
    have hall' : ∀ j o, os[j]? = some o → all[i + 1 + j]? = some o := fun j o' h => by
      rw [show i + 1 + j = i + (j + 1) by omega]; exact hall (j + 1) o' (by simpa using h)
    -- one operation that is carried out, in the state s'
    have go : ∀ {s' : St}, (∀ {v : FV} {ns : List (Nat × Ob)} {d : Nat}, o.dst = some d → (∀ s a w β (K : Act → World → Prop), Rel F.N w0 s a w β → Le (lk (cut b s').tm) (lk s.tm) → Le (lk (cut b s').ob) (lk s.ob) → freshOs s.ob ns = true →
          (∀ a' w' β', Rel F.N w0 ⟨(d, v) :: s.tm, ns ++ s.ob⟩ a' w' β' → K a' w') → o.wp F.P a w K (cont F.P F.N w0 Q k)) → GoodOp F w0 (cont F.P F.N w0 Q k) all i (cut b s') d v ns) →
        (match o.dst with
      | some d => Nat.blt d F.N = true ∧ match ev F.T F.E (cut b s').opd (lk (cut b s').ob) (d * 64) o.type o.op with
        | .q p v ns => p ∧ freshOs s'.ob ns = true ∧ nsOk d ns = true ∧ (match lk cv i with
            | none => drV cv F w0 Q all k m bs (i + 1) os ⟨(d, v) :: s'.tm, ns ++ s'.ob⟩
            | some v' => ConvW F.N w0 v v' ∧ drV cv F w0 Q all k m bs (i + 1) os ⟨(d, v') :: s'.tm, ns ++ s'.ob⟩)
        | .el xs j => (0 ≤ j ∧ j < xs.length) ∧ (∀ e, xs[j.toNat]? = some e → drV cv F w0 Q all k m bs (i + 1) os ⟨(d, .c (.rd e)) :: s'.tm, s'.ob⟩)
        | .ld xs j j' size agg => j < xs.length ∧ (∀ e, xs[j]? = some e → match lk cv i with
            | none => drV cv F w0 Q all k m bs (i + 1) os ⟨(d, ldV e j' size agg) :: s'.tm, s'.ob⟩
            | some v' => ConvW F.N w0 (ldV e j' size agg) v' ∧ drV cv F w0 Q all k m bs (i + 1) os ⟨(d, v') :: s'.tm, s'.ob⟩)
        | .call f fs => DrC F w0 Q all k m bs (i + 1) os s' b d f fs
        | _ => False
      | none => False) → DrS F w0 Q all k m (b :: bs) i (o :: os) s' := by
      intro s' hgood h
      cases hd : o.dst with
      | none => rw [hd] at h; exact h.elim
      | some d =>
        rw [hd] at h
        obtain ⟨hlt, h⟩ := h
        have hlt : d < F.N := by simpa [Nat.blt_eq] using hlt
        simp only [DrS]
        split at h
        · rename_i p v ns he
          obtain ⟨hp, hf, hn, h⟩ := h
          split at h
          · exact ⟨d, v, ns, hd, hlt, hf, hn, hgood hd fun s a w β K R l1 l2 f n => core hF hd hlt he (.inl ⟨p, rfl, hp⟩) R l1 l2 f n, drV_sound hF hall' h⟩
          · rename_i v' _
            obtain ⟨hcv, h⟩ := h
            exact ⟨d, v', ns, hd, hlt, hf, hn, hgood hd fun s a w β K R l1 l2 f n => core hF hd hlt he (.inl ⟨p, rfl, hp⟩) R l1 l2 f fun a' w' β' R' => n a' w' β' (R'.conv hcv), drV_sound hF hall' h⟩
        · rename_i xs j he
          obtain ⟨hj, h⟩ := h
          have hx : xs[j.toNat]? = some (xs[j.toNat]'(by omega)) := by simp
          exact ⟨d, _, [], hd, hlt, rfl, nsOk_nil d, hgood hd fun s a w β K R l1 l2 f n => core hF hd hlt he (.inr (.inl ⟨xs, j, _, rfl, hj, hx, rfl, rfl⟩)) R l1 l2 f n, drV_sound hF hall' (h _ hx)⟩
        · rename_i xs j j' size agg he
          obtain ⟨hj, h⟩ := h
          have hx : xs[j]? = some (xs[j]'hj) := by simp
          have h := h _ hx
          split at h
          · exact ⟨d, _, [], hd, hlt, rfl, nsOk_nil d, hgood hd fun s a w β K R l1 l2 f n => core hF hd hlt he (.inr (.inr (.inl ⟨xs, j, j', size, agg, _, rfl, hx, rfl, rfl⟩))) R l1 l2 f n, drV_sound hF hall' h⟩
          · rename_i v' _
            obtain ⟨hcv, h⟩ := h
            exact ⟨d, v', [], hd, hlt, rfl, nsOk_nil d, hgood hd fun s a w β K R l1 l2 f n => core hF hd hlt he (.inr (.inr (.inl ⟨xs, j, j', size, agg, _, rfl, hx, rfl, rfl⟩))) R l1 l2 f fun a' w' β' R' => n a' w' β' (R'.conv hcv), drV_sound hF hall' h⟩
        · rename_i f fs he
          obtain ⟨args, q, g1, g2, g3, g4, g5⟩ := h
          rw [← obB_eq] at g1
          exact ⟨d, _, _, hd, hlt, g3, g4, hgood hd fun s a w β K R l1 l2 f n => core hF hd hlt he (.inr (.inr (.inr ⟨_, _, args, q, rfl, g1, g2, rfl, rfl⟩))) R l1 l2 f n, g5⟩
        · exact h.elim
    simp only [drV, ← opdB_eq, ← obB_eq, ← tmB_eq] at h
    cases hg : o.guard with
    | none =>
      rw [hg] at h
      refine go (fun {v ns d} hd hc => ?_) h
      intro s2 a w β K R l1 l2 fr nx
      have hw : Region.wanted o (yielded all a.tmps) = true := by simp [Region.wanted, hg]
      simp only [wpOp, hi, if_pos hw]
      exact .inl (hc s2 a w β K R l1 l2 fr nx)
    | some g =>
      obtain ⟨j, want⟩ := g
      rw [hg] at h
      simp only at h
      split at h
      · rename_i dj d' hj hd'
        obtain ⟨hlt, h⟩ := h
        have hlt : d' < F.N := by simpa [Nat.blt_eq] using hlt
        have ext1 : ∀ {x : Bool}, lk (cut b s).tm dj = some (.c (.d (.v (.bool x)))) → ∀ t, lk s.tm t = lk ((dj, FV.c (.d (.v (.bool x)))) :: s.tm) t := by
          intro x hx t
          rw [lk_cut_tm] at hx
          split at hx
          · rw [lk_cons]
            split
            · rename_i e; rw [← e]; exact hx
            · rfl
          · cases hx
        have wantd : ∀ {x : Bool} {s2 : St} {a : Act} {w : World} {β : Nat → Value}, lk (cut b s).tm dj = some (.c (.d (.v (.bool x)))) → Rel F.N w0 s2 a w β → Le (lk (cut b s).tm) (lk s2.tm) →
            Region.wanted o (yielded all a.tmps) = (x == want) := by
          intro x s2 a w β hx R l
          have hv := bool_rel (R.tm dj _ (l _ _ hx))
          have hy := yielded_bool hj hv
          simp only [Region.wanted, hg, hy]
          cases x <;> cases want <;> rfl
        split at h
        · rename_i x hx
          have lecut : ∀ {c : Bool}, x = c → ∀ t, lk (cut b ⟨(dj, .c (.d (.v (.bool c)))) :: s.tm, s.ob⟩).tm t = lk (cut b s).tm t := by
            intro c e t
            rw [lk_cut_tm, lk_cut_tm, ← e]
            split
            · exact (ext1 hx t).symm
            · rfl
          by_cases hxw : x = want
          · have := go (s' := ⟨(dj, .c (.d (.v (.bool want)))) :: s.tm, s.ob⟩) (fun {v ns d} hd hc => ?_) (h.1 hxw)
            · have e1 := ext1 hx
              rw [hxw] at e1
              exact @DrS.ext w0 F Q all k m (o :: os) (b :: bs) i ⟨(dj, .c (.d (.v (.bool want)))) :: s.tm, s.ob⟩ s e1 (fun _ => rfl) this
            · intro s2 a w β K R l1 l2 fr nx
              have l1' : Le (lk (cut b s).tm) (lk s2.tm) := fun t f ht => l1 t f (by rw [lecut hxw]; exact ht)
              have hw := wantd hx R l1'
              rw [hxw] at hw
              simp only [wpOp, hi]
              rw [if_pos (by rw [hw]; cases want <;> rfl)]
              exact .inl (hc s2 a w β K R l1 l2 fr nx)
          · have hxn : x = (!want) := by cases x <;> cases want <;> first | rfl | exact absurd rfl hxw
            have h2 := drV_sound hF hall' (h.2 hxn)
            simp only [DrS]
            refine ⟨d', .und, [], hd', hlt, rfl, nsOk_nil d', ?_, @DrS.ext w0 F Q all k m os bs (i + 1) ⟨(d', .und) :: (dj, .c (.d (.v (.bool (!want))))) :: s.tm, s.ob⟩ ⟨(d', .und) :: s.tm, s.ob⟩ (fun t => ?_) (fun _ => rfl) h2⟩
            · intro s2 a w β K R l1 l2 fr nx
              have hw := wantd hx R l1
              simp only [wpOp, hi]
              rw [if_neg (by rw [hw, hxn]; cases want <;> simp), hd']
              exact nx _ _ _ (R.setTm hlt (by simp only [FVRel]))
            · simp only [lk_cons]
              split
              · rfl
              · have := ext1 hx t
                rw [hxn, lk_cons] at this
                exact this
        · rename_i hx
          have h2 := drV_sound hF hall' h
          simp only [DrS]
          refine ⟨d', .und, [], hd', hlt, rfl, nsOk_nil d', ?_, h2⟩
          intro s2 a w β K R l1 l2 fr nx
          have hv := R.tm dj _ (l1 _ _ hx)
          simp only [FVRel] at hv
          have hy := yielded_undef hj hv
          simp only [wpOp, hi]
          rw [if_neg (by simp [Region.wanted, hg, hy]), hd']
          exact nx _ _ _ (R.setTm hlt (by simp only [FVRel]))
        · exact h.elim
      · exact h.elim


theorem J.drV (cv : List (Nat × FV)) {F : Fn} (hF : FnOk F) {Q : Exit → Act → World → Prop} {id : Nat} {ops : Array Oper} {k : List It} (hmix : F.P.follows .mixedOrders = true) (m : Nat) (rows bs : List (List Nat)) (hok : drawOk ops.toList m rows bs = true)
    (h : drV cv F w0 Q ops k m bs 0 (ops.toList.take m) s) : J F.P F.N w0 Q (.code (.region id ops true) :: k) s := by
  refine J.draw hmix m rows bs hok (drV_sound hF (fun j o ho => ?_) h)
  rw [List.getElem?_take] at ho
  split at ho
  · simpa using ho
  · cases ho

attribute [simp] drV
end Go.Sm
