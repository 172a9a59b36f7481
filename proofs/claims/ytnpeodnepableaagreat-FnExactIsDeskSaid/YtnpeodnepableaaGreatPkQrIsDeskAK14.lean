/- Towards the rows of this seat: what the functions do, as contracts over plain data. -/
import Derived.Test.YtnpeodnepableaaGreatPkQrIsDeskAK13
namespace Go.Sm
open Go.RowKit

variable {P : Program} {N : Nat} {w0 : Base} {s : St} {a : Act} {w w' : World} {β : Nat → Value} {X : Nat → Prop} {B M M' : Nat → Prop}

abbrev u64D (x : Int) : D := .v (.int .u64 x)
abbrev byD (b : UInt8) : D := .v (.int .u8 (b.toNat : Int))
abbrev vB (bs : List UInt8) : D := .vw true 1 (bs.map fun b => [byD b])
abbrev srcCs (c : Value) (x : Int × Int) : List C := [.d (.v c), .d (i64 x.1), .d (u64D x.2)]
abbrev srcVs (c : Value) (x : Int × Int) : Array Value := #[c, .int .i64 x.1, .int .u64 x.2]

/-- A value that is a view of these bytes, in memory that stays as it was. -/
def SrcV (w0 : Base) (bs : List UInt8) (c : Value) : Prop := c.oneCell' = true ∧ Rd w0.toWorld w0.arg (fun _ => False) (vB bs) c

theorem rdEs_cells {b : Nat} : ∀ (us : List Value) (off : Nat), RdEs w B M 1 (us.map fun u => [D.v u]) b off → (∀ n u, us[n]? = some u → w.cell? ⟨b, off + n, none⟩ = some u) ∧ ∀ u ∈ us, u.oneCell' = true
  | [], _, _ => ⟨fun n u h => by simp at h, by simp⟩
  | u :: us, off, h => by
    simp only [List.map_cons, RdEs, RdCs, Rd] at h
    obtain ⟨_, ⟨⟨c, h1, rfl, h2⟩, _⟩, h3⟩ := h
    obtain ⟨i1, i2⟩ := rdEs_cells us (off + 1) h3
    refine ⟨fun n x hx => ?_, fun x hx => ?_⟩
    · cases n with
      | zero => simp only [List.getElem?_cons_zero, Option.some.injEq] at hx; subst hx; simpa using h1
      | succ n => have := i1 n x (by simpa using hx); rwa [show off + 1 + n = off + (n + 1) by omega] at this
    · rcases List.mem_cons.1 hx with rfl | hx
      · exact h2
      · exact i2 x hx
theorem cell_congr {w w' : World} {b : Nat} (h : w'.heap[b]? = w.heap[b]?) (off : Nat) : w'.cell? ⟨b, off, none⟩ = w.cell? ⟨b, off, none⟩ := by
  unfold World.cell?
  simp only [h]
theorem vB_map (bs : List UInt8) : (bs.map fun b => [byD b]) = (bs.map fun b => Value.int .u8 (b.toNat : Int)).map fun u => [D.v u] := by rw [List.map_map]; rfl
theorem SrcV.at {bs : List UInt8} {c : Value} (h : SrcV w0 bs c) (hl : ∀ b, w0.arg b → w.heap[b]? = w0.heap[b]?) (hz : w0.heap.size ≤ w.heap.size) (hB : ∀ b, w0.arg b → B b) (hM : ∀ b, M b → ¬ w0.arg b) : Rd w B M (vB bs) c := by
  obtain ⟨_, h⟩ := h
  simp only [Rd] at h ⊢
  rcases h with h | ⟨b, off, cap, h1, h2, _, h4, h5, h6⟩
  · exact .inl h
  · have ha := h5 trivial
    refine .inr ⟨b, off, cap, h1, h2, fun hm => hM b hm ha, Nat.lt_of_lt_of_le h4 hz, fun _ => hB b ha, ?_⟩
    rw [vB_map] at h6 ⊢
    obtain ⟨i1, i2⟩ := rdEs_cells _ _ h6
    exact rdEs_vals _ _ i2 fun n u hu => by rw [cell_congr (hl b ha)]; exact i1 n u hu
/-! ### the contract -/
/-- A function of a source and other data: what it may return (one of the q i), and the source behind it. -/
def CallS (P : Program) (f : FuncId) (bs : List UInt8) (x : Int × Int) (args : List RV) {ι : Type} (Post : ι → Prop) (q : ι → RV) (x' : ι → Int × Int) : Prop :=
  Entered P f ∧ ∀ (w : World) (g : Nat) (T : TypeId) (c : Value) (vs us : List Value), w.heap[g]? = some (.cells (srcVs c x) T (0, 0)) → SrcV ⟨w, (· = g), fun _ => none⟩ bs c → AVsX w (· = g) args vs us →
    Calls P f (Value.pointer (some ⟨g, 0, none⟩) :: vs).toArray w fun e w' => ∃ i, Post i ∧ ∃ v T', e = .returned v ∧ w'.heap[g]? = some (.cells (srcVs c (x' i)) T' (0, 0)) ∧ OwnV w' (fun b => w.heap.size ≤ b) (q i) v ∧ Low ⟨w, (· = g), fun _ => none⟩ w w'

/-- The end of such a body. -/
def RetS (T : Tab) (rs : List ResultVar) (c : Value) {ι : Type} (Post : ι → Prop) (q : ι → RV) (x' : ι → Int × Int) (s : St) : Prop :=
  match expRs T s rs with
  | some (ps, ks) => ks.Nodup ∧ ks.elem 0 = false ∧ freshCs (ps.flatMap (·.2)) = true ∧ ∃ i, Post i ∧ toRV ps = q i ∧ lk s.ob 0 = some (.var (srcCs c (x' i)))
  | none => False
/-! ### the caller's other arguments: what is static, and arrays that are lent -/
def argSC (K : Nat) (ob : Nat → Option Ob) : C → Option D
  | .d x => match stA x with
    | true => some x
    | false => none
  | .ob k => match ob k, Nat.beq k K with
    | some (.arr _ z xs), false => match stAEs xs with
      | true => some (.vw true z xs)
      | false => none
    | _, _ => none
  | _ => none
def argSCs (K : Nat) (ob : Nat → Option Ob) : List C → Option (List D)
  | [] => some []
  | c :: cs => match argSC K ob c, argSCs K ob cs with
    | some d, some ds => some (d :: ds)
    | _, _ => none
def argSF (K : Nat) (ob : Nat → Option Ob) : FV → Option RV
  | .c x => match argSC K ob x with
    | some d => some (.one d)
    | none => none
  | .g xs => match argSCs K ob xs with
    | some ds => some (.agg ds)
    | none => none
  | _ => none
def argsS (K : Nat) (ob : Nat → Option Ob) : List FV → Option (List RV)
  | [] => some []
  | f :: r => match argSF K ob f, argsS K ob r with
    | some d, some ds => some (d :: ds)
    | _, _ => none
theorem argSC_sound (R : Rel N w0 s a w β) {K : Nat} (hcl : ∀ b ∈ obFp (s.en w w0.arg β) K, ∃ cur e, w.heap[b]? = some (.cells cur e (0, 0))) {c : C} {d : D} {v : Value} (h : argSC K (lk s.ob) c = some d) (hv : CRel (s.en w w0.arg β) c v) :
    ArgX w (fun b => b ∈ obFp (s.en w w0.arg β) K) d v := by
  have hB : ∀ b, w0.arg b → ¬ b ∈ obFp (s.en w w0.arg β) K := fun b hb hX => arg_not_mine hb (R.ge K b hX)
  unfold argSC at h
  split at h
  · rename_i x
    split at h
    · rename_i hs
      simp only [Option.some.injEq] at h; subst h
      have hr := Rd.argA hB hcl x v hs hv.2.2
      cases x with
      | own e z xs => simp [stA] at hs
      | v y => exact hr
      | vw b z xs => exact hr
      | mp es => exact hr
    · cases h
  · rename_i k
    split at h
    · rename_i e z xs hob hel
      split at h
      · rename_i hs
        simp only [Option.some.injEq] at h; subst h
        obtain ⟨_, hv, _⟩ := hv
        have hv : v = β k := hv
        have hr : OwnRel w w0.arg (s.en w w0.arg β).M e z xs (β k) := R.ob k _ hob
        show Rd w _ _ _ v
        simp only [Rd]
        rcases hr with ⟨rfl, h⟩ | ⟨g, cap, cur, r1, r2, r3, r4, r5, r6⟩
        · exact .inl ⟨rfl, none, 0, hv.trans h, fun _ => rfl⟩
        · have hgk : g ∈ obFp (s.en w w0.arg β) k := by
            rw [obFp_arr (en := s.en w w0.arg β) hob]
            show g ∈ fp w _ (β k)
            rw [r1, fp_own_some]; simp
          have hne : k ≠ K := fun e => by
            rw [e] at hel
            have : Nat.beq K K = true := Nat.beq_refl K
            rw [hel] at this; cases this
          have hX : ¬ g ∈ obFp (s.en w w0.arg β) K := R.dj k K hne g hgk
          exact .inr ⟨g, 0, cap, hv.trans r1, r2, hX, lt_of_heap r3, fun _ => ⟨lt_of_heap r3, hX⟩, RdEs.argA hB hcl xs 0 hs r6⟩
      · cases h
    · cases h
  · cases h
theorem argSCs_sound (R : Rel N w0 s a w β) {K : Nat} (hcl : ∀ b ∈ obFp (s.en w w0.arg β) K, ∃ cur e, w.heap[b]? = some (.cells cur e (0, 0))) : ∀ {cs : List C} {ds : List D} {vs : List Value}, argSCs K (lk s.ob) cs = some ds → CsRel (s.en w w0.arg β) cs vs → DsV (ArgX w (fun b => b ∈ obFp (s.en w w0.arg β) K)) ds vs
  | [], ds, [], h, _ => by simp [argSCs] at h; subst h; rfl
  | [], _, _ :: _, _, h => h.elim
  | _ :: _, _, [], _, h => h.elim
  | c :: cs, ds, v :: vs, h, hv => by
    simp only [argSCs] at h
    split at h
    · rename_i d ds' h1 h2
      simp only [Option.some.injEq] at h; subst h
      exact ⟨v, vs, rfl, argSC_sound R hcl h1 hv.1, argSCs_sound R hcl h2 hv.2⟩
    · cases h
theorem argsS_sound (R : Rel N w0 s a w β) {K : Nat} (hcl : ∀ b ∈ obFp (s.en w w0.arg β) K, ∃ cur e, w.heap[b]? = some (.cells cur e (0, 0))) : ∀ {fs : List FV} {rs : List RV} {vs : List Value}, argsS K (lk s.ob) fs = some rs → FVsV (s.en w w0.arg β) fs vs →
    ∃ us, AVsX w (fun b => b ∈ obFp (s.en w w0.arg β) K) rs vs us
  | [], rs, vs, h, hv => by simp [argsS] at h; subst h; exact ⟨[], hv, rfl⟩
  | f :: fs, rs, vs, h, hv => by
    simp only [argsS] at h
    obtain ⟨v, q, rfl, h3, h4⟩ := hv
    split at h
    · rename_i r rs' h1 h2
      simp only [Option.some.injEq] at h; subst h
      obtain ⟨us, u1⟩ := argsS_sound R hcl h2 h4
      unfold argSF at h1
      split at h1
      · rename_i x
        split at h1
        · rename_i d hd
          simp only [Option.some.injEq] at h1; subst h1
          simp only [FVRel] at h3
          exact ⟨v :: us, v, q, [v], us, rfl, rfl, rfl, ⟨v, [], rfl, argSC_sound R hcl hd h3, rfl⟩, u1⟩
        · cases h1
      · rename_i xs
        split at h1
        · rename_i ds hd
          simp only [Option.some.injEq] at h1; subst h1
          simp only [FVRel] at h3
          obtain ⟨x, rfl, hx⟩ := h3
          exact ⟨x ++ us, _, q, x, us, rfl, rfl, rfl, argSCs_sound R hcl hd hx, u1⟩
        · cases h1
      · cases h1
    · cases h

/-- A call of such a function, and the world behind it. -/
theorem Rel.srcCall (R : Rel N w0 s a w β) {d f K : Nat} {fs : List FV} {args : List RV} {bs : List UInt8} {c : Value} {x : Int × Int} {ι : Type} {Post : ι → Prop} {q : ι → RV} {x' : ι → Int × Int} (hs : SrcV w0 bs c) (hd : d < N)
    (hK : lk s.ob K = some (.var (srcCs c x))) (ha : argsS K (lk s.ob) fs = some args) (hc : CallS P f bs x args Post q x') (hfr : ∀ i, freshOs ((K, .var (srcCs c (x' i))) :: s.ob) (impOs (d * 64) (cellsR (q i))) = true)
    {vs : List Value} (hv : FVsV (s.en w w0.arg β) (.c (.ref K 0) :: fs) vs) : Calls P f vs.toArray w fun e w' => ∃ i, Post i ∧ ∃ v, e = .returned v ∧ ∃ β', Rel N w0 ⟨(d, impF (d * 64) (q i)) :: s.tm, impOs (d * 64) (cellsR (q i)) ++ (K, .var (srcCs c (x' i))) :: s.ob⟩ (a.put (some d) v) w' β' := by
  obtain ⟨v0, vs', rfl, h1, h2⟩ := hv
  simp only [FVRel, CRel] at h1
  obtain ⟨_, g, hβ, rfl⟩ := h1
  have hβ : β K = .pointer (some ⟨g, 0, none⟩) := hβ
  have hr := R.ob K _ hK
  simp only [ObRel] at hr
  obtain ⟨g', cur, T, o1, o2, o3⟩ := hr
  have o1 : β K = .pointer (some ⟨g', 0, none⟩) := o1
  rw [hβ] at o1
  simp only [Value.pointer.injEq, Option.some.injEq, Addr.mk.injEq, and_true] at o1
  subst o1
  have hcur : cur = srcVs c x := by
    have := (csRel_vals (us := [c, .int .i64 x.1, .int .u64 x.2]) o3).1
    apply Array.ext'
    rw [this]
  rw [hcur] at o2
  have hbk : blk (β K) = some g := by rw [hβ]; rfl
  have hfpK : obFp (s.en w w0.arg β) K = [g] := by
    rw [obFp_var (en := s.en w w0.arg β) hK]
    show (blk (β K)).toList = _
    rw [hbk]; rfl
  have hgK : g ∈ obFp (s.en w w0.arg β) K := by rw [hfpK]; simp
  have hmine := R.ge K g hgK
  have hlt := lt_of_heap o2
  have hsv : SrcV ⟨w, (· = g), fun _ => none⟩ bs c := ⟨hs.1, hs.at R.low.block R.low.size (fun b hb => ⟨Nat.lt_of_lt_of_le hb.1 R.low.size, fun e => by subst e; exact arg_not_mine hb hmine⟩) fun _ h => h.elim⟩
  have hX : (fun b => b ∈ obFp (s.en w w0.arg β) K) = (· = g) := by
    funext b
    rw [hfpK]
    simp
  obtain ⟨us, u1⟩ := argsS_sound R (K := K) (fun b hb => by
    rw [hfpK, List.mem_singleton] at hb
    subst hb
    exact ⟨_, _, o2⟩) ha h2
  rw [hX] at u1
  refine Calls.mono (hc.2 w g T c vs' us o2 hsv u1) fun e w' ⟨i, hi, v, T', he, hg', hown, hlow⟩ => ?_
  have R1 := R.setObj (o' := .var (srcCs c (x' i))) (ob := .cells (srcVs c (x' i)) T' (0, 0)) hK rfl hbk (by
      rw [obFp_var (cs := srcCs c (x' i)) (lk_cons_self _ _ _)]
      show (blk (β K)).toList = _
      rw [hbk]; rfl) (fun _ => ⟨g, srcVs c (x' i), T', hβ, setOb_self w g _ hlt, ⟨rfl, hs.1, by simp only [Rd]; exact ⟨trivial, hs.1⟩⟩, ⟨rfl, rfl, by simp only [Rd]; exact ⟨trivial, rfl⟩⟩, ⟨rfl, rfl, by simp only [Rd]; exact ⟨trivial, rfl⟩⟩, trivial⟩)
  have hb : Bel (World.setOb w g (.cells (srcVs c (x' i)) T' (0, 0))).heap.size (World.setOb w g (.cells (srcVs c (x' i)) T' (0, 0))) w' := by
    refine ⟨⟨hlow.os, hlow.tape, hlow.output, by rw [setOb_size]; exact hlow.size, fun b hb => ?_⟩, hlow.drawn⟩
    rw [setOb_size] at hb
    by_cases hbg : b = g
    · subst hbg; rw [hg', setOb_self w b _ hlt]
    · rw [setOb_ne w _ hbg]; exact hlow.block b ⟨hb, hbg⟩
  obtain ⟨us', q1, q2, q3, q4, q5⟩ := hown
  obtain ⟨β', g1, g2⟩ := R1.import hb (hfr i) q2 q3 q4 (by rw [setOb_size]; exact q5)
  exact ⟨i, hi, v, he, β', g1.setTm hd (impF_rel q1 g2)⟩

/-- A call of such a function. -/
theorem CallW.src {Q : Exit → Act → World → Prop} {k : List It} {d f K : Nat} {fs : List FV} {args : List RV} {bs : List UInt8} {c : Value} {x : Int × Int} {ι : Type} {Post : ι → Prop} {q : ι → RV} {x' : ι → Int × Int} (hs : SrcV w0 bs c) (hd : d < N)
    (hK : lk s.ob K = some (.var (srcCs c x))) (ha : argsS K (lk s.ob) fs = some args) (hc : CallS P f bs x args Post q x') (hfr : ∀ i, freshOs ((K, .var (srcCs c (x' i))) :: s.ob) (impOs (d * 64) (cellsR (q i))) = true)
    (hj : ∀ i, Post i → J P N w0 Q k ⟨(d, impF (d * 64) (q i)) :: s.tm, impOs (d * 64) (cellsR (q i)) ++ (K, .var (srcCs c (x' i))) :: s.ob⟩) : CallW P N w0 Q k s d f (.c (.ref K 0) :: fs) :=
  ⟨hc.1, fun _ _ _ R _ hv => Calls.mono (R.srcCall hs hd hK ha hc hfr hv) fun _ _ ⟨i, hi, v, he, β', hR⟩ => ⟨v, he, _, β', hR, hj i hi⟩⟩

/-! ### a new source -/
/-- The end of such a body. -/
def RetN (rs : List ResultVar) (c : Value) (Post : Int × Int → Prop) (s : St) : Prop :=
  match rs with
  | [.tmp t] => match lk s.tm t with
    | some (.c (.ref K 0)) => ∃ x', Post x' ∧ lk s.ob K = some (.var (srcCs c x'))
    | _ => False
  | _ => False
attribute [simp] RetS RetN argSC argSCs argSF argsS
end Go.Sm
