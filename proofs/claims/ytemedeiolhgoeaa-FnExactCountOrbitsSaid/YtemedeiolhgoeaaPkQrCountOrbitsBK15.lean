/- Towards the rows of this seat: what the functions do, as contracts over plain data. -/
import Derived.Test.YtemedeiolhgoeaaPkQrCountOrbitsBK11
namespace Go.Sm
open Go.RowKit

variable {P : Program} {N : Nat} {w0 : Base} {s : St} {a : Act} {w : World} {β : Nat → Value}

theorem EsV_nils {Q : D → Value → Prop} (hQ : Q (.v nilV) nilV) : ∀ n : Nat, EsV Q 1 (List.replicate n [.v nilV]) (List.replicate n nilV)
  | 0 => rfl
  | n + 1 => ⟨[nilV], List.replicate n nilV, rfl, rfl, ⟨nilV, [], rfl, hQ, rfl⟩, EsV_nils hQ n⟩

theorem run_clear_nil {t e ty : TypeId} {c : Nat} (hu : P.underlying t = some (.slice e)) (w : World) : (Builtin.clear_ #[t] ty #[.slice none 0 c]).run P w = .ok (.tuple #[]) w := by
  simp [Builtin.clear_, run_underlying hu]
theorem run_clear_zero {t e ty : TypeId} {ad : Option Addr} {c : Nat} (hu : P.underlying t = some (.slice e)) (w : World) : (Builtin.clear_ #[t] ty #[.slice ad 0 c]).run P w = .ok (.tuple #[]) w := by
  cases ad <;> simp [Builtin.clear_, run_underlying hu]
theorem run_clear_row {t e ty e' : TypeId} {g off n c : Nat} {cur : Array Value} (hu : P.underlying t = some (.slice e)) (hz : ∀ w : World, (zeroValue e).run P w = .ok nilV w) (w : World) (h0 : n ≠ 0)
    (hg : w.heap[g]? = some (.cells cur e' (0, 0))) (hl : off + n ≤ cur.size) :
    (Builtin.clear_ #[t] ty #[.slice (some ⟨g, off, none⟩) n c]).run P w = .ok (.tuple #[]) (w.setRow g (cur.toList.take off ++ List.replicate n nilV ++ cur.toList.drop (off + n)).toArray) := by
  have hzc : (Builtin.zeroCells nilV.cells n).toList = List.replicate n nilV := by
    rw [zeroCells_list]
    show (List.replicate n [nilV]).flatten = _
    rw [List.flatten_replicate_singleton]
  have hst := run_storeCells_at P g off e' (List.replicate n nilV) 0 cur w hg (by simp; omega) (fun v hv => by rw [(List.mem_replicate.1 hv).2]; rfl)
  simp only [Nat.add_zero, List.length_replicate] at hst
  obtain ⟨m, rfl⟩ : ∃ m, n = m + 1 := ⟨n - 1, by omega⟩
  simp [Builtin.clear_, run_underlying hu, hz, hzc, hst]

theorem OpW.eff {Q : Exit → Act → World → Prop} {all : Array Oper} {os : List Oper} {k : List It} {o : Oper} (hd : o.dst = none)
    (h : ∀ a w β, Rel N w0 s a w β → ∃ val w' s' β', (execOp a.eval o).run P w = .ok (.value val) w' ∧ Rel N w0 s' a w' β' ∧ J P N w0 Q (.ops all os :: k) s') : OpW P N w0 Q all os k s o := by
  intro a w β R
  obtain ⟨val, w', s', β', h1, h2, h3⟩ := h a w β R
  unfold Oper.wp
  rw [h1, Oper.upon_value, hd]
  have := h3 _ _ _ h2
  simpa only [cont, Act.put] using this

/-- clear, of a part that goes to the end of an array of handles. -/
theorem OpW.clear {Q : Exit → Act → World → Prop} {all : Array Oper} {os : List Oper} {k : List It} {o : Oper} {c : Call} {x : Operand} {t e e' K lo n : Nat} {T : Tab} {ti te : TI} {ek kk : Nat} {xs : List (List D)}
    (ho : o.op = .call c) (hc : c.callee = .builtin .clear) (ha : c.args = #[x]) (hts : c.argTypes = #[t]) (hd : o.dst = none) (hT : TabOk P T) (hti : lk T t = some ti) (htk : ti.k = .sl e) (hte : lk T e = some te)
    (hag : te.k.agg = false) (hz : te.zero = [.nilS ek kk]) (hx : s.opd x = some (.c (.win K 1 lo n))) (hK : lk s.ob K = some (.arr e' 1 xs)) (hln : lo + n = xs.length) (hno : okNo xs = true)
    (h : J P N w0 Q (.ops all os :: k) ⟨s.tm, (K, .arr e' 1 (xs.take lo ++ List.replicate n [.v nilV])) :: s.ob⟩) : OpW P N w0 Q all os k s o := by
  have hu := (hT t ti hti).sl htk
  have hzv : ∀ w : World, (zeroValue e).run P w = .ok nilV w := fun w => (hT e te hte).zeroVal hag hz w
  refine OpW.eff hd fun a w β R => ?_
  have hv := R.opd hx
  simp only [FVRel, CRel] at hv
  obtain ⟨_, hv⟩ := hv
  have fin : ∀ w', (Builtin.clear_ #[t] o.type #[a.eval x]).run P w = .ok (.tuple #[]) w' → (execOp a.eval o).run P w = .ok (.value (.tuple #[])) w' := fun w' r1 => by
    simp [execOp, ho, resolve, hc, ha, hts, invoke, builtin, r1]
  by_cases h0 : n = 0
  · subst h0
    have e1 : xs.take lo ++ List.replicate 0 [.v nilV] = xs := by rw [List.replicate_zero, List.append_nil, List.take_of_length_le (by omega)]
    rw [e1] at h
    refine ⟨_, w, _, β, fin w ?_, R.ext (s' := ⟨s.tm, (K, .arr e' 1 xs) :: s.ob⟩) (fun _ => rfl) (fun k => ?_), h⟩
    · rcases hv with ⟨_, _, hv⟩ | ⟨g, M, cap, off, c', _, hv, _, _, _⟩
      · rw [hv]; exact run_clear_nil hu w
      · rw [hv]; exact run_clear_zero hu w
    · rw [lk_cons]; split
      · rename_i e; subst e; exact hK
      · rfl
  rcases hv with ⟨_, hn, _⟩ | ⟨g, M, cap, off, c', hβ, hv, hoff, hle, hc'⟩
  · exact absurd hn h0
  obtain rfl : off = lo := by have := hoff.resolve_left h0; omega
  have hβ : β K = .slice (some ⟨g, 0, none⟩) M cap := hβ
  have hr : OwnRel w w0.arg (s.en w w0.arg β).M e' 1 xs (β K) := R.ob K _ hK
  rcases OwnRel.vals hr with ⟨rfl, hb⟩ | ⟨g', cap', cur, vs, r1, r2, r3, r4, r5, r6, r7⟩
  · simp at hln; omega
  rw [hβ] at r1
  simp only [Value.slice.injEq, Option.some.injEq, Addr.mk.injEq] at r1
  obtain ⟨⟨rfl, _⟩, rfl, rfl⟩ := r1
  have hvl := r6.length
  have hcs : cur.size = cap := by omega
  have hrun := run_clear_row (P := P) (ty := o.type) (c := c') (off := off) (n := n) hu hzv w h0 r3 (by omega)
  rw [← hv] at hrun
  refine ⟨_, _, _, β, fin _ hrun, ?_, h⟩
  have hlen : (xs.take off ++ List.replicate n [D.v nilV]).length = xs.length := by simp; omega
  have hEv : EsV (Rd w w0.arg (s.en w w0.arg β).M) 1 (xs.take off ++ List.replicate n [D.v nilV]) (vs.take off ++ List.replicate n nilV) :=
    (r6.take1 off).append (EsV_nils (by simp only [Rd]; exact ⟨trivial, rfl⟩) n)
  have hnof : ∀ {ws : List (List D)}, okNo ws = true → ∀ {vs : List Value} {w1 : World}, fpVs w1 1 ws vs = [] := fun hw => by
    intro vs w1; rw [okNo_all] at hw; exact fpVs_noOwn _ hw
  have hokN : okNo (xs.take off ++ List.replicate n [D.v nilV]) = true := by
    rw [okNo_all] at hno ⊢
    rw [List.all_eq_true] at hno ⊢
    intro q hq
    rcases List.mem_append.1 hq with hq | hq
    · exact hno q (List.take_subset _ _ hq)
    · rw [(List.mem_replicate.1 hq).2]; rfl
  have hfpo : fp w (.own e' 1 xs) (β K) = g :: fpVs w 1 xs vs := by rw [hβ]; exact OwnRel.fp_vals (B := w0.arg) (M := (s.en w w0.arg β).M) r2 r3 r4 r5 r6 r7
  have hnew : (cur.toList.take off ++ List.replicate n nilV ++ cur.toList.drop (off + n)).take (xs.length * 1) = vs.take off ++ List.replicate n nilV := by
    subst r7
    rw [take_mid cur.toList (List.replicate n nilV) off n (xs.length * 1) (by simp) (by omega) (by simp; omega)]
    rw [List.drop_of_length_le (l := cur.toList.take (xs.length * 1)) (by rw [List.length_take]; omega), List.append_nil]
  have core : Step (s.en w w0.arg β) (St.en ⟨s.tm, (K, .arr e' 1 (xs.take off ++ List.replicate n [D.v nilV])) :: s.ob⟩ (w.setRow g (cur.toList.take off ++ List.replicate n nilV ++ cur.toList.drop (off + n)).toArray) w0.arg β) →
      OwnRel (w.setRow g (cur.toList.take off ++ List.replicate n nilV ++ cur.toList.drop (off + n)).toArray) w0.arg
        (St.en ⟨s.tm, (K, .arr e' 1 (xs.take off ++ List.replicate n [D.v nilV])) :: s.ob⟩ (w.setRow g (cur.toList.take off ++ List.replicate n nilV ++ cur.toList.drop (off + n)).toArray) w0.arg β).M
        e' 1 (xs.take off ++ List.replicate n [D.v nilV]) (β K) ∧
      fp (w.setRow g (cur.toList.take off ++ List.replicate n nilV ++ cur.toList.drop (off + n)).toArray) (.own e' 1 (xs.take off ++ List.replicate n [D.v nilV])) (β K) = [g] := by
    intro S
    have hEv' := hEv.mono fun x v h => Rd.keep S.K x v h
    obtain ⟨p1, p2⟩ := OwnRel.ofV (e := e') (g := g) (cap := cap) (cur := (cur.toList.take off ++ List.replicate n nilV ++ cur.toList.drop (off + n)).toArray) (by rw [hlen]; exact r2)
      (setRow_heap w g cur _ e' (0, 0) r3) r4 (by simp; omega) hEv' (by rw [hlen]; simpa using hnew)
    rw [hlen] at p1 p2
    rw [hβ]
    exact ⟨p1, by rw [p2]; rw [hnof hokN]⟩
  refine R.setBlock (o := .arr e' 1 xs) hK rfl rfl (by rw [hβ]; rfl) r3 (fun S => ?_) (fun S => (core S).1)
  rw [obFp_arr (lk_cons_self _ _ _), obFp_arr (en := s.en w w0.arg β) hK]
  show List.Sublist (fp (w.setRow g (cur.toList.take off ++ List.replicate n nilV ++ cur.toList.drop (off + n)).toArray) (.own e' 1 (xs.take off ++ List.replicate n [D.v nilV])) (β K)) (fp w (.own e' 1 xs) (β K))
  rw [(core S).2, hfpo]
  exact List.cons_sublist_cons.2 (List.nil_sublist _)

/-- The same slice, of fewer elements. -/
def cutV : Value → Nat → Value
  | .slice ad _ cap, n => .slice ad n cap
  | v, _ => v
theorem OpW.cutV {Q : Exit → Act → World → Prop} {all : Array Oper} {os : List Oper} {k : List It} {o : Oper} {x y : Operand} {t e e' d K n : Nat} {kd : IntKind} {T : Tab} {ti te : TI} {xs : List (List D)} {v1 : Value}
    (ho : o.op = .slice t x none (some y) none) (hd : o.dst = some d) (hlt : d < N) (hT : TabOk P T) (hti : lk T t = some ti) (htk : ti.k = .sl e) (hte : lk T e = some te)
    (hx : s.opd x = some (.c (.ob K))) (hy : s.opd y = some (.c (.d (.v (.int kd (n : Nat)))))) (hK : lk s.ob K = some (.arr e' 1 xs)) (hf : w0.fix K = some v1) (hn : n ≤ xs.length)
    (h : J P N w0 Q (.ops all os :: k) ⟨(d, .c (.d (.v (Go.Sm.cutV v1 n)))) :: s.tm, s.ob⟩) : OpW P N w0 Q all os k s o := by
  have hu := (hT t ti hti).sl htk
  refine OpW.val hd fun a w β R => ?_
  have hs := fun w => (hT e te hte).sizeOf w
  have hv := R.opd hx
  simp only [FVRel, CRel] at hv
  obtain ⟨_, hv, _⟩ := hv
  have hv : a.eval x = β K := hv
  have hc : β K = v1 := (R.fx K v1 hf).2
  have hxe : a.eval x = v1 := hv.trans hc
  have hye := int_rel (R.opd hy)
  have hr : OwnRel w w0.arg (s.en w w0.arg β).M e' 1 xs (β K) := R.ob K _ hK
  rw [hc] at hr
  rcases hr with ⟨rfl, rfl⟩ | ⟨g, cap, cur, rfl, q1, _⟩
  · obtain rfl : n = 0 := by simpa using hn
    refine ⟨nilV, w, _, β, ?_, R.setTm hlt (rel_val rfl), h⟩
    have hb := run_slice_bounds (P := P) (w := w) (len := 0) (cap := 0) (lo := none) (hi := some (.int kd ((0 : Nat) : Int))) (l := 0) (h := ((0 : Nat) : Int)) (Nat.le_refl 0) (.inl ⟨rfl, rfl⟩) (.inr ⟨kd, rfl⟩) (by omega) (by omega) (by omega)
    simp only [Int.natCast_zero, Int.toNat_zero] at hb hye
    simp [execOp, ho, Instr.sliceAt, run_underlying hu, Instr.slice, hxe, hye, nilV, hb, hs]
  · refine ⟨.slice (some ⟨g, 0, none⟩) n cap, w, _, β, ?_, R.setTm hlt (rel_val rfl), h⟩
    have hb := run_slice_bounds (P := P) (w := w) (len := xs.length) (cap := cap) (lo := none) (hi := some (.int kd (n : Nat))) (l := 0) (h := (n : Nat)) q1 (.inl ⟨rfl, rfl⟩) (.inr ⟨kd, rfl⟩) (by omega) (by omega) (by omega)
    simp only [Int.toNat_zero, Int.toNat_natCast] at hb
    simp [execOp, ho, Instr.sliceAt, run_underlying hu, Instr.slice, hxe, hye, hb, hs, Addr.add]

/-! ### handles of rows -/
/-- A value that is a view of these numbers, in memory that stays as it was. -/
def RowV (w0 : Base) (r : List Int) (c : Value) : Prop := c.oneCell' = true ∧ Rd w0.toWorld w0.arg (fun _ => False) (vInts r) c
theorem ints_map (r : List Int) : ints r = (r.map fun n => Value.int .i64 n).map fun u => [D.v u] := by rw [List.map_map]; rfl
theorem RowV.at {r : List Int} {c : Value} {B M : Nat → Prop} (h : RowV w0 r c) (hl : ∀ b, w0.arg b → w.heap[b]? = w0.heap[b]?) (hz : w0.heap.size ≤ w.heap.size) (hB : ∀ b, w0.arg b → B b) (hM : ∀ b, M b → ¬ w0.arg b) : Rd w B M (vInts r) c := by
  obtain ⟨_, h⟩ := h
  simp only [Rd] at h ⊢
  rcases h with h | ⟨b, off, cap, h1, h2, _, h4, h5, h6⟩
  · exact .inl h
  · have ha := h5 trivial
    refine .inr ⟨b, off, cap, h1, h2, fun hm => hM b hm ha, Nat.lt_of_lt_of_le h4 hz, fun _ => hB b ha, ?_⟩
    rw [ints_map] at h6 ⊢
    obtain ⟨i1, i2⟩ := rdEs_cells _ _ h6
    exact rdEs_vals _ _ i2 fun n u hu => by rw [cell_congr (hl b ha)]; exact i1 n u hu
theorem ConvW.row {r : List Int} {c : Value} (hs : RowV w0 r c) : ConvW N w0 (.c (.d (.v c))) (.c (.d (vInts r))) := fun s a w β R val hv => by
  simp only [FVRel, CRel] at hv ⊢
  have hv : val = c := by have := hv.2.2; simp only [Rd] at this; exact this.1
  rw [hv]
  exact ⟨rfl, hs.1, hs.at R.low.block R.low.size (fun _ h => h) fun b hb => mine_not_arg (R.M_mine hb)⟩

end Go.Sm
