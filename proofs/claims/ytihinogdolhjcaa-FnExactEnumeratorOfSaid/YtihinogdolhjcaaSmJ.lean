/- make, stores, what a call is given and what it gives back. -/
import Derived.Test.YtihinogdolhjcaaSmI
namespace Go.Sm
open Go.RowKit

variable {P : Program} {N : Nat} {w0 : Base} {s : St} {a : Act} {w : World} {β : Nat → Value}

/-! ### make -/

def Z.toD : Z → D
  | .v x => .v x
  | .nilS e k => .own e k []

theorem DsV_zero {w : World} {B : Nat → Prop} {M : Nat → Prop} : ∀ (zs : List Z), zs.all (fun z => z.val.oneCell') = true → DsV (Rd w B M) (zs.map Z.toD) (zs.map Z.val)
  | [], _ => rfl
  | .v x :: r, h => by
    simp only [List.all_cons, Bool.and_eq_true] at h
    exact ⟨x, _, rfl, by simp only [Z.toD, Rd]; exact ⟨trivial, h.1⟩, DsV_zero r h.2⟩
  | .nilS e k :: r, h => by
    simp only [List.all_cons, Bool.and_eq_true] at h
    exact ⟨nilV, _, rfl, by simp [Z.toD, Rd], DsV_zero r h.2⟩
theorem fpDs_zero {w : World} : ∀ (zs : List Z) (us : List Value), fpDs w (zs.map Z.toD) (zs.map Z.val ++ us) = []
  | [], _ => by simp [fpDs]
  | .v x :: r, us => by simp [fpDs, Z.toD, fp, fpDs_zero r us]
  | .nilS e k :: r, us => by simp [fpDs, Z.toD, Z.val, fp, fpDs_zero r us]
theorem EsV_zero {w : World} {B : Nat → Prop} {M : Nat → Prop} (zs : List Z) (h : zs.all (fun z => z.val.oneCell') = true) : ∀ (n : Nat), EsV (Rd w B M) zs.length (List.replicate n (zs.map Z.toD)) (List.replicate n (zs.map Z.val)).flatten
  | 0 => rfl
  | n + 1 => ⟨zs.map Z.val, _, by simp [List.replicate_succ], by simp, DsV_zero zs h, EsV_zero zs h n⟩
theorem fpVs_zero {w : World} (zs : List Z) : ∀ (n : Nat), fpVs w zs.length (List.replicate n (zs.map Z.toD)) (List.replicate n (zs.map Z.val)).flatten = []
  | 0 => by simp [fpVs]
  | n + 1 => by
    simp only [List.replicate_succ, List.flatten_cons, fpVs]
    rw [fpDs_zero, List.nil_append]
    rw [show (zs.map Z.val ++ (List.replicate n (zs.map Z.val)).flatten).drop zs.length = (List.replicate n (zs.map Z.val)).flatten by
      rw [List.drop_append_of_le_length (by simp)]; simp]
    exact fpVs_zero zs n

theorem flatten_replicate_get {α : Type} (l : List α) : ∀ (n j : Nat), j < n * l.length → (List.replicate n l).flatten[j]? = l[j % l.length]?
  | 0, j, h => by simp at h
  | n + 1, j, h => by
    rw [List.replicate_succ, List.flatten_cons]
    by_cases hj : j < l.length
    · rw [List.getElem?_append_left hj, Nat.mod_eq_of_lt hj]
    · rw [List.getElem?_append_right (by omega)]
      have hlt : j - l.length < n * l.length := by rw [Nat.add_mul, Nat.one_mul] at h; omega
      rw [flatten_replicate_get l n _ hlt]
      congr 1
      exact (Nat.mod_eq_sub_mod (by omega)).symm

theorem madeCells_take {z : Array Value} {n m : Nat} (h : n ≤ m) : (madeCells z (m * z.size)).toList.take (n * z.size) = (List.replicate n z.toList).flatten := by
  have hle : n * z.size ≤ m * z.size := Nat.mul_le_mul_right _ h
  apply List.ext_getElem?
  intro j
  by_cases hj : j < n * z.size
  · have hz : 0 < z.size := by
      rcases Nat.eq_zero_or_pos z.size with h0 | h0
      · rw [h0] at hj; simp at hj
      · exact h0
    rw [flatten_replicate_get _ _ _ (by simpa using hj), List.getElem?_take, if_pos hj]
    have hmod : j % z.size < z.size := Nat.mod_lt _ hz
    have hjm : j < m * z.size := by omega
    simp [madeCells, hjm, hmod]
  · rw [List.getElem?_eq_none, List.getElem?_eq_none]
    · simp; omega
    · simp [madeCells, Nat.min_eq_left h]; omega

def evMake (T : Tab) (t : Nat) (l c : FV) : Option (Prop × Ob) :=
  match lk T t, l, c with
  | some ti, .c (.d (.v (.int _ n))), .c (.d (.v (.int _ m))) => match ti.k with
    | .sl e => match lk T e with
      | some te => some (0 ≤ n ∧ n ≤ m ∧ (te.bytes : Int) * m ≤ 281474976710656 ∧ m ≤ 9223372036854775807, .arr e te.size (List.replicate n.toNat (te.zero.map Z.toD)))
      | none => none
    | _ => none
  | _, _, _ => none

theorem evMake_sound {T : Tab} (hT : TabOk P T) (R : Rel N w0 s a w β) {k t : Nat} {l c : FV} {u v : Value} {p : Prop} {o : Ob} (h : evMake T t l c = some (p, o)) (hp : p)
    (hl : FVRel (s.en w w0.arg β) l u) (hc : FVRel (s.en w w0.arg β) c v) (hk : lk s.ob k = none) :
    ∃ val w' β', (Instr.makeSlice t u v).run P w = .ok val w' ∧ Rel N w0 ⟨s.tm, (k, o) :: s.ob⟩ a w' β' ∧ CRel (St.en ⟨s.tm, (k, o) :: s.ob⟩ w' w0.arg β') (.ob k) val := by
  unfold evMake at h
  split at h
  · rename_i ti kl n kc m hti
    obtain rfl := int_rel hl
    obtain rfl := int_rel hc
    split at h
    · rename_i e hkk
      have hu := (hT t ti hti).sl hkk
      split at h
      · rename_i te hte
        simp only [Option.some.injEq, Prod.mk.injEq] at h
        obtain ⟨rfl, rfl⟩ := h
        obtain ⟨h0, hnm, hb, h63⟩ := hp
        have hty := hT e te hte
        obtain ⟨i, hi, his, hib⟩ : ∃ i, P.info? e = some i ∧ i.size = te.size ∧ i.bytes = te.bytes := by
          have := hty.size
          cases hi : P.info? e with
          | none => simp [hi] at this
          | some i => simp [hi] at this; exact ⟨i, rfl, this.1, this.2⟩
        obtain ⟨z, hz, hzc⟩ : ∃ z, i.zero = some z ∧ z.cells.toList = te.zero.map Z.val := by
          have := hty.zero
          cases hz : i.zero with
          | none => simp [hi, hz] at this
          | some z => simp [hi, hz] at this; exact ⟨z, rfl, this⟩
        have hzs : z.cells.size = te.size := by have := congrArg List.length hzc; simpa [hty.zlen] using this
        have hrun := run_make (P := P) w t e i z hu hi hz kl kc n m h0 hnm (by rw [hib]; exact hb) h63
        have hlen : (List.replicate n.toNat (te.zero.map Z.toD)).length = n.toNat := List.length_replicate ..
        refine ⟨_, _, _, hrun, R.freshArr (e := e) (z := te.size) (xs := List.replicate n.toNat (te.zero.map Z.toD)) (vs := (List.replicate n.toNat (te.zero.map Z.val)).flatten)
          (cur := madeCells z.cells (m.toNat * i.size)) (cap := m.toNat) hk ?_ ?_ ?_ ?_ ?_ ?_, ?_⟩
        · have := EsV_zero (w := w) (B := w0.arg) (M := (s.en w w0.arg β).M) te.zero hty.ones n.toNat
          rwa [hty.zlen] at this
        · have := fpVs_zero (w := w) te.zero n.toNat
          rwa [hty.zlen] at this
        · rw [hlen]; omega
        · simp only [maxLen]; omega
        · rw [size_madeCells, his]
        · rw [hlen, his, ← hzs, madeCells_take (by omega), hzc]
        · rw [hlen]; exact ⟨by simp [St.en, lk_cons_self], by simp [St.en, upd_self], rfl⟩
      · cases h
    · cases h
  · cases h

/-! ### stores -/

def evStore (T : Tab) (ob : Nat → Option Ob) (t : Nat) (p x : FV) : Option (Prop × Nat × Ob) :=
  match lk T t, x.cells with
  | some ti, some ds => match Nat.beq ds.length ti.size with
    | true => match p with
      | .c (.ref k off) => match ob k with
        | some (.var cs) => match Nat.ble (off + ti.size) cs.length with
          | true => some (True, k, .var (cs.take off ++ ds ++ cs.drop (off + ti.size)))
          | false => none
        | _ => none
      | .c (.re k z i j) => match ob k, dataC ds with
        | some (.arr e z' xs), some es => match Nat.beq z z' && Nat.ble (j + ti.size) z with
          | true => match Nat.beq ti.size z with
            | true => some (i < xs.length, k, .arr e z (xs.set i es))
            | false => some (i < xs.length, k, .arr e z (xs.set i ((xs.getD i []).take j ++ es ++ (xs.getD i []).drop (j + ti.size))))
          | false => none
        | _, _ => none
      | _ => none
    | false => none
  | _, _ => none

theorem EsV.split {Q : D → Value → Prop} {k : Nat} : ∀ {xs : List (List D)} {vs : List Value} {i : Nat} {e : List D}, EsV Q k xs vs → xs[i]? = some e →
    ∃ A B va ve vb, xs = A ++ e :: B ∧ A.length = i ∧ vs = va ++ (ve ++ vb) ∧ va.length = i * k ∧ EsV Q k A va ∧ DsV Q e ve ∧ e.length = k ∧ EsV Q k B vb
  | [], _, _, _, _, h => by simp at h
  | x :: xs, vs, 0, e, h, he => by
    simp at he; subst he
    obtain ⟨u, r, rfl, h0, h1, h⟩ := h
    exact ⟨[], xs, [], u, r, rfl, rfl, rfl, by simp, rfl, h1, h0, h⟩
  | x :: xs, vs, i + 1, e, h, he => by
    obtain ⟨u, r, rfl, h0, h1, h⟩ := h
    obtain ⟨A, B, va, ve, vb, q1, q2, q3, q4, q5, q6, q7, q8⟩ := EsV.split h (by simpa using he)
    refine ⟨x :: A, B, u ++ va, ve, vb, by simp [q1], by simp [q2], by simp [q3], ?_, ⟨u, va, rfl, h0, h1, q5⟩, q6, q7, q8⟩
    have := h1.length
    rw [List.length_append, q4, this, h0, Nat.add_mul]; omega

theorem DsV.drop {Q : D → Value → Prop} : ∀ {xs : List D} {vs : List Value} (n : Nat), DsV Q xs vs → DsV Q (xs.drop n) (vs.drop n)
  | xs, vs, 0, h => by simpa using h
  | [], vs, n + 1, h => by simp only [DsV] at h; subst h; simp [DsV]
  | x :: xs, vs, n + 1, h => by obtain ⟨v, r, rfl, _, h⟩ := h; simpa using h.drop n
theorem DsV.take {Q : D → Value → Prop} : ∀ {xs : List D} {vs : List Value} (n : Nat), DsV Q xs vs → DsV Q (xs.take n) (vs.take n)
  | xs, vs, 0, _ => by simp [DsV]
  | [], vs, n + 1, h => by simp only [DsV] at h; subst h; simp [DsV]
  | x :: xs, vs, n + 1, h => by obtain ⟨v, r, rfl, h1, h⟩ := h; exact ⟨v, r.take n, by simp, h1, h.take n⟩
theorem DsV.append {Q : D → Value → Prop} : ∀ {xs ys : List D} {vs us : List Value}, DsV Q xs vs → DsV Q ys us → DsV Q (xs ++ ys) (vs ++ us)
  | [], ys, vs, us, h, h' => by simp only [DsV] at h; subst h; simpa using h'
  | x :: xs, ys, vs, us, h, h' => by obtain ⟨v, r, rfl, h1, h⟩ := h; exact ⟨v, r ++ us, by simp, h1, h.append h'⟩

theorem fpDs_app {w : World} {Q : D → Value → Prop} : ∀ {xs ys : List D} {vs us : List Value}, DsV Q xs vs → fpDs w (xs ++ ys) (vs ++ us) = fpDs w xs vs ++ fpDs w ys us
  | [], ys, vs, us, h => by simp only [DsV] at h; subst h; simp [fpDs]
  | x :: xs, ys, vs, us, h => by
    obtain ⟨v, r, rfl, _, h⟩ := h
    simp only [List.cons_append, fpDs, List.headD_cons, List.tail_cons]
    rw [fpDs_app h, List.append_assoc]

theorem take_mid {α : Type} (l us : List α) (n1 m n : Nat) (hm : us.length = m) (h : n1 + m ≤ n) (hl : n ≤ l.length) :
    (l.take n1 ++ us ++ l.drop (n1 + m)).take n = (l.take n).take n1 ++ us ++ (l.take n).drop (n1 + m) := by
  rw [List.append_assoc, List.take_append, List.length_take, Nat.min_eq_left (by omega : n1 ≤ l.length), List.take_of_length_le (l := l.take n1) (by simp; omega),
    List.take_append, List.take_of_length_le (l := us) (by omega), List.take_take, Nat.min_eq_left (by omega : n1 ≤ n), List.drop_take, hm, List.append_assoc]
  rw [show n - n1 - m = n - (n1 + m) by omega]

theorem take_drop_parts {α : Type} (l : List α) (j n : Nat) : l = l.take j ++ ((l.drop j).take n ++ l.drop (j + n)) := by
  rw [← List.drop_drop, List.take_append_drop, List.take_append_drop]

/-- One element's cells from j on are written anew. -/
theorem EsV.put {w : World} {Q : D → Value → Prop} {k : Nat} {xs : List (List D)} {vs us : List Value} {i j : Nat} {e ds : List D} (h : EsV Q k xs vs) (he : xs[i]? = some e)
    (hj : j + ds.length ≤ k) (hd : DsV Q ds us) (hno : ds.all noOwn = true) :
    EsV Q k (xs.set i (e.take j ++ ds ++ e.drop (j + ds.length))) (vs.take (i * k + j) ++ us ++ vs.drop (i * k + j + us.length)) ∧
      List.Sublist (fpVs w k (xs.set i (e.take j ++ ds ++ e.drop (j + ds.length))) (vs.take (i * k + j) ++ us ++ vs.drop (i * k + j + us.length))) (fpVs w k xs vs) := by
  obtain ⟨A, B, va, ve, vb, rfl, rfl, rfl, q4, q5, q6, q7, q8⟩ := h.split he
  have hl := q6.length
  have hu := hd.length
  have hset : (A ++ e :: B).set A.length (e.take j ++ ds ++ e.drop (j + ds.length)) = A ++ (e.take j ++ ds ++ e.drop (j + ds.length)) :: B := by simp
  have hvs : (va ++ (ve ++ vb)).take (A.length * k + j) ++ us ++ (va ++ (ve ++ vb)).drop (A.length * k + j + us.length) = va ++ ((ve.take j ++ us ++ ve.drop (j + us.length)) ++ vb) := by
    rw [← q4, List.take_append, List.take_of_length_le (by omega), show va.length + j - va.length = j by omega, List.take_append_of_le_length (by omega)]
    rw [show va.length + j + us.length = va.length + (j + us.length) by omega, List.drop_length_add_append, List.drop_append_of_le_length (by omega)]
    simp
  rw [hset, hvs]
  have hDe : DsV Q (e.take j ++ ds ++ e.drop (j + ds.length)) (ve.take j ++ us ++ ve.drop (j + us.length)) := by
    rw [hu]; exact ((q6.take j).append hd).append (q6.drop _)
  have hlen : (e.take j ++ ds ++ e.drop (j + ds.length)).length = k := by simp; omega
  refine ⟨q5.append ⟨_, _, rfl, hlen, hDe, q8⟩, ?_⟩
  rw [fpVs_append q5, fpVs_append q5]
  refine List.Sublist.append (List.Sublist.refl _) ?_
  simp only [fpVs]
  have hl' := hDe.length
  rw [List.drop_left' (by omega : (ve.take j ++ us ++ ve.drop (j + us.length)).length = k), List.drop_left' (by omega : ve.length = k)]
  refine List.Sublist.append ?_ (List.Sublist.refl _)
  rw [fpDs_append w _ _ vb (by omega), fpDs_append w e ve vb (by omega)]
  rw [fpDs_app ((q6.take j).append hd), fpDs_app (q6.take j), fpDs_noOwn us hno, List.append_nil]
  conv => rhs; rw [take_drop_parts e j ds.length, take_drop_parts ve j ds.length]
  rw [fpDs_app (q6.take j), fpDs_app ((q6.drop j).take ds.length), hu]
  exact List.Sublist.append (List.Sublist.refl _) (List.sublist_append_right _ _)

theorem run_storeVar_at {t : TypeId} {ti : TI} (h : TyOk P t ti) {g off : Nat} {T : TypeId} {cur : Array Value} {v : Value} (hg : w.heap[g]? = some (.cells cur T (0, 0)))
    (hs : v.cells.size = ti.size) (hfit : off + ti.size ≤ cur.size) (h1 : ∀ u ∈ v.cells.toList, u.oneCell' = true) :
    (Instr.storeAt t (.pointer (some ⟨g, off, none⟩)) v).run P w =
      .ok () (w.setRow g (cur.toList.take off ++ v.cells.toList ++ cur.toList.drop (off + ti.size)).toArray) := by
  have := run_storeCells_at P g off T v.cells.toList 0 cur w hg (by simp; omega) h1
  simp only [Nat.add_zero, Array.length_toList, hs] at this
  simp [Instr.storeAt, Instr.sureAddr, storeVar, h.sizeOf, hs, this]

theorem evStore_sound {T : Tab} (hT : TabOk P T) (R : Rel N w0 s a w β) {t k : Nat} {p x : FV} {u v : Value} {pr : Prop} {o : Ob} (h : evStore T (lk s.ob) t p x = some (pr, k, o)) (hp : pr)
    (hu : FVRel (s.en w w0.arg β) p u) (hv : FVRel (s.en w w0.arg β) x v) :
    ∃ w', (Instr.storeAt t u v).run P w = .ok () w' ∧ Rel N w0 ⟨s.tm, (k, o) :: s.ob⟩ a w' β := by
  unfold evStore at h
  split at h
  · rename_i ti ds hti hds
    have hty := hT t ti hti
    have hcs := FV.cells_rel hds hv
    split at h
    · rename_i hlen
      have hlen := nat_beq hlen
      have hsz : v.cells.size = ti.size := by have := hcs.length; simp only [Array.length_toList] at this; omega
      split at h
      · rename_i k' off
        split at h
        · rename_i cs hob
          split at h
          · rename_i hfit
            have hfit := Nat.le_of_ble_eq_true hfit
            simp only [Option.some.injEq, Prod.mk.injEq] at h
            obtain ⟨rfl, rfl, rfl⟩ := h
            simp only [FVRel, CRel] at hu
            obtain ⟨_, g, hβ, rfl⟩ := hu
            obtain ⟨g', cur, TT, q1, q2, q3⟩ := R.ob k' _ hob
            have hgg : g' = g := by
              have := q1.symm.trans hβ
              simpa using this
            subst hgg
            have hcur : cs.length = cur.size := by have := q3.length; simpa using this
            have hβ' : β k' = .pointer (some ⟨g', 0, none⟩) := hβ
            refine ⟨_, run_storeVar_at hty q2 hsz (by omega) hcs.ones, R.setBlock hob rfl rfl (by simp [hβ', blk]) q2 (fun S => ?_) fun S => ?_⟩
            · rw [obFp_var (lk_cons_self _ _ _), obFp_var hob]; exact List.Sublist.refl _
            · refine ⟨g', _, TT, hβ, setRow_heap w g' cur _ TT (0, 0) q2, ?_⟩
              show CsRel _ _ (cur.toList.take off ++ v.cells.toList ++ cur.toList.drop (off + ti.size))
              exact (((q3.step S).take off).append (hcs.step S)).append ((q3.step S).drop _)
          · cases h
        · cases h
      · rename_i k' z i j
        split at h
        · rename_i e z' xs es hob hes
          split at h
          · rename_i hz
            simp only [Bool.and_eq_true] at hz
            obtain rfl := nat_beq hz.1
            have hfit := Nat.le_of_ble_eq_true hz.2
            obtain ⟨hDs, hno, hel⟩ := dataC_rel hcs hes
            simp only [FVRel, CRel] at hu
            obtain ⟨_, g, L, cap, hβ, rfl⟩ := hu
            have hβ' : β k' = .slice (some ⟨g, 0, none⟩) L cap := hβ
            have hr : OwnRel w w0.arg (s.en w w0.arg β).M e z xs (β k') := R.ob k' _ hob
            obtain ⟨hpr, ho⟩ : i < xs.length ∧ o = .arr e z (xs.set i ((xs.getD i []).take j ++ es ++ (xs.getD i []).drop (j + es.length))) ∧ k = k' := by
              split at h
              · rename_i hfull
                have hfull := nat_beq hfull
                simp only [Option.some.injEq, Prod.mk.injEq] at h
                obtain ⟨rfl, rfl, rfl⟩ := h
                have hil : i < xs.length := hp
                refine ⟨hil, ?_, rfl⟩
                have hj0 : j = 0 := by omega
                have hxl : (xs.getD i []).length = z := by
                  rcases OwnRel.vals hr with ⟨rfl, _⟩ | ⟨_, _, _, vs, _, _, _, _, _, q6, _⟩
                  · simp at hil
                  · obtain ⟨_, _, _, _, _, _, _, _, _, _, _, q7, _⟩ := q6.split (i := i) (e := xs.getD i []) (by simp [hil])
                    exact q7
                rw [hj0, List.take_zero, List.nil_append, List.drop_of_length_le (by omega), List.append_nil]
              · simp only [Option.some.injEq, Prod.mk.injEq] at h
                obtain ⟨rfl, rfl, rfl⟩ := h
                have hil : i < xs.length := hp
                refine ⟨hil, ?_, rfl⟩
                rw [show es.length = ti.size by omega]
            obtain ⟨rfl, rfl⟩ := ho
            rcases OwnRel.vals hr with ⟨rfl, _⟩ | ⟨g', cap', cur, vs, q1, q2, q3, q4, q5, q6, q7⟩
            · simp at hpr
            · rw [hβ'] at q1
              simp only [Value.slice.injEq, Option.some.injEq, Addr.mk.injEq, and_true] at q1
              obtain ⟨rfl, rfl, rfl⟩ := q1
              have hxi : xs[i]? = some (xs.getD i []) := by simp [hpr]
              have hul := hDs.length
              simp only [Array.length_toList] at hul
              obtain ⟨r1, r2⟩ := q6.put (w := w) (us := v.cells.toList) (ds := es) (j := j) hxi (by omega) hDs hno
              have hvl := q6.length
              have him : i * z + z ≤ xs.length * z := by rw [← Nat.succ_mul]; exact Nat.mul_le_mul_right z hpr
              have hcapm : xs.length * z ≤ cap * z := Nat.mul_le_mul_right z q2
              have hcurl : cur.toList.length = cap * z := by simpa using q5
              have hnew : (cur.toList.take (i * z + j) ++ v.cells.toList ++ cur.toList.drop (i * z + j + ti.size)).take (xs.length * z) =
                  vs.take (i * z + j) ++ v.cells.toList ++ vs.drop (i * z + j + v.cells.toList.length) := by
                subst q7
                rw [show v.cells.toList.length = ti.size by simpa using hsz]
                exact take_mid cur.toList v.cells.toList (i * z + j) ti.size (xs.length * z) (by simpa using hsz) (by omega) (by omega)
              have hsl : (xs.set i ((xs.getD i []).take j ++ es ++ (xs.getD i []).drop (j + es.length))).length = xs.length := by simp
              have hq : Step (s.en w w0.arg β) (St.en ⟨s.tm, (k, .arr e z (xs.set i ((xs.getD i []).take j ++ es ++ (xs.getD i []).drop (j + es.length)))) :: s.ob⟩
                  (w.setRow g (cur.toList.take (i * z + j) ++ v.cells.toList ++ cur.toList.drop (i * z + j + ti.size)).toArray) w0.arg β) →
                  OwnRel (w.setRow g (cur.toList.take (i * z + j) ++ v.cells.toList ++ cur.toList.drop (i * z + j + ti.size)).toArray) w0.arg
                    (St.en ⟨s.tm, (k, .arr e z (xs.set i ((xs.getD i []).take j ++ es ++ (xs.getD i []).drop (j + es.length)))) :: s.ob⟩
                      (w.setRow g (cur.toList.take (i * z + j) ++ v.cells.toList ++ cur.toList.drop (i * z + j + ti.size)).toArray) w0.arg β).M
                    e z (xs.set i ((xs.getD i []).take j ++ es ++ (xs.getD i []).drop (j + es.length))) (β k) ∧
                  List.Sublist (fp (w.setRow g (cur.toList.take (i * z + j) ++ v.cells.toList ++ cur.toList.drop (i * z + j + ti.size)).toArray)
                    (.own e z (xs.set i ((xs.getD i []).take j ++ es ++ (xs.getD i []).drop (j + es.length)))) (β k)) (fp w (.own e z xs) (β k)) := by
                intro S
                have hE := r1.mono fun x v h => Rd.keep S.K x v h
                obtain ⟨p1, p2⟩ := OwnRel.ofV (e := e) (by rw [hsl]; exact q2) (setRow_heap w g cur _ e (0, 0) q3) q4 (by simp; omega) hE (by rw [hsl]; exact hnew)
                rw [hsl] at p1 p2
                rw [hβ']
                refine ⟨p1, ?_⟩
                rw [p2, OwnRel.fp_vals q2 q3 q4 q5 q6 q7]
                have hk := fpVs_keep S.K r1
                exact List.Sublist.cons_cons g (hk ▸ r2)
              refine ⟨_, run_storeVar_at hty q3 hsz (by omega) hcs.ones, R.setBlock hob rfl rfl (by simp [hβ', blk]) q3 (fun S => ?_) fun S => ?_⟩
              · rw [obFp_arr (lk_cons_self _ _ _), obFp_arr (en := s.en w w0.arg β) hob]
                exact (hq S).2
              · exact (hq S).1
          · cases h
        · cases h
      · cases h
    · cases h
  · cases h

end Go.Sm
