/- Calls that change arguments: the contract, and what stays as it was. -/
import Derived.Test.YtihinogdolhjcaaSmU
namespace Go.Sm
open Go.RowKit

/-! ### data that a change elsewhere leaves as it is -/

mutual
/-- Data of arguments alone. -/
def stA : D → Bool
  | .v _ => true
  | .vw a _ xs => a && stAEs xs
  | .own _ _ _ => false
  | .mp _ => true
def stACs : List D → Bool
  | [] => true
  | x :: xs => stA x && stACs xs
def stAEs : List (List D) → Bool
  | [] => true
  | e :: es => stACs e && stAEs es
end
mutual
/-- Data of arguments and of one's own. -/
def stO : D → Bool
  | .v _ => true
  | .vw a _ xs => a && stAEs xs
  | .own _ _ xs => stOEs xs
  | .mp _ => true
def stOCs : List D → Bool
  | [] => true
  | x :: xs => stO x && stOCs xs
def stOEs : List (List D) → Bool
  | [] => true
  | e :: es => stOCs e && stOEs es
end

/-- From w to w' the blocks in X alone have changed, and there may be new ones. -/
structure Chg (X : Nat → Prop) (w w' : World) : Prop where
  size : w.heap.size ≤ w'.heap.size
  block : ∀ b, b < w.heap.size → ¬ X b → w'.heap[b]? = w.heap[b]?
  cells : ∀ b, X b → ∃ cur e, w.heap[b]? = some (.cells cur e (0, 0))

theorem Chg.cell {X : Nat → Prop} {w w' : World} (h : Chg X w w') {b off : Nat} (hb : b < w.heap.size) (hx : ¬ X b) : w'.cell? ⟨b, off, none⟩ = w.cell? ⟨b, off, none⟩ := World.cell?_of_block (w := w) (h.block b hb hx)

variable {X : Nat → Prop} {w w' : World} {B M M' : Nat → Prop}

mutual
theorem Rd.stA (h : Chg X w w') (hB : ∀ b, B b → ¬ X b) (hM : ∀ b, M' b → M b ∨ X b ∨ w.heap.size ≤ b) : ∀ (d : D) (c : Value), stA d = true → Rd w B M d c → Rd w' B M' d c
  | .v _, _, _, hr => by simpa only [Rd] using hr
  | .vw a k xs, c, hs, hr => by
    simp only [Sm.stA, Bool.and_eq_true] at hs
    simp only [Rd] at hr ⊢
    rcases hr with hr | ⟨b, off, cap, hc, hl, hm, hb, ha, he⟩
    · exact .inl hr
    · exact .inr ⟨b, off, cap, hc, hl, fun hm' => (hM b hm').elim hm (fun q => q.elim (hB b (ha hs.1)) (fun q => by omega)), Nat.lt_of_lt_of_le hb h.size, ha, RdEs.stA h hB hM (fun _ => h.cell hb (hB b (ha hs.1))) xs off hs.2 he⟩
  | .own e k xs, c, hs, _ => by simp [Sm.stA] at hs
  | .mp xs, c, _, hr => by
    simp only [Rd] at hr ⊢
    obtain ⟨r, es, clock, hc, hm, hh, ho⟩ := hr
    have hx : ¬ X r := fun hx => by obtain ⟨cur, e, h1⟩ := h.cells r hx; rw [hh] at h1; cases h1
    have hlt := lt_of_heap hh
    exact ⟨r, es, clock, hc, fun hm' => (hM r hm').elim hm (fun q => q.elim hx (fun q => by omega)), by rw [h.block r hlt hx]; exact hh, ho⟩
theorem RdCs.stA (h : Chg X w w') (hB : ∀ b, B b → ¬ X b) (hM : ∀ b, M' b → M b ∨ X b ∨ w.heap.size ≤ b) {b : Nat} (hq : ∀ off, w'.cell? ⟨b, off, none⟩ = w.cell? ⟨b, off, none⟩) :
    ∀ (xs : List D) (off : Nat), stACs xs = true → RdCs w B M xs b off → RdCs w' B M' xs b off
  | [], _, _, _ => by simp only [RdCs]
  | x :: xs, off, hs, hr => by
    simp only [stACs, Bool.and_eq_true] at hs
    simp only [RdCs] at hr ⊢
    obtain ⟨⟨c, hc, hr1⟩, h2⟩ := hr
    exact ⟨⟨c, by rw [hq]; exact hc, Rd.stA h hB hM x c hs.1 hr1⟩, RdCs.stA h hB hM hq xs (off + 1) hs.2 h2⟩
theorem RdEs.stA (h : Chg X w w') (hB : ∀ b, B b → ¬ X b) (hM : ∀ b, M' b → M b ∨ X b ∨ w.heap.size ≤ b) {b k : Nat} (hq : ∀ off, w'.cell? ⟨b, off, none⟩ = w.cell? ⟨b, off, none⟩) :
    ∀ (xs : List (List D)) (off : Nat), stAEs xs = true → RdEs w B M k xs b off → RdEs w' B M' k xs b off
  | [], _, _, _ => by simp only [RdEs]
  | e :: es, off, hs, hr => by
    simp only [stAEs, Bool.and_eq_true] at hs
    simp only [RdEs] at hr ⊢
    exact ⟨hr.1, RdCs.stA h hB hM hq e off hs.1 hr.2.1, RdEs.stA h hB hM hq es (off + k) hs.2 hr.2.2⟩
end

mutual
theorem Rd.stO (h : Chg X w w') (hB : ∀ b, B b → ¬ X b) (hM : ∀ b, M' b → M b ∨ X b ∨ w.heap.size ≤ b) : ∀ (d : D) (c : Value), stO d = true → (∀ b ∈ fp w d c, ¬ X b) → Rd w B M d c → Rd w' B M' d c ∧ fp w' d c = fp w d c
  | .v _, _, _, _, hr => by simpa only [Rd, fp, and_true] using hr
  | .vw a k xs, c, hs, _, hr => ⟨Rd.stA h hB hM (.vw a k xs) c (by simpa only [Sm.stA, Sm.stO] using hs) hr, by simp [fp]⟩
  | .own e k xs, c, hs, hx, hr => by
    simp only [Sm.stO] at hs
    simp only [Rd] at hr ⊢
    rcases hr with ⟨rfl, rfl⟩ | ⟨b, cap, cur, rfl, hl, hm, hh, h1, h2, he⟩
    · exact ⟨.inl ⟨rfl, rfl⟩, by simp [fp]⟩
    · have hb := lt_of_heap hh
      rw [fp_own_some] at hx
      have hxb : ¬ X b := hx b (List.mem_cons_self ..)
      obtain ⟨r1, r2⟩ := RdEs.stO h hB hM (fun _ => h.cell hb hxb) xs 0 hs (fun y hy => hx y (List.mem_cons_of_mem _ hy)) he
      exact ⟨.inr ⟨b, cap, cur, rfl, hl, fun hm' => (hM b hm').elim hm (fun q => q.elim hxb (fun q => by omega)), by rw [h.block b hb hxb]; exact hh, h1, h2, r1⟩, by rw [fp_own_some, fp_own_some, r2]⟩
  | .mp xs, c, hs, _, hr => ⟨Rd.stA h hB hM (.mp xs) c (by simp only [Sm.stA]) hr, by simp [fp]⟩
theorem RdCs.stO (h : Chg X w w') (hB : ∀ b, B b → ¬ X b) (hM : ∀ b, M' b → M b ∨ X b ∨ w.heap.size ≤ b) {b : Nat} (hq : ∀ off, w'.cell? ⟨b, off, none⟩ = w.cell? ⟨b, off, none⟩) :
    ∀ (xs : List D) (off : Nat), stOCs xs = true → (∀ y ∈ fpCs w xs b off, ¬ X y) → RdCs w B M xs b off → RdCs w' B M' xs b off ∧ fpCs w' xs b off = fpCs w xs b off
  | [], _, _, _, _ => by simp only [RdCs, fpCs, and_self]
  | x :: xs, off, hs, hx, hr => by
    simp only [stOCs, Bool.and_eq_true] at hs
    simp only [RdCs] at hr ⊢
    obtain ⟨⟨c, hc, hr1⟩, h2⟩ := hr
    simp only [fpCs, hc, Option.getD_some, List.mem_append] at hx
    obtain ⟨a1, a2⟩ := Rd.stO h hB hM x c hs.1 (fun y hy => hx y (.inl hy)) hr1
    obtain ⟨b1, b2⟩ := RdCs.stO h hB hM hq xs (off + 1) hs.2 (fun y hy => hx y (.inr hy)) h2
    exact ⟨⟨⟨c, by rw [hq]; exact hc, a1⟩, b1⟩, by simp only [fpCs, hq, hc, Option.getD_some, a2, b2]⟩
theorem RdEs.stO (h : Chg X w w') (hB : ∀ b, B b → ¬ X b) (hM : ∀ b, M' b → M b ∨ X b ∨ w.heap.size ≤ b) {b k : Nat} (hq : ∀ off, w'.cell? ⟨b, off, none⟩ = w.cell? ⟨b, off, none⟩) :
    ∀ (xs : List (List D)) (off : Nat), stOEs xs = true → (∀ y ∈ fpEs w k xs b off, ¬ X y) → RdEs w B M k xs b off → RdEs w' B M' k xs b off ∧ fpEs w' k xs b off = fpEs w k xs b off
  | [], _, _, _, _ => by simp only [RdEs, fpEs, and_self]
  | e :: es, off, hs, hx, hr => by
    simp only [stOEs, Bool.and_eq_true] at hs
    simp only [RdEs] at hr ⊢
    simp only [fpEs, List.mem_append] at hx
    obtain ⟨a1, a2⟩ := RdCs.stO h hB hM hq e off hs.1 (fun y hy => hx y (.inl hy)) hr.2.1
    obtain ⟨b1, b2⟩ := RdEs.stO h hB hM hq es (off + k) hs.2 (fun y hy => hx y (.inr hy)) hr.2.2
    exact ⟨⟨hr.1, a1, b1⟩, by simp only [fpEs, a2, b2]⟩
end

/-! ### the contract -/

/-- A cell of an argument: one's own is handed over. -/
def ArgX (w : World) (X : Nat → Prop) : D → Value → Prop
  | .own e z xs, c => Rd w (fun _ => False) (fun _ => False) (.own e z xs) c ∧ freshEs xs = true ∧ ∀ b ∈ fp w (.own e z xs) c, X b
  | d, c => Rd w (fun b => Old w b ∧ ¬ X b) X d c

def AVsX (w : World) (X : Nat → Prop) : List RV → List Value → List Value → Prop
  | [], vs, us => vs = [] ∧ us = []
  | r :: rs, vs, us => ∃ v q x c, vs = v :: q ∧ us = x ++ c ∧ RShape r v x ∧ DsV (ArgX w X) (cellsR r) x ∧ AVsX w X rs q c

def fixOf (ds : List D) (us : List Value) (i : Nat) : Option Value :=
  match ds[i]? with
  | some (.own _ _ _) => us[i]?
  | _ => none

/-- THE CONTRACT of a function that may change the arguments that are handed over. -/
def CallX (P : Program) (f : FuncId) (args : List RV) (r : Res) : Prop :=
  Entered P f ∧ ∀ (w : World) (X : Nat → Prop) (vs us : List Value), AVsX w X args vs us → (fpDs w (args.flatMap cellsR) us).Nodup →
    Calls P f vs.toArray w fun e w' => ∃ v, e = .returned v ∧ OwnR w' ⟨w, X, fixOf (args.flatMap cellsR) us⟩ r v ∧ Low ⟨w, X, fixOf (args.flatMap cellsR) us⟩ w w'

/-! ### the callee's side -/

def argTmX : Nat → Nat → List RV → List (Nat × FV)
  | _, _, [] => []
  | i, k, r :: rs => (i, impF k r) :: argTmX (i + 1) (k + (cellsR r).length) rs

theorem AVsX.dsv {w : World} {X : Nat → Prop} : ∀ {rs : List RV} {vs us : List Value}, AVsX w X rs vs us → DsV (ArgX w X) (rs.flatMap cellsR) us
  | [], vs, us, h => by obtain ⟨_, rfl⟩ := h; rfl
  | r :: rs, vs, us, h => by
    obtain ⟨v, q, x, c, _, rfl, _, h1, h2⟩ := h
    rw [List.flatMap_cons]; exact h1.append h2.dsv

theorem AVsX.length {w : World} {X : Nat → Prop} : ∀ {rs : List RV} {vs us : List Value}, AVsX w X rs vs us → vs.length = rs.length
  | [], vs, us, h => by obtain ⟨rfl, _⟩ := h; rfl
  | r :: rs, vs, us, h => by obtain ⟨v, q, x, c, rfl, _, _, _, h2⟩ := h; simp [h2.length]

theorem impF_rel' {en : En} {k : Nat} {r : RV} (hp : r.plain = true) {v : Value} {x : List Value} (hs : RShape r v x) (hx : CsRel en (impCs k (cellsR r)) x) : FVRel en (impF k r) v := by
  cases r with
  | one d =>
    simp only [RShape] at hs; subst hs
    simp only [cellsR] at hx
    cases d <;> (simp only [impF, impCs, FVRel] at hx ⊢; exact hx.1)
  | agg ds => simp only [RShape] at hs; simp only [impF, FVRel, cellsR] at hx ⊢; exact ⟨x, hs, hx⟩
  | tup ps => simp [RV.plain] at hp

theorem CsRel.left {en : En} : ∀ {cs ds : List C} {vs us : List Value}, cs.length = vs.length → CsRel en (cs ++ ds) (vs ++ us) → CsRel en cs vs ∧ CsRel en ds us
  | [], _, [], _, _, h => ⟨trivial, h⟩
  | [], _, _ :: _, _, h, _ => by simp at h
  | _ :: _, _, [], _, h, _ => by simp at h
  | c :: cs, ds, v :: vs, us, hl, h => by
    obtain ⟨h1, h2⟩ := CsRel.left (by simpa using hl) h.2
    exact ⟨⟨h.1, h1⟩, h2⟩

theorem argTmX_rel {en : En} {w : World} {X : Nat → Prop} : ∀ {rs : List RV} {vs us : List Value} {i k : Nat}, rs.all RV.plain = true → AVsX w X rs vs us → CsRel en (impCs k (rs.flatMap cellsR)) us →
    ∀ t f, lk (argTmX i k rs) t = some f → ∃ v, vs[t - i]? = some v ∧ i ≤ t ∧ FVRel en f v
  | [], vs, us, i, k, _, _, _, t, f, h => by simp [argTmX, lk] at h
  | r :: rs, vs, us, i, k, hp, hv, hc, t, f, h => by
    simp only [List.all_cons, Bool.and_eq_true] at hp
    obtain ⟨v, q, x, c, rfl, rfl, h1, h2, h3⟩ := hv
    rw [List.flatMap_cons, impCs_append] at hc
    obtain ⟨c1, c2⟩ := CsRel.left (by rw [impCs_length, h2.length]) hc
    simp only [argTmX, lk_cons] at h
    split at h
    · rename_i e; subst e
      simp only [Option.some.injEq] at h; subst h
      exact ⟨v, by simp, Nat.le_refl _, impF_rel' hp.1 h1 c1⟩
    · obtain ⟨u, u1, u2, u3⟩ := argTmX_rel hp.2 h3 c2 t f h
      exact ⟨u, by rw [show t - i = (t - (i + 1)) + 1 by omega]; simpa using u1, by omega, u3⟩

theorem ArgX.fpX {w : World} {X : Nat → Prop} {d : D} {c : Value} (h : ArgX w X d c) : ∀ b ∈ fp w d c, X b := by
  cases d with
  | own e z xs => exact h.2.2
  | _ => intro b hb; simp [fp] at hb

/-- The contract, from the conditions at the body. -/
theorem callX {F : Fn} (hF : FnOk F) {f : FuncId} {fn : Func} {c : Code} {args : List RV} {r : Res} (n : Nat) (hf : F.P.funcs[f]? = some fn) (hb : fn.body = some c) (hN : fn.ntmps = F.N)
    (hrs : fn.results.toList = F.rs) (hname : (fn.name == "runtime.NumGoroutine") = false) (hle : args.length ≤ F.N) (hp : args.all RV.plain = true) (h64 : (args.flatMap cellsR).length ≤ 64)
    (hout : ∀ p ∈ r.outs, (ownAt (args.flatMap cellsR) 0 p.1).isSome = true)
    (h : ∀ w0 : Base, w0.ok64 → (∀ p ∈ r.outs, (w0.fix p.1).isSome = true) → vc F w0 (F.post w0 r fn) r n [.code c] ⟨argTmX 0 0 args, impOs 0 (args.flatMap cellsR)⟩) : CallX F.P f args r := by
  refine ⟨⟨fn, hf, hname, by rw [hb]; rfl⟩, fun w X vs us hv hnd => ?_⟩
  generalize hds : args.flatMap cellsR = ds at *
  have hd : DsV (ArgX w X) ds us := hds ▸ hv.dsv
  let w0 : Base := ⟨w, X, fixOf ds us⟩
  refine Calls.mono (calls_of_wp (R := fun e w' => ∃ v, e = .returned v ∧ OwnR w' w0 r v ∧ Low w0 w0.toWorld w') hf hb ?_) fun e w' h => h
  have hl := hv.length
  have hfixs : ∀ p ∈ r.outs, (w0.fix p.1).isSome = true := by
    intro p hp'
    have := hout p hp'
    unfold ownAt at this
    simp only [Nat.zero_le, if_true, Nat.sub_zero] at this
    show (fixOf ds us p.1).isSome = true
    unfold fixOf
    split at this
    · rename_i e z xs hdi
      obtain ⟨u, hu, _⟩ := hd.get _ _ hdi
      rw [hdi]; simp [hu]
    · simp at this
  have hj := vc_sound (w0 := w0) hF hrs hfixs n _ _ (h w0 (fun k c hk => by
    have hk' : fixOf ds us k = some c := hk
    unfold fixOf at hk'
    split at hk'
    · rename_i e z xs hdi
      have := (List.getElem?_eq_some_iff.1 hdi).1
      omega
    · cases hk') hfixs)
  let β : Nat → Value := fun k => (us[k]?).getD undef
  have hlk : ∀ k, lk (impOs 0 ds) k = match ownAt ds 0 k with
      | some (e, z, xs) => some (.arr e z xs)
      | none => none := by
    intro k
    have := impOs_lk [] k ds 0
    rw [List.append_nil] at this
    rw [this]; rfl
  have hown : ∀ k e z xs, ownAt ds 0 k = some (e, z, xs) → ds[k]? = some (.own e z xs) ∧ us[k]? = some (β k) ∧ ArgX w X (.own e z xs) (β k) := by
    intro k e z xs hq
    unfold ownAt at hq
    simp only [Nat.zero_le, if_true, Nat.sub_zero] at hq
    split at hq
    · rename_i e' z' xs' hdi
      simp only [Option.some.injEq, Prod.mk.injEq] at hq
      obtain ⟨rfl, rfl, rfl⟩ := hq
      obtain ⟨v, hv, hr⟩ := hd.get k _ hdi
      have e : β k = v := by show (us[k]?).getD undef = v; rw [hv]; rfl
      exact ⟨hdi, by rw [e]; exact hv, by rw [e]; exact hr⟩
    · cases hq
  have hhead : ∀ k e z xs b, ownAt ds 0 k = some (e, z, xs) → blk (β k) = some b → b ∈ fp w (.own e z xs) (β k) := by
    intro k e z xs b hq hb
    obtain ⟨_, _, hr, _⟩ := hown k e z xs hq
    simp only [Rd] at hr
    rcases hr with ⟨_, h⟩ | ⟨g, cap, cur, h, _⟩
    · rw [h] at hb; simp [blk] at hb
    · rw [h] at hb ⊢; simp [blk] at hb; subst hb; rw [fp_own_some]; simp
  have hMX : ∀ b, (St.en ⟨argTmX 0 0 args, impOs 0 ds⟩ w w0.arg β).M b → ∃ k e z xs, ownAt ds 0 k = some (e, z, xs) ∧ blk (β k) = some b := by
    rintro b ⟨k, o, ho, _, hb⟩
    have ho' : lk (impOs 0 ds) k = some o := ho
    rw [hlk] at ho'
    cases hq : ownAt ds 0 k with
    | none => rw [hq] at ho'; cases ho'
    | some q => obtain ⟨e, z, xs⟩ := q; exact ⟨k, e, z, xs, hq, hb⟩
  have hMX' : ∀ b, (St.en ⟨argTmX 0 0 args, impOs 0 ds⟩ w w0.arg β).M b → X b := by
    intro b hb
    obtain ⟨k, e, z, xs, hq, hb⟩ := hMX b hb
    exact (hown k e z xs hq).2.2.2.2 b (hhead k e z xs b hq hb)
  have hobfp : ∀ k e z xs, ownAt ds 0 k = some (e, z, xs) → obFp (St.en ⟨argTmX 0 0 args, impOs 0 ds⟩ w w0.arg β) k = fp w (.own e z xs) (β k) := by
    intro k e z xs hq
    have : lk (impOs 0 ds) k = some (.arr e z xs) := by rw [hlk, hq]
    exact obFp_arr (en := St.en ⟨argTmX 0 0 args, impOs 0 ds⟩ w w0.arg β) this
  have hobno : ∀ k, ownAt ds 0 k = none → obFp (St.en ⟨argTmX 0 0 args, impOs 0 ds⟩ w w0.arg β) k = [] := by
    intro k hq
    have : lk (impOs 0 ds) k = none := by rw [hlk, hq]
    simp [obFp, St.en, this]
  have hcs : CsRel (St.en ⟨argTmX 0 0 args, impOs 0 ds⟩ w w0.arg β) (impCs 0 ds) us := by
    refine impCs_rel (key0 := 0) ds us 0 (hd.mono fun _ _ _ => trivial) fun i d v hdi hvi => ?_
    obtain ⟨v', hv', hr⟩ := hd.get i d hdi
    rw [hvi] at hv'
    simp only [Option.some.injEq] at hv'; subst hv'
    have K : Keeps w w X (St.en ⟨argTmX 0 0 args, impOs 0 ds⟩ w w0.arg β).M := ⟨Nat.le_refl _, fun _ _ _ => rfl, fun b hb => .inl (hMX' b hb)⟩
    cases d with
    | own e z xs =>
      have hq : ownAt ds 0 i = some (e, z, xs) := by unfold ownAt; simp [hdi]
      have hone := hr.1.one
      refine ⟨?_, ?_, hone⟩
      · show (lk (impOs 0 ds) (0 + i)).isSome = true
        rw [Nat.zero_add, hlk, hq]; rfl
      · show v = (us[0 + i]?).getD undef
        rw [Nat.zero_add, hvi]; rfl
    | v x => exact ⟨rfl, Rd.one hr, Rd.keep K (.v x) v hr⟩
    | vw aa z xs => exact ⟨rfl, Rd.one hr, Rd.keep K (.vw aa z xs) v hr⟩
    | mp es => exact ⟨rfl, Rd.one hr, Rd.keep K (.mp es) v hr⟩
  have R : Rel F.N w0 ⟨argTmX 0 0 args, impOs 0 ds⟩ { tmps := vs.toArray ++ Array.replicate (fn.ntmps - vs.toArray.size) undef, defers := [] } w β := by
    refine ⟨by simp; omega, rfl, ?_, ?_, ?_, ?_, ?_, Low.refl _ _, ?_⟩
    · intro t f h
      obtain ⟨v, h1, h2, h3⟩ := argTmX_rel hp hv (by rw [hds]; exact hcs) t f h
      simp only [Nat.sub_zero] at h1
      have hlt := (List.getElem?_eq_some_iff.1 h1).1
      have : (vs.toArray ++ Array.replicate (fn.ntmps - vs.toArray.size) undef).getD t undef = v := by
        rw [Array.getD_eq_getD_getElem?, Array.getElem?_append_left (by simpa using hlt)]
        simp [h1]
      rw [this]; exact h3
    · intro k o h
      have h' : lk (impOs 0 ds) k = some o := h
      rw [hlk] at h'
      cases hq : ownAt ds 0 k with
      | none => rw [hq] at h'; cases h'
      | some q =>
        obtain ⟨e, z, xs⟩ := q
        rw [hq] at h'
        simp only [Option.some.injEq] at h'; subst h'
        obtain ⟨hdi, hui, hr, hfr, hX⟩ := hown k e z xs hq
        show OwnRel w w0.arg _ e z xs (β k)
        have hfpn := fpDs_nd hd hnd k _ _ hdi hui
        simp only [Rd] at hr
        rcases hr with hr | ⟨g, cap, cur, hβ, h1, h2, h3, h4, h5, h6⟩
        · exact .inl hr
        · refine .inr ⟨g, cap, cur, hβ, h1, h3, h4, h5, RdEs.free xs 0 hfr h6 fun b hb hM => ?_⟩
          have hbF : b ∈ fp w (.own e z xs) (β k) := by rw [hβ, fp_own_some]; exact List.mem_cons_of_mem _ hb
          obtain ⟨k', e', z', xs', hq', hbk⟩ := hMX b hM
          obtain ⟨hdi', hui', _⟩ := hown k' e' z' xs' hq'
          have hb' := hhead k' e' z' xs' b hq' hbk
          by_cases hkk : k' = k
          · subst hkk
            have := hfpn.1
            rw [hβ, fp_own_some] at this
            rw [hβ] at hbk
            simp [blk] at hbk; subst hbk
            exact (List.nodup_cons.1 this).1 hb
          · exact hfpn.2 k' _ _ hkk hdi' hui' b hbF hb'
    · intro k
      cases hq : ownAt ds 0 k with
      | none => rw [hobno k hq]; exact List.nodup_nil
      | some q =>
        obtain ⟨e, z, xs⟩ := q
        obtain ⟨hdi, hui, _⟩ := hown k e z xs hq
        rw [hobfp k e z xs hq]; exact (fpDs_nd hd hnd k _ _ hdi hui).1
    · intro k k' hne b hb hb'
      cases hq : ownAt ds 0 k with
      | none => rw [hobno k hq] at hb; cases hb
      | some q =>
        cases hq' : ownAt ds 0 k' with
        | none => rw [hobno k' hq'] at hb'; cases hb'
        | some q' =>
          obtain ⟨e, z, xs⟩ := q
          obtain ⟨e', z', xs'⟩ := q'
          obtain ⟨hdi, hui, _⟩ := hown k e z xs hq
          obtain ⟨hdi', hui', _⟩ := hown k' e' z' xs' hq'
          rw [hobfp k e z xs hq] at hb
          rw [hobfp k' e' z' xs' hq'] at hb'
          exact (fpDs_nd hd hnd k _ _ hdi hui).2 k' _ _ (Ne.symm hne) hdi' hui' b hb hb'
    · intro k b hb
      cases hq : ownAt ds 0 k with
      | none => rw [hobno k hq] at hb; cases hb
      | some q =>
        obtain ⟨e, z, xs⟩ := q
        rw [hobfp k e z xs hq] at hb
        exact .inr ((hown k e z xs hq).2.2.2.2 b hb)
    · intro k c hk
      have hk' : fixOf ds us k = some c := hk
      unfold fixOf at hk'
      split at hk'
      · rename_i e z xs hdi
        have hq : ownAt ds 0 k = some (e, z, xs) := by unfold ownAt; simp [hdi]
        refine ⟨?_, by show (us[k]?).getD undef = c; rw [hk']; rfl⟩
        show (lk (impOs 0 ds) k).isSome = true
        rw [hlk, hq]; rfl
      · cases hk'
  have := hj _ w _ R
  simp only [cont] at this
  exact this

end Go.Sm
