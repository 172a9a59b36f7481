/- Calls that change arguments: the caller's side. -/
import Derived.Test.YtihinogdolhjcaaSmS
namespace Go.Sm
open Go.RowKit

variable {P : Program} {N : Nat} {w0 : Base} {s : St} {a : Act} {w w' : World} {β : Nat → Value} {X : Nat → Prop} {B M M' : Nat → Prop}

/-! ### arguments -/

mutual
theorem Rd.argA (hB : ∀ b, B b → ¬ X b) (hc : ∀ b, X b → ∃ cur e, w.heap[b]? = some (.cells cur e (0, 0))) : ∀ (d : D) (c : Value), stA d = true → Rd w B M d c → Rd w (fun b => Old w b ∧ ¬ X b) X d c
  | .v _, _, _, h => by simpa only [Rd] using h
  | .vw a k xs, c, hs, h => by
    simp only [Sm.stA, Bool.and_eq_true] at hs
    simp only [Rd] at h ⊢
    rcases h with h | ⟨b, off, cap, h1, hl, hm, hb, ha, he⟩
    · exact .inl h
    · exact .inr ⟨b, off, cap, h1, hl, hB b (ha hs.1), hb, fun _ => ⟨hb, hB b (ha hs.1)⟩, RdEs.argA hB hc xs off hs.2 he⟩
  | .own e k xs, c, hs, _ => by simp [Sm.stA] at hs
  | .mp xs, c, _, h => by
    simp only [Rd] at h ⊢
    obtain ⟨r, es, clock, h1, hm, hh, ho⟩ := h
    have hx : ¬ X r := by
      intro hx
      obtain ⟨cur, e, h2⟩ := hc r hx
      rw [hh] at h2; cases h2
    exact ⟨r, es, clock, h1, hx, hh, ho⟩
theorem RdCs.argA (hB : ∀ b, B b → ¬ X b) (hc : ∀ b, X b → ∃ cur e, w.heap[b]? = some (.cells cur e (0, 0))) {b : Nat} : ∀ (xs : List D) (off : Nat), stACs xs = true → RdCs w B M xs b off → RdCs w (fun b => Old w b ∧ ¬ X b) X xs b off
  | [], _, _, _ => by simp only [RdCs]
  | x :: xs, off, hs, h => by
    simp only [stACs, Bool.and_eq_true] at hs
    simp only [RdCs] at h ⊢
    obtain ⟨⟨c, h1, hr⟩, h2⟩ := h
    exact ⟨⟨c, h1, Rd.argA hB hc x c hs.1 hr⟩, RdCs.argA hB hc xs (off + 1) hs.2 h2⟩
theorem RdEs.argA (hB : ∀ b, B b → ¬ X b) (hc : ∀ b, X b → ∃ cur e, w.heap[b]? = some (.cells cur e (0, 0))) {b k : Nat} : ∀ (xs : List (List D)) (off : Nat), stAEs xs = true → RdEs w B M k xs b off → RdEs w (fun b => Old w b ∧ ¬ X b) X k xs b off
  | [], _, _, _ => by simp only [RdEs]
  | e :: es, off, hs, h => by
    simp only [stAEs, Bool.and_eq_true] at hs
    simp only [RdEs] at h ⊢
    exact ⟨h.1, RdCs.argA hB hc e off hs.1 h.2.1, RdEs.argA hB hc es (off + k) hs.2 h.2.2⟩
end

def argXC (ks : List Nat) (ob : Nat → Option Ob) : C → Option D
  | .d x => match stA x with
    | true => some x
    | false => none
  | .ob k => match ob k, ks.elem k with
    | some (.arr e z xs), true => match freshEs xs with
      | true => some (.own e z xs)
      | false => none
    | _, _ => none
  | _ => none
def argXCs (ks : List Nat) (ob : Nat → Option Ob) : List C → Option (List D)
  | [] => some []
  | c :: cs => match argXC ks ob c, argXCs ks ob cs with
    | some d, some ds => some (d :: ds)
    | _, _ => none
def argXF (ks : List Nat) (ob : Nat → Option Ob) : FV → Option RV
  | .c x => match argXC ks ob x with
    | some d => some (.one d)
    | none => none
  | .g xs => match argXCs ks ob xs with
    | some ds => some (.agg ds)
    | none => none
  | _ => none
def argsX (ks : List Nat) (ob : Nat → Option Ob) : List FV → Option (List RV)
  | [] => some []
  | f :: r => match argXF ks ob f, argsX ks ob r with
    | some d, some ds => some (d :: ds)
    | _, _ => none
def cellsF : List FV → List C
  | [] => []
  | .c x :: r => x :: cellsF r
  | .g xs :: r => xs ++ cellsF r
  | _ :: r => cellsF r
/-- The keys that are handed over, in order. -/
def ownKeys : List C → List Nat
  | [] => []
  | .ob k :: r => k :: ownKeys r
  | _ :: r => ownKeys r

/-- The blocks of the objects that are handed over. -/
def XOf (en : En) (ks : List Nat) (b : Nat) : Prop := ∃ k ∈ ks, b ∈ obFp en k

theorem XOf.cells (R : Rel N w0 s a w β) {ks : List Nat} (hk : ∀ k ∈ ks, ∃ e z xs, lk s.ob k = some (.arr e z xs)) : ∀ b, XOf (s.en w w0.arg β) ks b → ∃ cur e, w.heap[b]? = some (.cells cur e (0, 0)) := by
  rintro b ⟨k, hk', hb⟩
  obtain ⟨e, z, xs, ho⟩ := hk k hk'
  have hr : OwnRel w w0.arg (s.en w w0.arg β).M e z xs (β k) := R.ob k _ ho
  rw [obFp_arr (en := s.en w w0.arg β) ho] at hb
  have hb : b ∈ fp w (.own e z xs) (β k) := hb
  rcases hr with ⟨_, h⟩ | ⟨g, cap, cur, h1, _, h3, _, _, h6⟩
  · rw [h, fp_own_nil] at hb; cases hb
  · rw [h1, fp_own_some] at hb
    rcases List.mem_cons.1 hb with rfl | hb
    · exact ⟨cur, e, h3⟩
    · exact (fpEs.mem xs 0 h6 b hb).2

theorem XOf.mine (R : Rel N w0 s a w β) {ks : List Nat} {b : Nat} (h : XOf (s.en w w0.arg β) ks b) : w0.mine b := by
  obtain ⟨k, _, hb⟩ := h; exact R.ge k b hb

theorem arg_not_mine {b : Nat} (h : w0.arg b) : ¬ w0.mine b := fun hm => hm.elim (fun h' => Nat.lt_irrefl _ (Nat.lt_of_lt_of_le h.1 h')) h.2

def keyC : C → List Nat
  | .ob k => [k]
  | _ => []

theorem argXC_sound (R : Rel N w0 s a w β) {ks : List Nat} (hk : ∀ k ∈ ks, ∃ e z xs, lk s.ob k = some (.arr e z xs)) {c : C} {d : D} {v : Value} (h : argXC ks (lk s.ob) c = some d) (hv : CRel (s.en w w0.arg β) c v) :
    ArgX w (XOf (s.en w w0.arg β) ks) d v ∧ fp w d v = (keyC c).flatMap (obFp (s.en w w0.arg β)) ∧ (∀ e z xs, d = .own e z xs → ∃ k, c = .ob k ∧ v = β k) := by
  have hcl := XOf.cells R hk
  have hA : ∀ {x : D}, stA x = true → Rd w w0.arg (s.en w w0.arg β).M x v → Rd w (fun b => Old w b ∧ ¬ XOf (s.en w w0.arg β) ks b) (XOf (s.en w w0.arg β) ks) x v :=
    fun {x} hs hr => Rd.argA (fun b hb hX => arg_not_mine hb (XOf.mine R hX)) hcl x v hs hr
  unfold argXC at h
  split at h
  · rename_i x
    split at h
    · rename_i hs
      simp only [Option.some.injEq] at h; subst h
      have hr := hA hs hv.2.2
      cases x with
      | own e z xs => simp [stA] at hs
      | v y => exact ⟨hr, by simp [fp, keyC], fun _ _ _ h => by cases h⟩
      | vw b z xs => exact ⟨hr, by simp [fp, keyC], fun _ _ _ h => by cases h⟩
      | mp es => exact ⟨hr, by simp [fp, keyC], fun _ _ _ h => by cases h⟩
    · cases h
  · rename_i k
    split at h
    · rename_i e z xs hob hel
      split at h
      · rename_i hf
        simp only [Option.some.injEq] at h; subst h
        obtain ⟨_, rfl, _⟩ := hv
        have hr : OwnRel w w0.arg (s.en w w0.arg β).M e z xs (β k) := R.ob k _ hob
        have hfp := obFp_arr (en := s.en w w0.arg β) hob
        refine ⟨⟨?_, hf, fun b hb => ⟨k, elem_iff.1 hel, by rw [hfp]; exact hb⟩⟩, ?_, fun _ _ _ _ => ⟨k, rfl, rfl⟩⟩
        · show Rd w _ _ _ (β k)
          simp only [Rd]
          rcases hr with hr | ⟨b, cap, cur, h1, h2, h3, h4, h5, h6⟩
          · exact .inl hr
          · exact .inr ⟨b, cap, cur, h1, h2, not_false, h3, h4, h5, RdEs.free xs 0 hf h6 fun _ _ => not_false⟩
        · simp only [keyC, List.flatMap_cons, List.flatMap_nil, List.append_nil]
          exact hfp.symm
      · cases h
    · cases h
  · cases h

theorem argXCs_sound (R : Rel N w0 s a w β) {ks : List Nat} (hk : ∀ k ∈ ks, ∃ e z xs, lk s.ob k = some (.arr e z xs)) : ∀ {cs : List C} {ds : List D} {vs : List Value}, argXCs ks (lk s.ob) cs = some ds → CsRel (s.en w w0.arg β) cs vs →
    DsV (ArgX w (XOf (s.en w w0.arg β) ks)) ds vs ∧ fpDs w ds vs = (ownKeys cs).flatMap (obFp (s.en w w0.arg β)) ∧
      ∀ (i : Nat) (e z : Nat) (xs : List (List D)) (v : Value), ds[i]? = some (.own e z xs) → vs[i]? = some v → ∃ k, cs[i]? = some (.ob k) ∧ v = β k
  | [], ds, [], h, _ => by simp [argXCs] at h; subst h; exact ⟨rfl, rfl, fun i e z xs v h => by simp at h⟩
  | [], _, _ :: _, _, h => h.elim
  | _ :: _, _, [], _, h => h.elim
  | c :: cs, ds, v :: vs, h, hv => by
    simp only [argXCs] at h
    split at h
    · rename_i d ds' h1 h2
      simp only [Option.some.injEq] at h; subst h
      obtain ⟨a1, a2, a3⟩ := argXC_sound R hk h1 hv.1
      obtain ⟨b1, b2, b3⟩ := argXCs_sound R hk h2 hv.2
      refine ⟨⟨v, vs, rfl, a1, b1⟩, ?_, ?_⟩
      · simp only [fpDs, List.headD_cons, List.tail_cons, b2]
        rw [a2]
        cases c <;> simp [ownKeys, keyC]
      · intro i e z xs u hi hu
        cases i with
        | zero =>
          simp at hi hu; subst hu
          obtain ⟨k, hk1, hk2⟩ := a3 e z xs hi
          exact ⟨k, by simp [hk1], hk2⟩
        | succ i => simpa using b3 i e z xs u (by simpa using hi) (by simpa using hu)
    · cases h

theorem argsX_sound (R : Rel N w0 s a w β) {ks : List Nat} (hk : ∀ k ∈ ks, ∃ e z xs, lk s.ob k = some (.arr e z xs)) : ∀ {fs : List FV} {rs : List RV} {vs : List Value}, argsX ks (lk s.ob) fs = some rs → FVsV (s.en w w0.arg β) fs vs →
    ∃ us, AVsX w (XOf (s.en w w0.arg β) ks) rs vs us ∧ argXCs ks (lk s.ob) (cellsF fs) = some (rs.flatMap cellsR) ∧ CsRel (s.en w w0.arg β) (cellsF fs) us
  | [], rs, vs, h, hv => by simp [argsX] at h; subst h; exact ⟨[], ⟨hv, rfl⟩, rfl, trivial⟩
  | f :: fs, rs, vs, h, hv => by
    simp only [argsX] at h
    obtain ⟨v, q, rfl, h3, h4⟩ := hv
    split at h
    · rename_i r rs' h1 h2
      simp only [Option.some.injEq] at h; subst h
      obtain ⟨us, u1, u2, u3⟩ := argsX_sound R hk h2 h4
      have happ : ∀ {cs cs' : List C} {ds ds' : List D}, argXCs ks (lk s.ob) cs = some ds → argXCs ks (lk s.ob) cs' = some ds' → argXCs ks (lk s.ob) (cs ++ cs') = some (ds ++ ds') := by
        intro cs
        induction cs with
        | nil => intro cs' ds ds' g1 g2; simp [argXCs] at g1; subst g1; simpa using g2
        | cons c cs ih =>
          intro cs' ds ds' g1 g2
          simp only [argXCs] at g1
          split at g1
          · rename_i d ds1 e1 e2
            simp only [Option.some.injEq] at g1; subst g1
            simp only [List.cons_append, argXCs, e1, ih e2 g2]
          · cases g1
      unfold argXF at h1
      split at h1
      · rename_i x
        split at h1
        · rename_i d hd
          simp only [Option.some.injEq] at h1; subst h1
          simp only [FVRel] at h3
          obtain ⟨a1, _, _⟩ := argXC_sound R hk hd h3
          exact ⟨v :: us, ⟨v, q, [v], us, rfl, rfl, rfl, ⟨v, [], rfl, a1, rfl⟩, u1⟩, by simp only [cellsF, argXCs, hd, u2, List.flatMap_cons, cellsR, List.singleton_append], ⟨h3, u3⟩⟩
        · cases h1
      · rename_i xs
        split at h1
        · rename_i ds hd
          simp only [Option.some.injEq] at h1; subst h1
          simp only [FVRel] at h3
          obtain ⟨x, rfl, hx⟩ := h3
          obtain ⟨a1, _, _⟩ := argXCs_sound R hk hd hx
          exact ⟨x ++ us, ⟨_, q, x, us, rfl, rfl, rfl, a1, u1⟩, by simp only [cellsF, List.flatMap_cons, cellsR]; exact happ hd u2, hx.append u3⟩
        · cases h1
      · cases h1
    · cases h

end Go.Sm
