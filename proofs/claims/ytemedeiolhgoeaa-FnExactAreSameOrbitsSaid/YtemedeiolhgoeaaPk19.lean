/- Towards the rows of this seat: what the functions do, as contracts over plain data. -/
import Derived.Test.YtemedeiolhgoeaaPk2
namespace Go.Sm
open Go.RowKit

variable {P : Program} {N : Nat} {w0 : Base} {s : St} {a : Act} {w : World} {β : Nat → Value}

theorem RdCs_of_CsRel {en : En} {b : Nat} : ∀ (xs : List D) (vs : List Value) (off : Nat), CsRel en (xs.map C.d) vs → (∀ n u, vs[n]? = some u → en.w.cell? ⟨b, off + n, none⟩ = some u) → RdCs en.w en.B en.M xs b off
  | [], _, _, _, _ => by simp [RdCs]
  | x :: xs, [], _, h, _ => by simp [CsRel] at h
  | x :: xs, v :: vs, off, h, hc => by
    simp only [List.map_cons, CsRel, CRel] at h
    simp only [RdCs]
    refine ⟨⟨v, by simpa using hc 0 v rfl, h.1.2.2⟩, RdCs_of_CsRel xs vs (off + 1) h.2 fun n u hu => ?_⟩
    have := hc (n + 1) u (by simpa using hu)
    rw [show off + 1 + n = off + (n + 1) by omega]; exact this

/-- A slot that holds a variable's place: what is read there. -/
theorem J.freezeV {Q : Exit → Act → World → Prop} {k : List It} {d K : Nat} {xs : List D} (hK : lk s.ob K = some (.var (xs.map C.d))) (hd : lk s.tm d = some (.c (.ref K 0)))
    (h : J P N w0 Q k ⟨(d, .c (.rd xs)) :: s.tm, (K, .dead) :: s.ob⟩) : J P N w0 Q k s := by
  intro a w β R
  have hv := R.tm d _ hd
  refine h a w β ((R.kill hK).retm (s := ⟨s.tm, (K, .dead) :: s.ob⟩) ?_)
  simp only [FVRel, CRel] at hv ⊢
  obtain ⟨_, g, h2, h3⟩ := hv
  have hr := R.ob K _ hK
  simp only [ObRel] at hr
  obtain ⟨g', cur, T, q1, q2, q3⟩ := hr
  have h2' : β K = .pointer (some ⟨g, 0, none⟩) := h2
  have q1' : β K = .pointer (some ⟨g', 0, none⟩) := q1
  rw [h2'] at q1'
  simp only [Value.pointer.injEq, Option.some.injEq, Addr.mk.injEq, and_true] at q1'
  subst q1'
  have S := R.killS hK
  refine ⟨g, 0, h3, ?_, lt_of_heap q2, ?_⟩
  · rintro ⟨j, o, ho, hl, hb⟩
    have ho' : lk ((K, Ob.dead) :: s.ob) j = some o := ho
    rw [lk_cons] at ho'
    split at ho'
    · simp only [Option.some.injEq] at ho'; subst ho'; simp [Ob.live] at hl
    · rename_i hne
      exact R.dj j K (Ne.symm hne) g (R.live_block ho' hl hb) (R.live_block hK rfl (by show blk (β K) = some g; rw [h2']; rfl))
  · refine RdCs_of_CsRel (en := St.en ⟨s.tm, (K, .dead) :: s.ob⟩ w w0.arg β) xs cur.toList 0 (q3.step S) fun n u hu => ?_
    rw [Nat.zero_add]
    show w.cell? ⟨g, n, none⟩ = some u
    rw [cell_of_row w g n cur T (0, 0) q2]; simpa using hu

/-! ### a variable's cells, told by less -/
theorem Rel.varS (_ : Rel N w0 s a w β) {K : Nat} {cs cs' : List C} (hK : lk s.ob K = some (.var cs)) : Step (s.en w w0.arg β) (St.en ⟨s.tm, (K, .var cs') :: s.ob⟩ w w0.arg β) := by
  refine ⟨rfl, ⟨Nat.le_refl _, fun _ _ _ => rfl, ?_⟩, fun k hk => ⟨?_, rfl⟩⟩
  · rintro b ⟨j, o', ho, hl, hb⟩
    simp only [St.en, lk_cons] at ho hb
    split at ho
    · rename_i e
      subst e
      exact .inl ⟨_, .var cs, hK, rfl, hb⟩
    · exact .inl ⟨j, o', ho, hl, hb⟩
  · simp only [St.en, lk_cons] at hk ⊢
    split
    · rfl
    · exact hk

theorem Rel.varW (R : Rel N w0 s a w β) {K : Nat} {cs cs' : List C} (hK : lk s.ob K = some (.var cs)) (h : ∀ vs, CsRel (s.en w w0.arg β) cs vs → CsRel (s.en w w0.arg β) cs' vs) :
    Rel N w0 ⟨s.tm, (K, .var cs') :: s.ob⟩ a w β := by
  have S := R.varS (cs' := cs') hK
  have hf : obFp (St.en ⟨s.tm, (K, .var cs') :: s.ob⟩ w w0.arg β) K = obFp (s.en w w0.arg β) K := by
    unfold obFp
    simp only [St.en, lk_cons_self, hK]
  refine R.update S (Low.refl _ _) [K] ?_ ?_ ?_ ?_ R.sz R.df (R.tm_step rfl S)
  · intro k hk
    simp only [List.mem_singleton] at hk
    exact ⟨by simp only [lk_cons]; rw [if_neg (Ne.symm hk)], fun _ _ _ _ _ => rfl⟩
  · intro k hk o' ho
    simp only [List.mem_singleton] at hk; subst hk
    simp only [lk_cons_self, Option.some.injEq] at ho; subst ho
    obtain ⟨g, cur, T, h1, h2, h3⟩ := R.ob _ _ hK
    exact ⟨g, cur, T, h1, h2, (h _ h3).step S⟩
  · intro k hk
    simp only [List.mem_singleton] at hk; subst hk
    rw [hf]; exact R.nd _
  · intro k hk b hb
    simp only [List.mem_singleton] at hk; subst hk
    rw [hf] at hb
    refine ⟨R.ge _ b hb, fun k' hk' => R.dj _ k' (fun e => hk' (by rw [← e]; exact List.mem_singleton_self _)) b hb, fun k' hk' hne => ?_⟩
    rw [List.mem_singleton] at hk'
    exact (hne hk').elim

theorem CsRel.mono {en : En} : ∀ {cs cs' : List C} {vs : List Value}, cs'.length = cs.length → (∀ (i : Nat) (c c' : C) (v : Value), cs[i]? = some c → cs'[i]? = some c' → CRel en c v → CRel en c' v) → CsRel en cs vs → CsRel en cs' vs
  | [], [], [], _, _, _ => trivial
  | [], _ :: _, _, hl, _, _ => by simp at hl
  | _ :: _, [], _, hl, _, _ => by simp at hl
  | [], [], _ :: _, _, _, h => h.elim
  | _ :: _, _ :: _, [], _, _, h => h.elim
  | c :: cs, c' :: cs', v :: vs, hl, hc, h => ⟨hc 0 c c' v rfl rfl h.1, CsRel.mono (by simpa using hl) (fun i x x' u h1 h2 => hc (i + 1) x x' u (by simpa using h1) (by simpa using h2)) h.2⟩

/-- A view of an argument is a view. -/
theorem CRel.loc {en : En} {z : Nat} {xs : List (List D)} {v : Value} (h : CRel en (.d (.vw true z xs)) v) : CRel en (.d (.vw false z xs)) v := by
  simp only [CRel, Rd] at h ⊢
  refine ⟨rfl, h.2.1, ?_⟩
  rcases h.2.2 with h | ⟨b, off, cap, q1, q2, q3, q4, q5, q6⟩
  · exact .inl h
  · exact .inr ⟨b, off, cap, q1, q2, q3, q4, fun h => (nomatch h), q6⟩

/-- A variable's cell that holds a view of an argument: a view. -/
theorem J.locC {Q : Exit → Act → World → Prop} {k : List It} (K i : Nat) {z : Nat} {xs : List (List D)} {cs : List C} (hK : lk s.ob K = some (.var cs)) (hi : cs[i]? = some (.d (.vw true z xs)))
    (h : J P N w0 Q k ⟨s.tm, (K, .var (cs.set i (.d (.vw false z xs)))) :: s.ob⟩) : J P N w0 Q k s := by
  intro a w β R
  refine h a w β (R.varW hK fun vs hv => CsRel.mono (by simp) (fun j c c' v h1 h2 h3 => ?_) hv)
  rw [List.getElem?_set] at h2
  split at h2
  · rename_i e
    subst e
    rw [hi] at h1
    simp only [Option.some.injEq] at h1; subst h1
    split at h2
    · simp only [Option.some.injEq] at h2; subst h2; exact h3.loc
    · cases h2
  · rw [h1] at h2
    simp only [Option.some.injEq] at h2; subst h2; exact h3

/-- A variable's cell that holds an array of one's own: a view. -/
theorem J.freezeC {Q : Exit → Act → World → Prop} {k : List It} (K i A : Nat) {e z : Nat} {xs : List (List D)} {cs : List C} (hA : lk s.ob A = some (.arr e z xs)) (hK : lk ((A, Ob.dead) :: s.ob) K = some (.var cs)) (hi : cs[i]? = some (.ob A))
    (h : J P N w0 Q k ⟨s.tm, (K, .var (cs.set i (.d (.vw false z (locEs xs))))) :: (A, .dead) :: s.ob⟩) : J P N w0 Q k s := by
  intro a w β R
  refine h a w β ((R.kill hA).varW (s := ⟨s.tm, (A, .dead) :: s.ob⟩) hK fun vs hv => CsRel.mono (by simp) (fun j c c' v h1 h2 h3 => ?_) hv)
  rw [List.getElem?_set] at h2
  split at h2
  · rename_i e
    subst e
    rw [hi] at h1
    simp only [Option.some.injEq] at h1; subst h1
    split at h2
    · simp only [Option.some.injEq] at h2; subst h2
      simp only [CRel] at h3 ⊢
      obtain ⟨_, h4, h5⟩ := h3
      have h4' : v = β A := h4
      refine ⟨rfl, h5, ?_⟩
      rw [h4']
      simp only [Rd]
      rcases R.kill_view hA with ⟨rfl, h0⟩ | ⟨b, cap, q1, q2, q3, q4, q5⟩
      · exact .inl ⟨by simp [locEs], none, 0, h0, fun _ => rfl⟩
      · refine .inr ⟨b, 0, cap, ?_, by rw [length_locEs]; exact q2, q3, q4, fun h => (nomatch h), q5⟩
        rw [length_locEs]; exact q1
    · cases h2
  · rw [h1] at h2
    simp only [Option.some.injEq] at h2; subst h2; exact h3

end Go.Sm
