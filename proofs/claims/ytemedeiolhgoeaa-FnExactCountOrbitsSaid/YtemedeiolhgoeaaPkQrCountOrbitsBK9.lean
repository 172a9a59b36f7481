/- Towards the rows of this seat: what the functions do, as contracts over plain data. -/
import Derived.Test.YtemedeiolhgoeaaPkQrCountOrbitsBK2
namespace Go.Sm
open Go.RowKit

variable {P : Program} {N : Nat} {w0 : Base} {s : St} {a : Act} {w : World} {β : Nat → Value}

theorem RdCs_of_CsRel {en : En} {b : Nat} : ∀ (xs : List D) (vs : List Value) (off : Nat), CsRel en (xs.map C.d) vs → (∀ n u, vs[n]? = some u → en.w.cell? ⟨b, off + n, none⟩ = some u) → RdCs en.w en.B en.M xs b off
  | [], _, _, _, _ => by simp [RdCs]
  | x :: xs, [], _, h, _ => by simp [CsRel] at h
  | x :: xs, v :: vs, off, h, hc => by
    simp only [List.map_cons, CsRel, CRel] at h
    simp only [RdCs]
    refine ⟨⟨v, by simpa using hc 0 v rfl, h.1.2.2⟩, RdCs_of_CsRel xs vs (off + 1) h.2 fun n u hu => ?_⟩
    have := hc (n + 1) u (by simpa using hu)
    rw [show off + 1 + n = off + (n + 1) by omega]; exact this

/-- A slot that holds a variable's place: what is read there. -/
theorem J.freezeV {Q : Exit → Act → World → Prop} {k : List It} {d K : Nat} {xs : List D} (hK : lk s.ob K = some (.var (xs.map C.d))) (hd : lk s.tm d = some (.c (.ref K 0)))
    (h : J P N w0 Q k ⟨(d, .c (.rd xs)) :: s.tm, (K, .dead) :: s.ob⟩) : J P N w0 Q k s := by
  intro a w β R
  have hv := R.tm d _ hd
  refine h a w β ((R.kill hK).retm (s := ⟨s.tm, (K, .dead) :: s.ob⟩) ?_)
  simp only [FVRel, CRel] at hv ⊢
  obtain ⟨_, g, h2, h3⟩ := hv
  have hr := R.ob K _ hK
  simp only [ObRel] at hr
  obtain ⟨g', cur, T, q1, q2, q3⟩ := hr
  have h2' : β K = .pointer (some ⟨g, 0, none⟩) := h2
  have q1' : β K = .pointer (some ⟨g', 0, none⟩) := q1
  rw [h2'] at q1'
  simp only [Value.pointer.injEq, Option.some.injEq, Addr.mk.injEq, and_true] at q1'
  subst q1'
  have S := R.killS hK
  refine ⟨g, 0, h3, ?_, lt_of_heap q2, ?_⟩
  · rintro ⟨j, o, ho, hl, hb⟩
    have ho' : lk ((K, Ob.dead) :: s.ob) j = some o := ho
    rw [lk_cons] at ho'
    split at ho'
    · simp only [Option.some.injEq] at ho'; subst ho'; simp [Ob.live] at hl
    · rename_i hne
      exact R.dj j K (Ne.symm hne) g (R.live_block ho' hl hb) (R.live_block hK rfl (by show blk (β K) = some g; rw [h2']; rfl))
  · refine RdCs_of_CsRel (en := St.en ⟨s.tm, (K, .dead) :: s.ob⟩ w w0.arg β) xs cur.toList 0 (q3.step S) fun n u hu => ?_
    rw [Nat.zero_add]
    show w.cell? ⟨g, n, none⟩ = some u
    rw [cell_of_row w g n cur T (0, 0) q2]; simpa using hu

/-! ### a variable's cells, told by less -/
theorem CsRel.mono {en : En} : ∀ {cs cs' : List C} {vs : List Value}, cs'.length = cs.length → (∀ (i : Nat) (c c' : C) (v : Value), cs[i]? = some c → cs'[i]? = some c' → CRel en c v → CRel en c' v) → CsRel en cs vs → CsRel en cs' vs
  | [], [], [], _, _, _ => trivial
  | [], _ :: _, _, hl, _, _ => by simp at hl
  | _ :: _, [], _, hl, _, _ => by simp at hl
  | [], [], _ :: _, _, _, h => h.elim
  | _ :: _, _ :: _, [], _, _, h => h.elim
  | c :: cs, c' :: cs', v :: vs, hl, hc, h => ⟨hc 0 c c' v rfl rfl h.1, CsRel.mono (by simpa using hl) (fun i x x' u h1 h2 => hc (i + 1) x x' u (by simpa using h1) (by simpa using h2)) h.2⟩

/-- A view of an argument is a view. -/
theorem CRel.loc {en : En} {z : Nat} {xs : List (List D)} {v : Value} (h : CRel en (.d (.vw true z xs)) v) : CRel en (.d (.vw false z xs)) v := by
  simp only [CRel, Rd] at h ⊢
  refine ⟨rfl, h.2.1, ?_⟩
  rcases h.2.2 with h | ⟨b, off, cap, q1, q2, q3, q4, q5, q6⟩
  · exact .inl h
  · exact .inr ⟨b, off, cap, q1, q2, q3, q4, fun h => (nomatch h), q6⟩

end Go.Sm
