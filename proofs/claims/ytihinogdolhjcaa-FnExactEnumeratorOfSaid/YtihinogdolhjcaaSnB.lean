/- An array of one's own inside another: taken out, and put back. -/
import Derived.Test.YtihinogdolhjcaaSnA
namespace Go.Sm
open Go.RowKit

variable {P : Program} {N : Nat} {w0 : Base} {s : St} {a : Act} {w w' : World} {β : Nat → Value} {X : Nat → Prop} {B M M' : Nat → Prop}

/-! ### weaker demands -/

theorem Oper.wp_mono2 {o : Oper} {K K' : Act → World → Prop} {Q Q' : Exit → Act → World → Prop} (h : ∀ a w, K a w → K' a w) (hq : ∀ e a w, Q e a w → Q' e a w) (hh : o.wp P a w K Q) : o.wp P a w K' Q' := by
  unfold Oper.wp at *
  generalize (execOp a.eval o).run P w = r at *
  cases r with
  | ok n w' =>
    cases n <;> simp only [Oper.upon] at hh ⊢ <;>
      first
        | exact h _ _ hh
        | exact Calls.mono hh (fun e w'' he => by cases e <;> first | exact h _ _ he | exact hq _ _ _ he | exact he.imp fun a ⟨w, h⟩ => ⟨w, hq _ _ _ h⟩)
        | exact Rows.mono hh (fun _ _ he => h _ _ he)
  | halt x w' => cases x <;> simp only [Oper.upon] at hh ⊢ <;> first | exact hh | exact hq _ _ _ hh

theorem wpList_mono {ops : Array Oper} {Q Q' : Exit → Act → World → Prop} (hq : ∀ e a w, Q e a w → Q' e a w) : ∀ (l : List Oper) (a : Act) (w : World), wpList P ops Q l a w → wpList P ops Q' l a w
  | [], a, w, h => hq _ _ _ h
  | o :: l, a, w, h => by
    unfold wpList at h ⊢
    split at h
    · rename_i hw
      rw [if_pos hw]
      exact h.imp (Oper.wp_mono2 (fun a w => wpList_mono hq l a w) hq) fun ⟨h1, h2⟩ => ⟨h1, h2.imp fun a ⟨w, h⟩ => ⟨w, hq _ _ _ h⟩⟩
    · rename_i hw
      rw [if_neg hw]
      exact wpList_mono hq l _ _ h

theorem cont_weaken {w0' : Base} {Q Q' : Exit → Act → World → Prop} (hq : ∀ e a w, Q' e a w → Q e a w) (hr : ∀ s a w β, Rel N w0' s a w β → Rel N w0 s a w β) : ∀ (k : List It) (e : Exit) (a : Act) (w : World), cont P N w0' Q' k e a w → cont P N w0 Q k e a w
  | [], e, a, w, h => by simp only [cont] at h ⊢; exact hq _ _ _ h
  | x :: k, e, a, w, h => by
    have ih := fun e a w => cont_weaken hq hr k e a w
    cases x with
    | code c =>
      cases e <;> simp only [cont] at h ⊢ <;> first | exact wp_mono h ih | exact ih _ _ _ h
    | ops all l =>
      cases e <;> simp only [cont] at h ⊢ <;> first | exact wpList_mono ih l a w h | exact ih _ _ _ h
    | blk id =>
      cases e <;> simp only [cont] at h ⊢ <;> first
        | exact ih _ _ _ h
        | (split at h
           · rename_i e1; rw [if_pos e1]; exact ih _ _ _ h
           · rename_i e1; rw [if_neg e1]; exact ih _ _ _ h)
    | inv p =>
      cases e <;> simp only [cont] at h ⊢ <;> first
        | exact ih _ _ _ h
        | (obtain ⟨s, β, h1, h2⟩ := h; exact ⟨s, β, h1, hr _ _ _ _ h2⟩)

/-- A key whose handle has a name. -/
def Base.named (w0 : Base) (K : Nat) (c : Value) : Base := ⟨w0.toWorld, w0.X, fun k => if k = K then some c else w0.fix k⟩

theorem Rel.named (R : Rel N w0 s a w β) {K : Nat} (hK : (lk s.ob K).isSome = true) : Rel N (w0.named K (β K)) s a w β := by
  refine ⟨R.sz, R.df, R.tm, R.ob, R.nd, R.dj, R.ge, ⟨R.low.os, R.low.tape, R.low.output, R.low.size, R.low.block, R.low.drawn⟩, fun k c hk => ?_⟩
  have hk' : (if k = K then some (β K) else w0.fix k) = some c := hk
  split at hk'
  · rename_i e; subst e
    simp only [Option.some.injEq] at hk'
    exact ⟨hK, hk'⟩
  · exact R.fx k c hk'
theorem Rel.unnamed {K : Nat} {c : Value} (hf : w0.fix K = none) (R : Rel N (w0.named K c) s a w β) : Rel N w0 s a w β := by
  refine ⟨R.sz, R.df, R.tm, R.ob, R.nd, R.dj, R.ge, ⟨R.low.os, R.low.tape, R.low.output, R.low.size, R.low.block, R.low.drawn⟩, fun k c' hk => R.fx k c' ?_⟩
  show (if k = K then some c else w0.fix k) = some c'
  rw [if_neg (fun e => by rw [e, hf] at hk; cases hk)]; exact hk

theorem post_named {F : Fn} {r : Res} {fn : Func} {K : Nat} {c : Value} (hK : ∀ p ∈ r.outs, p.1 ≠ K) {e : Exit} {a : Act} {w : World} (h : F.post (w0.named K c) r fn e a w) : F.post w0 r fn e a w := by
  have hR : ∀ {e : Ending} {w' : World}, (∃ v, e = .returned v ∧ OwnR w' (w0.named K c) r v ∧ Low (w0.named K c) (w0.named K c).toWorld w') → ∃ v, e = .returned v ∧ OwnR w' w0 r v ∧ Low w0 w0.toWorld w' := by
    rintro e w' ⟨v, h1, ⟨us, vs, o1, o2, o3, o4, o5, o6⟩, h3⟩
    refine ⟨v, h1, ⟨us, vs, o1, o2.trans ?_, o3, o4, o5, o6⟩, ⟨h3.os, h3.tape, h3.output, h3.size, h3.block, h3.drawn⟩⟩
    refine List.map_congr_left fun p hp => ?_
    show (if p.1 = K then some c else w0.fix p.1) = w0.fix p.1
    rw [if_neg (hK p hp)]
  unfold Fn.post at h ⊢
  unfold bodyPost at h ⊢
  split at h
  all_goals first
    | exact hR h
    | exact ⟨h.1, hR h.2⟩
    | (obtain ⟨g1, v, g2, g3⟩ := h; exact ⟨g1, v, g2, hR g3⟩)
    | exact h.elim

/-! ### one cell of one's own among others -/

theorem setCs {b : Nat} (hX : Chg X w w) (hB : ∀ b, B b → ¬ X b) (hM : ∀ b, M' b → M b ∨ X b ∨ w.heap.size ≤ b) : ∀ (xs : List D) (off j : Nat) (dd d' : D), xs[j]? = some dd → stOCs xs = true → RdCs w B M xs b off →
    (fpCs w xs b off).Nodup → ∀ c, w.cell? ⟨b, off + j, none⟩ = some c → (∀ y, X y → y ∈ fp w dd c) → Rd w B M' d' c →
    RdCs w B M' (xs.set j d') b off ∧ ∃ pre post, fpCs w xs b off = pre ++ (fp w dd c ++ post) ∧ fpCs w (xs.set j d') b off = pre ++ (fp w d' c ++ post)
  | [], _, _, _, _, h, _, _, _, _, _, _, _ => by simp at h
  | x :: xs, off, 0, dd, d', h, hs, hr, hn, c, hc, hx, hd => by
    simp at h; subst h
    simp only [stOCs, Bool.and_eq_true] at hs
    simp only [RdCs] at hr
    obtain ⟨⟨c', hc', _⟩, h2⟩ := hr
    have hc : w.cell? ⟨b, off, none⟩ = some c := by simpa using hc
    rw [hc'] at hc
    simp only [Option.some.injEq] at hc; subst hc
    simp only [fpCs, hc', Option.getD_some] at hn
    obtain ⟨n1, n2, n3⟩ := List.nodup_append.1 hn
    obtain ⟨r1, r2⟩ := RdCs.stO hX hB hM (fun _ => rfl) xs (off + 1) hs.2 (fun y hy hxy => n3 y (hx y hxy) y hy rfl) h2
    refine ⟨?_, [], fpCs w xs b (off + 1), ?_, ?_⟩
    · simp only [List.set_cons_zero, RdCs]; exact ⟨⟨c', hc', hd⟩, r1⟩
    · simp only [fpCs, hc', Option.getD_some, List.nil_append]
    · simp only [List.set_cons_zero, fpCs, hc', Option.getD_some, List.nil_append]
  | x :: xs, off, j + 1, dd, d', h, hs, hr, hn, c, hc, hx, hd => by
    simp only [stOCs, Bool.and_eq_true] at hs
    simp only [RdCs] at hr
    obtain ⟨⟨c', hc', hr1⟩, h2⟩ := hr
    simp only [fpCs, hc', Option.getD_some] at hn
    obtain ⟨n1, n2, n3⟩ := List.nodup_append.1 hn
    have hc2 : w.cell? ⟨b, off + 1 + j, none⟩ = some c := by rw [show off + 1 + j = off + (j + 1) by omega]; exact hc
    obtain ⟨q1, pre, post, q2, q3⟩ := setCs hX hB hM xs (off + 1) j dd d' (by simpa using h) hs.2 h2 n2 c hc2 hx hd
    have hsub : ∀ y, X y → y ∈ fpCs w xs b (off + 1) := fun y hy => by rw [q2]; simp [hx y hy]
    obtain ⟨r1, _⟩ := Rd.stO hX hB hM x c' hs.1 (fun y hy hxy => n3 y hy y (hsub y hxy) rfl) hr1
    refine ⟨?_, fp w x c' ++ pre, post, ?_, ?_⟩
    · simp only [List.set_cons_succ, RdCs]; exact ⟨⟨c', hc', r1⟩, q1⟩
    · simp only [fpCs, hc', Option.getD_some, q2, List.append_assoc]
    · simp only [List.set_cons_succ, fpCs, hc', Option.getD_some, q3, List.append_assoc]

theorem setEs {b z : Nat} (hX : Chg X w w) (hB : ∀ b, B b → ¬ X b) (hM : ∀ b, M' b → M b ∨ X b ∨ w.heap.size ≤ b) : ∀ (xs : List (List D)) (off i j : Nat) (E : List D) (dd d' : D), xs[i]? = some E → E[j]? = some dd → stOEs xs = true → RdEs w B M z xs b off →
    (fpEs w z xs b off).Nodup → ∀ c, w.cell? ⟨b, off + i * z + j, none⟩ = some c → (∀ y, X y → y ∈ fp w dd c) → Rd w B M' d' c →
    RdEs w B M' z (xs.set i (E.set j d')) b off ∧ ∃ pre post, fpEs w z xs b off = pre ++ (fp w dd c ++ post) ∧ fpEs w z (xs.set i (E.set j d')) b off = pre ++ (fp w d' c ++ post)
  | [], _, _, _, _, _, _, h, _, _, _, _, _, _, _, _ => by simp at h
  | e :: es, off, 0, j, E, dd, d', h, hj, hs, hr, hn, c, hc, hx, hd => by
    simp at h; subst h
    simp only [stOEs, Bool.and_eq_true] at hs
    simp only [RdEs] at hr
    simp only [fpEs] at hn
    obtain ⟨n1, n2, n3⟩ := List.nodup_append.1 hn
    have hc2 : w.cell? ⟨b, off + j, none⟩ = some c := by simpa using hc
    obtain ⟨q1, pre, post, q2, q3⟩ := setCs hX hB hM e off j dd d' hj hs.1 hr.2.1 n1 c hc2 hx hd
    have hsub : ∀ y, X y → y ∈ fpCs w e b off := fun y hy => by rw [q2]; simp [hx y hy]
    obtain ⟨r1, r2⟩ := RdEs.stO hX hB hM (fun _ => rfl) es (off + z) hs.2 (fun y hy hxy => n3 y (hsub y hxy) y hy rfl) hr.2.2
    refine ⟨?_, pre, post ++ fpEs w z es b (off + z), ?_, ?_⟩
    · simp only [List.set_cons_zero, RdEs, List.length_set]; exact ⟨hr.1, q1, r1⟩
    · simp only [fpEs, q2, List.append_assoc]
    · simp only [List.set_cons_zero, fpEs, q3, List.append_assoc]
  | e :: es, off, i + 1, j, E, dd, d', h, hj, hs, hr, hn, c, hc, hx, hd => by
    simp only [stOEs, Bool.and_eq_true] at hs
    simp only [RdEs] at hr
    simp only [fpEs] at hn
    obtain ⟨n1, n2, n3⟩ := List.nodup_append.1 hn
    have hc2 : w.cell? ⟨b, off + z + i * z + j, none⟩ = some c := by rw [show off + z + i * z + j = off + (i + 1) * z + j by rw [Nat.add_mul]; omega]; exact hc
    obtain ⟨q1, pre, post, q2, q3⟩ := setEs hX hB hM es (off + z) i j E dd d' (by simpa using h) hj hs.2 hr.2.2 n2 c hc2 hx hd
    have hsub : ∀ y, X y → y ∈ fpEs w z es b (off + z) := fun y hy => by rw [q2]; simp [hx y hy]
    obtain ⟨r1, _⟩ := RdCs.stO hX hB hM (fun _ => rfl) e off hs.1 (fun y hy hxy => n3 y hy y (hsub y hxy) rfl) hr.2.1
    refine ⟨?_, fpCs w e b off ++ pre, post, ?_, ?_⟩
    · simp only [List.set_cons_succ, RdEs]; exact ⟨hr.1, r1, q1⟩
    · simp only [fpEs, q2, List.append_assoc]
    · simp only [List.set_cons_succ, fpEs, q3, List.append_assoc]

theorem getCs : ∀ {xs : List D} {b off j : Nat} {d : D}, RdCs w B M xs b off → xs[j]? = some d → ∃ c, w.cell? ⟨b, off + j, none⟩ = some c ∧ Rd w B M d c
  | [], _, _, _, _, _, h => by simp at h
  | x :: xs, b, off, 0, d, hr, h => by simp at h; subst h; simp only [RdCs] at hr; simpa using hr.1
  | x :: xs, b, off, j + 1, d, hr, h => by
    simp only [RdCs] at hr
    have := getCs (j := j) hr.2 (by simpa using h)
    rw [show off + (j + 1) = off + 1 + j by omega]; exact this

/-- An object elsewhere. -/
theorem ObRel.st {en en' : En} (hX : Chg X en.w en'.w) (hB : ∀ b, en.B b → ¬ X b) (hBe : en'.B = en.B) (hM : ∀ b, en'.M b → en.M b ∨ X b ∨ en.w.heap.size ≤ b)
    (hcst : ∀ c v, stC c = true → CRel en c v → CRel en' c v) {ky : Nat} {o : Ob} (hbe : en'.β ky = en.β ky) (ho : en.ob ky = some o) (hs : stOb o = true) (hfp : ∀ b ∈ obFp en ky, b < en.w.heap.size ∧ ¬ X b) (hr : ObRel en ky o) :
    ObRel en' ky o ∧ (en'.ob ky = some o → obFp en' ky = obFp en ky) := by
  cases o with
  | dead => exact ⟨trivial, fun h => by rw [obFp_dead h, obFp_dead ho]⟩
  | var vcs =>
    obtain ⟨g, cur, T, h1, h2, h3⟩ := hr
    have hb : g ∈ obFp en ky := by rw [obFp_var ho, h1]; simp [blk]
    obtain ⟨hlt, hx⟩ := hfp g hb
    exact ⟨⟨g, cur, T, hbe.trans h1, (hX.block g hlt hx).trans h2, CsRel.st hcst hs h3⟩, fun h => by rw [obFp_var h, obFp_var ho, hbe]⟩
  | mp es =>
    obtain ⟨r, ents, clock, h1, h2, h3⟩ := hr
    have hb : r ∈ obFp en ky := by rw [obFp_mp ho, h1]; simp [blk]
    obtain ⟨hlt, hx⟩ := hfp r hb
    exact ⟨⟨r, ents, clock, hbe.trans h1, (hX.block r hlt hx).trans h2, h3⟩, fun h => by rw [obFp_mp h, obFp_mp ho, hbe]⟩
  | it m rem last =>
    obtain ⟨g, r, since, seen, st, h1, h2, h3, h4⟩ := hr
    have hb : g ∈ obFp en ky := by rw [obFp_it ho, h1]; simp [blk]
    obtain ⟨hlt, hx⟩ := hfp g hb
    exact ⟨⟨g, r, since, seen, st, hbe.trans h1, (hX.block g hlt hx).trans h2, by rw [hBe]; exact Rd.stA hX hB hM (.mp m) _ rfl h3, h4⟩, fun h => by rw [obFp_it h, obFp_it ho, hbe]⟩
  | arr e z xs =>
    have hfpo := obFp_arr ho
    rcases hr with ⟨rfl, h1⟩ | ⟨g, cap, cur, h1, h2, h3, h4, h5, h6⟩
    · exact ⟨.inl ⟨rfl, hbe.trans h1⟩, fun h => by rw [obFp_arr h, hfpo, hbe, h1, fp_own_nil, fp_own_nil]⟩
    · have hfpe : obFp en ky = g :: fpEs en.w z xs g 0 := by rw [hfpo, h1, fp_own_some]
      obtain ⟨hlt, hx⟩ := hfp g (by rw [hfpe]; exact List.mem_cons_self ..)
      obtain ⟨r1, r2⟩ := RdEs.stO hX hB hM (fun _ => hX.cell hlt hx) xs 0 hs (fun y hy => (hfp y (by rw [hfpe]; exact List.mem_cons_of_mem _ hy)).2) h6
      exact ⟨.inr ⟨g, cap, cur, hbe.trans h1, h2, (hX.block g hlt hx).trans h3, h4, h5, by rw [hBe]; exact r1⟩, fun h => by rw [obFp_arr h, hfpe, hbe, h1, fp_own_some, r2]⟩

end Go.Sm
