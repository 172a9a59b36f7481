/- A sum of terms as a polynomial: what the program's method poly gives. -/
import Derived.Test.YtihinogdolhjcaaQaS
import Derived.Test.YtihinogdolhjcaaQaB
namespace Go.Sm
open Go.RowKit

/-- An entry of a sum. -/
abbrev sumE (p : Ex × Int) : List Int × Value := ([(p.1.a.toNat : Int), p.1.b.toNat, p.1.c.toNat], .int .i64 p.2)
abbrev sumM (l : List (Ex × Int)) : MD := ⟨.u8, 3, l.map fun p => sumE p⟩
abbrev sumD (l : List (Ex × Int)) : D := .mp (sumM l)

/-- What of a sum is not 0. -/
def kept (p : Int) (l : List (Ex × Int)) : List Tm := l.filterMap fun x => if x.2 % p = 0 then none else some ⟨x.1, x.2 % p⟩
def srt (l : List Tm) : List Tm := l.mergeSort fun a b => decide (a.e.key ≤ b.e.key)
def ofSum (p : Int) (l : List (Ex × Int)) : List Tm := srt (kept p l)

theorem srt_perm (l : List Tm) : (srt l).Perm l := List.mergeSort_perm l _
theorem srt_sorted {l : List Tm} (h : (l.map (·.e)).Nodup) : (srt l).Pairwise fun a b => cmpE a.e b.e < 0 := by
  have h1 : (srt l).Pairwise fun a b => decide (a.e.key ≤ b.e.key) = true := by
    refine List.pairwise_mergeSort ?_ ?_ l
    · intro a b c h1 h2
      rw [decide_eq_true_eq] at *; omega
    · intro a b
      simp only [Bool.or_eq_true, decide_eq_true_eq]; omega
  have h2 : ((srt l).map (·.e)).Nodup := (((srt_perm l).map _).nodup_iff).2 h
  have h3 : (srt l).Pairwise fun a b => a.e ≠ b.e := by
    rw [List.Nodup, List.pairwise_map] at h2
    exact h2
  refine (h1.and h3).imp fun {a b} hab => ?_
  rw [cmpE_key]
  have := hab.1
  rw [decide_eq_true_eq] at this
  have hne : a.e.key ≠ b.e.key := fun e => hab.2 (key_inj e)
  omega
theorem kept_keys {p : Int} : ∀ {l : List (Ex × Int)}, (l.map (·.1)).Nodup → ((kept p l).map (·.e)).Nodup
  | [], _ => by simp [kept]
  | x :: l, h => by
    simp only [List.map_cons, List.nodup_cons] at h
    have ih := kept_keys (p := p) h.2
    unfold kept at ih ⊢
    rw [List.filterMap_cons]
    split
    · exact ih
    · rename_i t ht
      split at ht
      · cases ht
      · simp only [Option.some.injEq] at ht; subst ht
        simp only [List.map_cons, List.nodup_cons]
        refine ⟨fun hm => h.1 ?_, ih⟩
        obtain ⟨t, ht, he⟩ := List.mem_map.1 hm
        obtain ⟨y, hy, hy2⟩ := List.mem_filterMap.1 ht
        split at hy2
        · cases hy2
        · simp only [Option.some.injEq] at hy2; subst hy2
          simp only at he
          rw [← he]; exact List.mem_map_of_mem hy
theorem kept_length (p : Int) (l : List (Ex × Int)) : (kept p l).length ≤ l.length := List.length_filterMap_le _ _

@[simp] theorem map_erase' {α γ : Type} (f : α → γ) (L : List α) (j : Nat) : (L.map f).eraseIdx j = (L.eraseIdx j).map f := map_erase f L j

theorem kept_take {p : Int} : ∀ {rem : List (Ex × Int)} {i : Nat} {x : Ex × Int}, rem[i]? = some x → (kept p rem).Perm (kept p [x] ++ kept p (rem.eraseIdx i))
  | [], i, x, h => by simp at h
  | y :: rem, 0, x, h => by
    simp at h; subst h
    simp only [List.eraseIdx_zero, List.tail_cons]
    have : kept p (y :: rem) = kept p [y] ++ kept p rem := by
      rw [show y :: rem = [y] ++ rem from rfl]
      unfold kept; rw [List.filterMap_append]
    rw [this]
  | y :: rem, i + 1, x, h => by
    have ih := kept_take (p := p) (rem := rem) (i := i) (x := x) (by simpa using h)
    have e1 : ∀ l, kept p (y :: l) = kept p [y] ++ kept p l := by
      intro l
      rw [show y :: l = [y] ++ l from rfl]
      unfold kept; rw [List.filterMap_append]
    rw [List.eraseIdx_cons_succ, e1 rem, e1 (rem.eraseIdx i)]
    refine (ih.append_left _).trans ?_
    rw [← List.append_assoc, ← List.append_assoc]
    exact List.Perm.append_right _ List.perm_append_comm

theorem poly_ok (p d : Int) (l : List (Ex × Int)) (hl : l.length ≤ 1048576) (hn : (l.map (·.1)).Nodup) (hp : 0 < p) (hp2 : p < 4000000000000000000) : CallOK Go.Proofs.Try.prog 83 [.one (sumD l), .one (i64 p), .one (i64 d)] (po p d (ofSum p l)) := by
  have hF := fnOk 41 [.cell 6 39]
  refine callOK hF 60 Go.Proofs.Try.func83 rfl rfl rfl (by decide) (by simp) rfl ?_
  intro w0 hw
  have S := @vc_sound w0 _ hF ⟨(po p d (ofSum p l)), []⟩ Go.Proofs.Try.f83 rfl (by simp)
  simp
  refine J.loop hw (fun q : List Tm × List (Ex × Int) × Option (List Int × Value) => ⟨[(1, .c (.d (i64 p))), (6, .c (.ref 64006 0)), (7, .c (.ref 64008 0)), (14, .c (.ref 64010 0))],
      [(64006, .var [.d (i64 0), .d (i64 0), .ob 64007]), (64007, .arr 108 4 []), (64008, .var [.d (i64 p), .d (i64 d), .ob 64009]), (64009, .arr 108 4 (terms q.1)), (64010, .it (sumM l) (q.2.1.map fun p => sumE p) q.2.2)]⟩)
    (fun q => (q.1 ++ kept p q.2.1).Perm (kept p l)) (fun q => q.2.1.length) ([], l, none) (by simp) (by simp) ?_
  rintro ⟨acc, rem, last⟩ hperm
  simp only at hperm
  refine S 60 _ _ ?_
  simp
  have hal : acc.length ≤ 1048576 := by
    have h1 := hperm.length_eq
    have h2 := kept_length p l
    simp only [List.length_append] at h1
    omega
  refine OpW.next (key := 64010) (m := sumM l) (rem := rem.map fun p => sumE p) (last := last) rfl rfl (by decide) (by rfl) (by rfl) (fun h0 => ?_) (fun i e he => ?_)
  · have h0 : rem = [] := by simpa using h0
    subst h0
    have hperm : acc.Perm (kept p l) := by simpa [kept] using hperm
    refine S 60 _ _ ?_
    simp
    refine CallW.mut (sortTerms_ok acc (ofSum p l) (by omega) ((srt_perm _).trans hperm.symm) (srt_sorted (kept_keys hn))) (by decide) (by simp) (by simp) (by simp) (by simp) (by simp) (by simp) ?_
    refine S 60 _ _ ?_
    simp
  · obtain ⟨x, hx, rfl⟩ : ∃ x, rem[i]? = some x ∧ e = sumE x := by
      rw [List.getElem?_map] at he
      cases hq : rem[i]? with
      | none => rw [hq] at he; cases he
      | some x => rw [hq] at he; simp only [Option.map_some, Option.some.injEq] at he; exact ⟨x, rfl, he.symm⟩
    have hr := tmod_range x.2 p hp
    have h0 : p ≠ 0 := by omega
    have hmod : (IntKind.i64.wrap (x.2.tmod p + p)).tmod p = x.2 % p := by rw [wrap64 (by omega) (by omega), tmod_mod _ _ hp]
    have hk := kept_take (p := p) hx
    have hdec : (rem.eraseIdx i).length < rem.length := by
      have := (List.getElem?_eq_some_iff.1 hx).1
      rw [List.length_eraseIdx]; split <;> omega
    refine S 60 _ _ ?_
    simp [keyFV, h0, hmod]
    refine ⟨fun hnz => ?_, fun hz => ?_⟩
    · have hk1 : kept p [x] = [⟨x.1, x.2 % p⟩] := by simp [kept, hnz]
      refine ⟨⟨by omega, by omega⟩, ?_⟩
      refine Nxt.mk (acc ++ [Tm.mk x.1 (x.2 % p)], rem.eraseIdx i, some (sumE x)) ?_ (by simp) hdec
      show ((acc ++ [Tm.mk x.1 (x.2 % p)]) ++ kept p (rem.eraseIdx i)).Perm (kept p l)
      rw [List.append_assoc, ← hk1]
      exact (hk.symm.append_left acc).trans hperm
    · have hk1 : kept p [x] = [] := by simp [kept, hz]
      refine Nxt.mk (acc, rem.eraseIdx i, some (sumE x)) ?_ (by simp) hdec
      show (acc ++ kept p (rem.eraseIdx i)).Perm (kept p l)
      rw [hk1, List.nil_append] at hk
      exact (hk.symm.append_left acc).trans hperm

end Go.Sm
