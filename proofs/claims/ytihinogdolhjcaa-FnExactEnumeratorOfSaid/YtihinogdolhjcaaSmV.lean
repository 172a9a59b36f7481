/- One operation gives the same where more is known. -/
import Derived.Test.YtihinogdolhjcaaSmR
namespace Go.Sm
open Go.RowKit

/-- What one knows, the other knows. -/
def Le {α : Type} (f g : Nat → Option α) : Prop := ∀ k x, f k = some x → g k = some x

variable {T : Tab} {E : List (Nat × Nat)} {ρ ρ' : Operand → Option FV} {ob ob' : Nat → Option Ob}

theorem evLoad_mono (ho : Le ob ob') {t : TypeId} {x f : FV} (h : evLoad T ob t x = some f) : evLoad T ob' t x = some f := by
  unfold evLoad at h ⊢
  split at h
  · split at h
    · rename_i h2
      rw [ho _ _ h2]; simpa [*] using h
    · cases h
  · exact h
  · cases h

theorem evIA_mono (ho : Le ob ob') {t : Nat} {x i : FV} {r : IA} (h : evIA T ob t x i = r) (hr : r ≠ .no) : evIA T ob' t x i = r := by
  subst h
  unfold evIA at hr ⊢
  split
  · split
    · rfl
    · split
      · split
        · rename_i k
          cases hk : ob k with
          | none => simp_all
          | some o => rw [ho _ _ hk]
        · rfl
        · rfl
        · rfl
      · rfl
    · rfl
  · rfl

theorem evLen_mono (ho : Le ob ob') {t : TypeId} {x f : FV} (h : evLen T ob t x = some f) : evLen T ob' t x = some f := by
  unfold evLen at h ⊢
  cases ht : lk T t with
  | none => simp [ht] at h
  | some ti =>
    simp only [ht] at h ⊢
    split at h
    · rename_i k _
      cases hk : ob k with
      | none => simp [hk] at h
      | some o => rw [hk] at h; rw [ho _ _ hk]; exact h
    · exact h
    · exact h
    · rename_i k _
      cases hk : ob k with
      | none => simp [hk] at h
      | some o => rw [hk] at h; rw [ho _ _ hk]; exact h
    · exact h
    · cases h

theorem evStore_mono (ho : Le ob ob') {t : Nat} {p x : FV} {r : Prop × Nat × Ob} (h : evStore T ob t p x = some r) : evStore T ob' t p x = some r := by
  unfold evStore at h ⊢
  split at h
  · split at h
    · split at h
      · rename_i k off
        cases hk : ob k with
        | none => simp [hk] at h
        | some o => rw [hk] at h; rw [ho _ _ hk]; exact h
      · rename_i k z i j
        cases hk : ob k with
        | none => simp [hk] at h
        | some o => rw [hk] at h; rw [ho _ _ hk]; exact h
      · cases h
    · cases h
  · cases h

theorem bnd_mono (hρ : ∀ x f, ρ x = some f → ρ' x = some f) {d l : Int} {x : Option Operand} (h : bnd ρ d x = some l) : bnd ρ' d x = some l := by
  cases x with
  | none => exact h
  | some x =>
    simp only [bnd] at h ⊢
    cases hx : ρ x with
    | none => simp [hx] at h
    | some f => rw [hx] at h; rw [hρ _ _ hx]; exact h

theorem evSlice_mono (hρ : ∀ x f, ρ x = some f → ρ' x = some f) (ho : Le ob ob') {t : TypeId} {x : FV} {lo hi : Option Operand} {r : Ev} (h : evSlice T ρ ob t x lo hi = r) (hr : r ≠ .fail) :
    evSlice T ρ' ob' t x lo hi = r := by
  subst h
  unfold evSlice at hr ⊢
  have hb : ∀ {d : Int} {x : Option Operand} {z : Bool} {g : Int → Option Int → Ev}, True := trivial
  cases ht : lk T t with
  | none => simp [ht] at hr
  | some ti =>
    simp only [ht] at hr ⊢
    cases hk : ti.k <;> simp only [hk] at hr ⊢
    case sl e =>
      cases hte : lk T e with
      | none => simp [hte] at hr
      | some te =>
        simp only [hte] at hr ⊢
        split at hr
        · rename_i b z xs
          cases hz : Nat.beq z te.size <;> cases hl : bnd ρ 0 lo <;> cases hh : bnd ρ (xs.length : Nat) hi <;> simp only [hz, hl, hh, ne_eq, not_true_eq_false] at hr ⊢
          rw [bnd_mono hρ hl, bnd_mono hρ hh]
        · rename_i k
          cases hk : ob k with
          | none => simp [hk] at hr
          | some o =>
            rw [ho _ _ hk]
            cases o with
            | arr e z xs =>
              simp only [hk] at hr ⊢
              cases hz : Nat.beq z te.size <;> cases hl : bnd ρ 0 lo <;> cases hh : bnd ρ (xs.length : Nat) hi <;> simp only [hz, hl, hh, ne_eq, not_true_eq_false] at hr ⊢
              rw [bnd_mono hρ hl, bnd_mono hρ hh]
            | _ => simp [hk] at hr
        · exact absurd rfl hr
    all_goals exact absurd rfl hr

theorem evApp_mono (ho : Le ob ob') {k : Nat} {t t' : TypeId} {x y : FV} {r : Ev} (h : evApp T ob k t t' x y = r) (hr : r ≠ .fail) : evApp T ob' k t t' x y = r := by
  subst h
  unfold evApp at hr ⊢
  split at hr
  · rename_i k1 htt ht
    cases hk1 : ob k1 with
    | none => simp only [hk1] at hr; split at hr <;> simp_all
    | some o1 =>
      rw [ho _ _ hk1]
      rw [hk1] at hr
      split at hr
      · split at hr
        · split at hr
          · split at hr
            · rename_i k3
              cases hk3 : ob k3 with
              | none => simp [hk3] at hr
              | some o3 => rw [ho _ _ hk3]
            · simp_all
            · exact absurd rfl hr
          · exact absurd rfl hr
        · exact absurd rfl hr
      · exact absurd rfl hr
  · exact absurd rfl hr

theorem partsC_mono (hρ : ∀ x f, ρ x = some f → ρ' x = some f) : ∀ {ps : List (Nat × Operand)} {qs : List (Nat × List C)}, partsC ρ ps = some qs → partsC ρ' ps = some qs
  | [], _, h => h
  | (i, x) :: ps, qs, h => by
    simp only [partsC] at h ⊢
    cases hx : ρ x with
    | none => simp [hx] at h
    | some f =>
      cases hp : partsC ρ ps with
      | none => simp [hx, hp] at h
      | some qs' => rw [hx, hp] at h; rw [hρ _ _ hx, partsC_mono hρ hp]; exact h

theorem argsV_mono (hρ : ∀ x f, ρ x = some f → ρ' x = some f) : ∀ {xs : List Operand} {fs : List FV}, argsV ρ xs = some fs → argsV ρ' xs = some fs
  | [], _, h => h
  | x :: xs, fs, h => by
    simp only [argsV] at h ⊢
    cases hx : ρ x with
    | none => simp [hx] at h
    | some f =>
      cases hp : argsV ρ xs with
      | none => simp [hx, hp] at h
      | some fs' => rw [hx, hp] at h; rw [hρ _ _ hx, argsV_mono hρ hp]; exact h

theorem optF_mono {o o' : Option FV} (h : ∀ f, o = some f → o' = some f) (hr : optF o ≠ .fail) : optF o' = optF o := by
  cases o with
  | none => simp [optF] at hr
  | some f => rw [h f rfl]

theorem evAssign_mono (hρ : ∀ x f, ρ x = some f → ρ' x = some f) {k : Nat} {ty : TypeId} {x : Operand} (hr : evAssign T ρ k ty x ≠ .fail) : evAssign T ρ' k ty x = evAssign T ρ k ty x := by
  unfold evAssign at hr ⊢
  split
  · split
    · split
      · rfl
      · refine optF_mono (hρ x) ?_
        simp_all
    · refine optF_mono (hρ x) ?_
      simp_all
  · refine optF_mono (hρ x) ?_
    simp_all

theorem mapF_mono (ho : Le ob ob') {x : FV} {m : MD} (h : mapF ob x = some m) : mapF ob' x = some m := by
  unfold mapF at h ⊢
  split at h
  · exact h
  · rename_i k
    cases hk : ob k with
    | none => simp [hk] at h
    | some o => rw [hk] at h; rw [ho _ _ hk]; exact h
  · cases h
theorem ownMap_mono (ho : Le ob ob') {x : FV} {m : Nat × MD} (h : ownMap ob x = some m) : ownMap ob' x = some m := by
  unfold ownMap at h ⊢
  split at h
  · rename_i k
    cases hk : ob k with
    | none => simp [hk] at h
    | some o => rw [hk] at h; rw [ho _ _ hk]; exact h
  · cases h
theorem evLk_mono (ho : Le ob ob') {t : Nat} {x i f : FV} {co : Bool} (h : evLk T E ob t x i co = some f) : evLk T E ob' t x i co = some f := by
  unfold evLk at h ⊢
  cases h1 : mapTy T E t with
  | none => simp [h1] at h
  | some q =>
    cases h2 : mapF ob x with
    | none => simp [h1, h2] at h
    | some m => rw [mapF_mono ho h2]; simpa only [h1, h2] using h
theorem evMU_mono (ho : Le ob ob') {t : Nat} {x i v : FV} {r : Nat × Ob} (h : evMU T E ob t x i v = some r) : evMU T E ob' t x i v = some r := by
  unfold evMU at h ⊢
  cases h1 : mapTy T E t with
  | none => simp [h1] at h
  | some q =>
    cases h2 : ownMap ob x with
    | none => simp [h1, h2] at h
    | some m => rw [ownMap_mono ho h2]; simpa only [h1, h2] using h
theorem evME_mono (ho : Le ob ob') {t : Nat} {x i : FV} {r : FV × Nat × Ob} (h : evME T E ob t x i = some r) : evME T E ob' t x i = some r := by
  unfold evME at h ⊢
  cases h1 : mapTy T E t with
  | none => simp [h1] at h
  | some q =>
    cases h2 : ownMap ob x with
    | none => simp [h1, h2] at h
    | some m => rw [ownMap_mono ho h2]; simpa only [h1, h2] using h
theorem evES_mono (ho : Le ob ob') {x i v : FV} {r : Prop × Nat × Ob} (h : evES ob x i v = some r) : evES ob' x i v = some r := by
  unfold evES at h ⊢
  cases h2 : ownMap ob x with
  | none => simp [h2] at h
  | some m => rw [ownMap_mono ho h2]; simpa only [h2] using h
theorem evEn_mono (ho : Le ob ob') {x f : FV} (h : evEn ob x = some f) : evEn ob' x = some f := by
  unfold evEn at h ⊢
  split at h
  · rename_i k
    cases hk : ob k with
    | none => simp [hk] at h
    | some o => rw [hk] at h; rw [ho _ _ hk]; exact h
  · cases h

theorem ev_mono (hρ : ∀ x f, ρ x = some f → ρ' x = some f) (ho : Le ob ob') {k : Nat} {ty : TypeId} {op : Op} {r : Ev} (h : ev T E ρ ob k ty op = r) (hr : r ≠ .fail) : ev T E ρ' ob' k ty op = r := by
  subst h
  cases op <;> simp only [ev] at hr ⊢
  case move x => exact evAssign_mono hρ hr
  case assign x => exact evAssign_mono hρ hr
  case pick c x y =>
    cases hc : ρ c with
    | none => simp [hc] at hr
    | some f =>
      rw [hρ _ _ hc]
      rw [hc] at hr
      split at hr
      · rename_i h1; simp only [Option.some.injEq] at h1; subst h1; exact optF_mono (hρ x) hr
      · rename_i h1; simp only [Option.some.injEq] at h1; subst h1; exact optF_mono (hρ y) hr
      · exact absurd rfl hr
  case box t x =>
    cases hc : ρ x with
    | none => simp [hc] at hr
    | some f => rw [hρ _ _ hc]
  case build t ps =>
    cases hc : partsC ρ ps.toList with
    | none => simp [hc] at hr
    | some f => rw [partsC_mono hρ hc]
  case buildSlice t len ps =>
    cases hc : partsC ρ ps.toList with
    | none => simp [hc] at hr
    | some f => rw [partsC_mono hρ hc]
  case load t x =>
    cases hc : ρ x with
    | none => simp [hc] at hr
    | some f =>
      rw [hρ _ _ hc]
      rw [hc] at hr
      split at hr
      · rename_i k' z i j h1
        simp only [Option.some.injEq] at h1; subst h1
        cases hk : ob k' with
        | none => simp [hk] at hr
        | some o => rw [ho _ _ hk]
      · rename_i g hng h1
        simp only [Option.some.injEq] at h1; subst h1
        have := optF_mono (fun _ => evLoad_mono ho) hr
        exact this
      · rename_i h1; cases h1
  case store t p x =>
    cases hp : ρ p with
    | none => simp [hp] at hr
    | some f =>
      cases hx : ρ x with
      | none => simp [hp, hx] at hr
      | some g =>
        rw [hρ _ _ hp, hρ _ _ hx]
        simp only [hp, hx] at hr ⊢
        cases hs : evStore T ob t f g with
        | none => simp [hs] at hr
        | some r => rw [evStore_mono ho hs]
  case fieldAddr t x i =>
    cases hc : ρ x with
    | none => simp [hc] at hr
    | some f => rw [hρ _ _ hc]
  case indexAddr t x i =>
    cases hp : ρ x with
    | none => simp [hp] at hr
    | some f =>
      cases hx : ρ i with
      | none => simp [hp, hx] at hr
      | some g =>
        rw [hρ _ _ hp, hρ _ _ hx]
        simp only [hp, hx] at hr ⊢
        cases hs : evIA T ob t f g with
        | no => simp [hs] at hr
        | «at» p v => rw [evIA_mono ho hs (by simp)]
        | el xs n => rw [evIA_mono ho hs (by simp)]
  case binOp op t x y t' =>
    cases hp : ρ x with
    | none => simp [hp] at hr
    | some f =>
      cases hx : ρ y with
      | none => simp [hp, hx] at hr
      | some g => rw [hρ _ _ hp, hρ _ _ hx]
  case unOp op t x =>
    cases hc : ρ x with
    | none => simp [hc] at hr
    | some f => rw [hρ _ _ hc]
  case convert src dst x =>
    cases hc : ρ x with
    | none => simp [hc] at hr
    | some f => rw [hρ _ _ hc]
  case extract x i =>
    cases hc : ρ x with
    | none => simp [hc] at hr
    | some f => rw [hρ _ _ hc]
  case makeSlice t l c =>
    cases hp : ρ l with
    | none => simp [hp] at hr
    | some f =>
      cases hx : ρ c with
      | none => simp [hp, hx] at hr
      | some g => rw [hρ _ _ hp, hρ _ _ hx]
  case slice t x lo hi mx =>
    cases mx with
    | none =>
      simp only at hr ⊢
      cases hc : ρ x with
      | none => simp [hc] at hr
      | some f =>
        rw [hρ _ _ hc]
        simp only [hc] at hr ⊢
        exact evSlice_mono hρ ho rfl hr
    | some m => simp at hr
  case nilCheck x =>
    cases hc : ρ x with
    | none => simp [hc] at hr
    | some f => rw [hρ _ _ hc]
  case makeMap t r => cases r <;> simp only at hr ⊢
  case lookup t x i co =>
    cases hp : ρ x with
    | none => simp [hp] at hr
    | some f =>
      cases hx : ρ i with
      | none => simp [hp, hx] at hr
      | some g =>
        rw [hρ _ _ hp, hρ _ _ hx]
        simp only [hp, hx] at hr ⊢
        exact optF_mono (fun _ => evLk_mono ho) hr
  case mapUpdate t m i x =>
    cases h1 : ρ m with
    | none => simp [h1] at hr
    | some f =>
      cases h2 : ρ i with
      | none => simp [h1, h2] at hr
      | some g =>
        cases h3 : ρ x with
        | none => simp [h1, h2, h3] at hr
        | some y =>
          rw [hρ _ _ h1, hρ _ _ h2, hρ _ _ h3]
          simp only [h1, h2, h3] at hr ⊢
          cases h4 : evMU T E ob t f g y with
          | none => simp [h4] at hr
          | some q => rw [evMU_mono ho h4]
  case insert t m i x =>
    cases h1 : ρ m with
    | none => simp [h1] at hr
    | some f =>
      cases h2 : ρ i with
      | none => simp [h1, h2] at hr
      | some g =>
        cases h3 : ρ x with
        | none => simp [h1, h2, h3] at hr
        | some y =>
          rw [hρ _ _ h1, hρ _ _ h2, hρ _ _ h3]
          simp only [h1, h2, h3] at hr ⊢
          cases h4 : evMU T E ob t f g y with
          | none => simp [h4] at hr
          | some q => rw [evMU_mono ho h4]
  case mapEntry t m i =>
    cases h1 : ρ m with
    | none => simp [h1] at hr
    | some f =>
      cases h2 : ρ i with
      | none => simp [h1, h2] at hr
      | some g =>
        rw [hρ _ _ h1, hρ _ _ h2]
        simp only [h1, h2] at hr ⊢
        cases h4 : evME T E ob t f g with
        | none => simp [h4] at hr
        | some q => rw [evME_mono ho h4]
  case entryStore t m i x =>
    cases h1 : ρ m with
    | none => simp [h1] at hr
    | some f =>
      cases h2 : ρ i with
      | none => simp [h1, h2] at hr
      | some g =>
        cases h3 : ρ x with
        | none => simp [h1, h2, h3] at hr
        | some y =>
          rw [hρ _ _ h1, hρ _ _ h2, hρ _ _ h3]
          simp only [h1, h2, h3] at hr ⊢
          cases h4 : evES ob f g y with
          | none => simp [h4] at hr
          | some q => rw [evES_mono ho h4]
  case range t x =>
    cases hc : ρ x with
    | none => simp [hc] at hr
    | some f => rw [hρ _ _ hc]
  case entry x =>
    cases hc : ρ x with
    | none => simp [hc] at hr
    | some f =>
      rw [hρ _ _ hc]
      simp only [hc] at hr ⊢
      exact optF_mono (fun _ => evEn_mono ho) hr
  case call c =>
    split at hr
    · rename_i x t h1 h2 h3
      cases hc : ρ x with
      | none => simp [hc] at hr
      | some f =>
        rw [hρ _ _ hc]
        simp only [hc] at hr ⊢
        exact optF_mono (fun _ => evLen_mono ho) hr
    · rename_i x y t t' h1 h2 h3
      cases hp : ρ x with
      | none => simp [hp] at hr
      | some f =>
        cases hx : ρ y with
        | none => simp [hp, hx] at hr
        | some g =>
          rw [hρ _ _ hp, hρ _ _ hx]
          simp only [hp, hx] at hr ⊢
          exact evApp_mono ho rfl hr
    · rename_i x y h1 h2
      cases hp : ρ x with
      | none => simp [hp] at hr
      | some f =>
        cases hx : ρ y with
        | none => simp [hp, hx] at hr
        | some g => rw [hρ _ _ hp, hρ _ _ hx]
    · rename_i x y h1 h2
      cases hp : ρ x with
      | none => simp [hp] at hr
      | some f =>
        cases hx : ρ y with
        | none => simp [hp, hx] at hr
        | some g => rw [hρ _ _ hp, hρ _ _ hx]
    · rename_i f h1
      cases hp : ρ f with
      | none => simp [hp] at hr
      | some g =>
        rw [hρ _ _ hp]
        simp only [hp] at hr ⊢
        split at hr
        · split at hr
          · cases ha : argsV ρ c.args.toList with
            | none => simp [ha] at hr
            | some fs => rw [argsV_mono hρ ha]
          · exact absurd rfl hr
        · exact absurd rfl hr
    · exact absurd rfl hr
  all_goals first | rfl | exact absurd rfl hr

end Go.Sm
