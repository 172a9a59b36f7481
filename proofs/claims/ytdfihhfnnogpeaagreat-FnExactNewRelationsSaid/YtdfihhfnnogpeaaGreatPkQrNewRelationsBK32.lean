/- Towards the rows of this seat: what the functions do, as contracts over plain data. -/
import Derived.Test.YtdfihhfnnogpeaaGreatPkQrNewRelationsBK31
import Derived.Test.YtdfihhfnnogpeaaGreatPkQrNewRelationsBK28
namespace Go.Sm
open Go.RowKit

/-- Exponents as a key: eight numbers. -/
def keyN (r : List Int) : List Int := r ++ List.replicate (8 - r.length) 0
theorem keyN_len {r : List Int} (h : r.length ≤ 8) : (keyN r).length = 8 := by simp [keyN]; omega
theorem keyN_inj {r q : List Int} (h : r.length = q.length) (e : keyN r = keyN q) : r = q := by
  unfold keyN at e
  exact List.append_inj_left e h
abbrev keyV (r : List Int) : List Value := (keyN r).map fun n => Value.int .i64 n
abbrev keyD (r : List Int) : List D := (keyN r).map i64

set_option maxRecDepth 8000 in
theorem key_ok (r : List Int) (hl : r.length ≤ 8) : CallOK Go.Proofs.Tryz.prog 33 [.one (vInts r)] (.agg (keyD r)) := by
  have hF := fnOk 9 [.cell 2 53]
  refine callOK hF 60 Go.Proofs.Tryz.func33 rfl rfl rfl (by decide) (by simp) rfl ?_
  intro w0 hw
  have S := @vc_sound w0 _ hF ⟨(.agg (keyD r)), []⟩ Go.Proofs.Tryz.f33 rfl (by simp)
  unfold keyD at S ⊢
  simp
  refine OpW.varSlice (K := 192) (K' := 64000) (len := 8) (el := 2) (us := List.replicate 8 (.int .i64 0)) (T := tab) rfl rfl (by decide) hF.T rfl rfl rfl (by decide) rfl (by decide) (by rfl) (by rfl) (by rfl) fun e => ?_
  refine S 3 _ _ ?_
  simp
  have e1 : List.take (min r.length 8) (ints r) ++ List.drop (min r.length 8) [[i64 0], [i64 0], [i64 0], [i64 0], [i64 0], [i64 0], [i64 0], [i64 0]] = (keyV r).map fun u => [D.v u] := by
    rw [show [[i64 0], [i64 0], [i64 0], [i64 0], [i64 0], [i64 0], [i64 0], [i64 0]] = List.replicate 8 [i64 0] from rfl, List.drop_replicate, List.take_of_length_le (by simp; omega), show min r.length 8 = r.length by omega]
    simp [keyN, ints]
  rw [e1]
  have hl8 := keyN_len hl
  have hne : keyV r ≠ [] := fun h => by have := congrArg List.length h; rw [List.length_map, hl8] at this; cases this
  refine J.freezeRe (K := 64000) (d := 3) (us := (keyN r).map fun n => Value.int .i64 n) hne (by rfl) (by rfl) ?_
  clear e1 hne
  generalize keyN r = ks at hl8 S ⊢
  obtain ⟨a0, a1, a2, a3, a4, a5, a6, a7, rfl⟩ : ∃ a0 a1 a2 a3 a4 a5 a6 a7, ks = [a0, a1, a2, a3, a4, a5, a6, a7] := by
    match ks, hl8 with
    | [a0, a1, a2, a3, a4, a5, a6, a7], _ => exact ⟨_, _, _, _, _, _, _, _, rfl⟩
  refine S 60 _ _ ?_
  simp
end Go.Sm
