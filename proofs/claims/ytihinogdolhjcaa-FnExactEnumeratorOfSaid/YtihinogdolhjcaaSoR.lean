/- Arguments of the rows: a slice of integers, as the claims hand it in, is an argument of the contracts. -/
import Derived.Test.YtihinogdolhjcaaSnF
import Derived.WalkKit
import Derived.ProofKit
import Derived.OpenShut
import Derived.ShutString
import Derived.ChangeOld
import Derived.Below
import Derived.SizedLaws
namespace Go.Sm
open Go.RowKit Go.WideShapes Go.ChangeShapes Go.ChangeAt

theorem rdEs_ints {W : World} {B M : Nat → Prop} {b : Nat} : ∀ {zs : List Int} {off : Nat}, (∀ i, i < zs.length → W.cell? ⟨b, off + i, none⟩ = some (.int .i64 (zs.getD i 0))) → RdEs W B M 1 (ints zs) b off
  | [], _, _ => by simp [RdEs]
  | z :: zs, off, h => by
    have h0 := h 0 (by simp)
    simp only [List.map_cons, RdEs, RdCs]
    refine ⟨rfl, ⟨⟨_, h0, ?_⟩, trivial⟩, rdEs_ints fun i hi => ?_⟩
    · simp [Rd, Value.oneCell']
    · have := h (i + 1) (by simp; omega)
      rw [show off + 1 + i = off + (i + 1) by omega, this]
      simp

theorem av_int {w : World} (n : Int) : AV w (.one (i64 n)) (.int .i64 n) := ⟨[.int .i64 n], rfl, rfl, _, _, rfl, by simp [Rd, Value.oneCell'], rfl⟩

theorem av_ints {H : Type} {enc : TypeId × Value → H} {P : Program} {W : World} {base : Nat} {t e : TypeId} {v : Value} {d : DataW H} {p : List MemPlace}
    (ht : P.underlying t = some (.slice e)) (he : P.underlying e = some (.int .i64)) (hc : P.cellsOf e = 1)
    (hv : Value.okWide P W .any base t v) (h : DataW.Trod enc P W 0 (fun _ => true) true t v d p) : ∃ zs : List Int, AV W (.one (vInts zs)) v := by
  obtain ⟨a, len, cap, rfl⟩ := okWide_slice ht hv
  obtain ⟨fuel, hf⟩ := h
  rcases open_ints ht he hc hf with ⟨hcs, _⟩ | ⟨x, l, c, zs, hcs, _, hl, hm, hz, _, hcell, hwz⟩
  · simp [Value.cells] at hcs
    obtain ⟨rfl, rfl, rfl⟩ := hcs
    exact ⟨[], [nilV], rfl, rfl, _, _, rfl, by simp [Rd], rfl⟩
  · simp [Value.cells] at hcs
    obtain ⟨rfl, rfl, rfl⟩ := hcs
    simp only [Value.okWide, ht, Cell.okWide, Cell.ok, World.has] at hv
    obtain ⟨_, _, _, hs, row, cells, hsh, _⟩ := hv
    have hb : x.block < W.heap.size := by
      apply Decidable.byContradiction
      intro hn
      unfold World.shape? at hsh
      rw [Array.getElem?_eq_none (by omega)] at hsh
      cases hsh
    obtain ⟨b, off, spot⟩ := x
    simp only at hs hb
    subst hs
    simp only [if_true] at hz
    refine ⟨zs.take len, [_], rfl, rfl, _, _, rfl, ?_, rfl⟩
    have hlen : (zs.take len).length = len := by rw [List.length_take]; omega
    simp only [Rd]
    refine (Or.inr ⟨b, off, cap, by simp; omega, by simp; omega, fun h => h, hb, fun _ => hb, rdEs_ints fun i hi => ?_⟩)
    rw [hlen] at hi
    have := hcell i (by omega)
    rw [add_plain] at this
    rw [this]
    simp [List.getD, hi]

end Go.Sm
