/- Towards the rows of this seat: what the functions do, as contracts over plain data. -/
import Derived.Test.YtdfihhfnnogpeaaGreatPk21
import Derived.Test.YtdfihhfnnogpeaaGreatPk17
import Derived.Test.YtdfihhfnnogpeaaGreatPk16
import Derived.Test.YtdfihhfnnogpeaaGreatPk3
namespace Go.Sm
open Go.RowKit

theorem by8_ofNat (n : Nat) : by8 (n : Int) = UInt8.ofNat n := by
  unfold by8
  apply UInt8.toNat.inj
  rw [UInt8.toNat_ofNat', UInt8.toNat_ofNat']
  omega

theorem isZero_ok (p d : Int) (ts : List Tm) (hl : ts.length ≤ 1000000) : CallOK Go.Proofs.Tryz.prog 112 [pv p d ts] (.one (bo (decide (ts = [])))) := by
  have hF := fnOk 7 [.tmp 2]
  refine callOK hF 60 Go.Proofs.Tryz.func112 rfl rfl rfl (by decide) (by simp) rfl ?_
  intro w0 hw
  have S := @vc_sound w0 _ hF ⟨(.one (bo (decide (ts = [])))), []⟩ Go.Proofs.Tryz.f112 rfl (by simp)
  cases ts with
  | nil => simp
  | cons t ts =>
    simp
    omega

/-- The first term of the Vandermonde polynomial. -/
theorem vanT_first {p d : Int} (hp : Pr p) (hd : 1 ≤ d ∧ d ≤ 3) : ∃ m ts, vanT p d = m :: ts ∧ maxT m ts = ⟨dE d, 1⟩ := by
  have : d = 1 ∨ d = 2 ∨ d = 3 := by omega
  rcases this with rfl | rfl | rfl <;> rcases hp with rfl | rfl | rfl | rfl | rfl | rfl <;> exact ⟨_, _, rfl, by decide⟩

/-- The first term of the greatest degree. -/
theorem degT_of {ts : List Tm} (ha : Asc ts) {t : Tm} (ht : t ∈ ts) (hm : ∀ u ∈ ts, wG u.e ≤ wG t.e) : degT ts = t.e.deg := by
  have h1 := degT_max ha t ht
  have h2 : degT ts ≤ t.e.deg := by
    unfold degT
    cases hl : ts.getLast? with
    | none => exact Int.le_trans (show (-1 : Int) ≤ 0 by decide) (deg_lt t.e).1
    | some u =>
      have h3 := hm u (List.mem_of_getLast? hl)
      have := u8_lt u.e.a; have := u8_lt u.e.b; have := u8_lt t.e.a; have := u8_lt t.e.b
      unfold wG at h3
      show u.e.deg ≤ t.e.deg
      unfold Ex.deg; omega
  omega
theorem deg_below {ts : List Tm} (ha : Asc ts) {i j : Nat} {t u : Tm} (ht : ts[j]? = some t) (hu : ts[i]? = some u) (hij : i < j) (hm : ∀ u ∈ ts, wG u.e ≤ wG t.e) : u.e.deg ≠ t.e.deg := by
  intro he
  have h1 := asc_get ha hu ht hij
  have h2 := hm u (List.mem_of_getElem? hu)
  have := u8_lt u.e.a; have := u8_lt u.e.b; have := u8_lt t.e.a; have := u8_lt t.e.b
  unfold cmpE at h1
  rw [if_neg (by omega)] at h1
  unfold Ex.deg at he
  unfold wG at h2
  by_cases hab : u.e.a = t.e.a
  · rw [if_neg (by simpa using hab)] at h1
    rw [hab] at h2 he
    omega
  · rw [if_pos hab] at h1
    omega

/-- What is left to divide, and what is told. -/
structure QS where
  q : List Tm
  o : List Tm

end Go.Sm
