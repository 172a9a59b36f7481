/- Towards the rows of this seat: what the functions do, as contracts over plain data. -/
import Derived.Test.YtdfihhfnnogpeaaPk26
import Derived.Test.YtdfihhfnnogpeaaPk22
namespace Go.Sm
open Go.RowKit

/-- The product of the powers of the first ones. -/
def preE (p : Int) (d : Nat) (k : Ex) : Nat → List Tm
  | 0 => [⟨e0, 1⟩]
  | j + 1 => timesT p (eT p d j) (exAt k j).toNat (preE p d k j)
def wtE (k : Ex) : Nat → Nat
  | 0 => 0
  | j + 1 => wtE k j + (exAt k j).toNat * (j + 1)
theorem preE_ok {p : Int} (hp : 2 ≤ p) {d : Nat} (hd : 1 ≤ d ∧ d ≤ 3) {k : Ex} (hk : KOk d k) : ∀ j, j ≤ d → Can p (preE p d k j) ∧ AllE (DegLe d (wtE k j)) (preE p d k j)
  | 0, _ => ⟨one_can hp, const_all d 1⟩
  | j + 1, hj => by
    obtain ⟨h1, h2⟩ := preE_ok hp hd hk j (by omega)
    have hw : wtE k (j + 1) ≤ 255 := by
      have := hk.w
      have hc : j = 0 ∨ j = 1 ∨ j = 2 := by omega
      rcases hc with rfl | rfl | rfl <;> simp [wtE, exAt] <;> omega
    exact timesT_facts hp (eT_deg hp hd (by omega)) _ h1 h2 hw
theorem wtE_le {d : Nat} (hd : 1 ≤ d ∧ d ≤ 3) {k : Ex} (hk : KOk d k) : ∀ j, j ≤ d → wtE k j ≤ 12 := by
  intro j hj
  have := hk.w
  have hc : j = 0 ∨ j = 1 ∨ j = 2 ∨ j = 3 := by omega
  rcases hc with rfl | rfl | rfl | rfl <;> simp [wtE, exAt] <;> omega
theorem preE_all (p : Int) {d : Nat} (hd : 1 ≤ d ∧ d ≤ 3) (k : Ex) : preE p d k d = powE p d k := by
  have : d = 1 ∨ d = 2 ∨ d = 3 := by omega
  rcases this with rfl | rfl | rfl <;> rfl
theorem exAt_drop3 (e : Ex) {j : Nat} (h : j < 3) : ∃ r, List.drop j [C.d (u8 e.a), C.d (u8 e.b), C.d (u8 e.c)] = C.d (u8 (exAt e j)) :: r := by
  have hc : j = 0 ∨ j = 1 ∨ j = 2 := by omega
  rcases hc with rfl | rfl | rfl
  · exact ⟨_, rfl⟩
  · exact ⟨_, rfl⟩
  · exact ⟨_, rfl⟩

set_option maxHeartbeats 1000000 in
set_option maxRecDepth 4000 in
theorem l08Product_ok (p : Int) (d : Nat) (k : Ex) (hp : Pr p) (hd : 1 ≤ d ∧ d ≤ 3) (hk : KOk d k) : CallOK Go.Proofs.Try.prog 38 [.one (i64 p), .one (i64 d), .agg k.ds] (po p d (powE p d k)) := by
  have hF := fnOk 42 [.cell 6 28]
  refine callOK hF 60 Go.Proofs.Try.func38 rfl rfl rfl (by decide) (by simp) rfl ?_
  intro w0 hw
  have S := @vc_sound w0 _ hF ⟨(po p d (powE p d k)), []⟩ Go.Proofs.Try.f38 rfl (by simp)
  have hpp := hp.pos
  have c1 := l01One_ok p d ⟨0, 0, 0⟩ 1 (by omega) (by omega) (by omega) (by omega)
  rw [putT_one (by omega)] at c1
  have hall := preE_all p hd k
  have hpre := preE_ok hpp.1 hd hk
  have hwt := wtE_le hd hk
  have hstep : ∀ j, preE p d k (j + 1) = timesT p (eT p d j) (exAt k j).toNat (preE p d k j) := fun _ => rfl
  have hwst : ∀ j, wtE k (j + 1) = wtE k j + (exAt k j).toNat * (j + 1) := fun _ => rfl
  simp
  refine CallW.ok (by decide) (by simp) c1 (by simp) (S 60 _ _ ?_)
  simp
  refine J.loop hw (fun j : Nat => ⟨[(0, .c (.d (i64 p))), (1, .c (.d (i64 d))), (5, .c (.ref 64005 0)), (6, .c (.ref 64006 0)), (7, .c (.ref 64007 0)), (8, .c (.d (i64 j)))],
      [(64005, .var [.d (u8 k.a), .d (u8 k.b), .d (u8 k.c)]), (64006, .var [.d (i64 0), .d (i64 0), .ob 64016]), (64016, .arr 57 4 []), (64007, .var [.d (i64 p), .d (i64 d), .ob 64017]), (64017, .arr 57 4 (terms (preE p d k j)))]⟩)
    (fun j => j ≤ d) (fun j => d - j) 0 (by simp) (by simp [preE]) ?_
  intro j hj
  obtain ⟨hpc, hpd⟩ := hpre j hj
  refine S 8 _ _ ?_
  simp
  refine ⟨fun hlt => ?_, fun hge => ?_⟩
  · have hlt : j < d := by omega
    have c3 := l08Elementary_ok p d (j + 1) hpp.1 hpp.2 hd hlt
    rw [show ofSum p (sumOf (permsE d (elemE (j + 1)))) = eT p d j from rfl] at c3
    have hec := eT_can hpp.1 d j
    have hed := eT_deg hpp.1 hd hlt
    have hst := hstep j
    have hws := hwst j
    have hw1 := hwt (j + 1) hlt
    have hw0 := hwt j hj
    obtain ⟨rst, hrst⟩ := exAt_drop3 k (j := j) (by omega)
    have hxl := (exAt k j).toNat_lt
    have hjw : IntKind.i64.wrap ((j : Int) + 1) = ((j + 1 : Nat) : Int) := wrapS (n := d) hlt (by omega)
    have hmin : min 1 (3 - j) = 1 := by omega
    generalize preE p d k j = cur at hpc hpd hst ⊢
    generalize hnx : preE p d k (j + 1) = nx at hst
    generalize eT p d j = y at c3 hec hed hst
    generalize wtE k j = wj at hpd hws hw0
    generalize wtE k (j + 1) = wn at hws hw1
    refine S 60 _ _ ?_
    simp [hjw]
    refine CallW.ok (by decide) (by simp) c3 (by simp) (S 60 _ _ ?_)
    simp [hrst]
    refine ⟨by omega, ?_⟩
    generalize hE : (exAt k j).toNat = K at hst hws hxl
    refine J.loop hw (fun m : Nat => ⟨[(0, .c (.d (i64 p))), (1, .c (.d (i64 d))), (5, .c (.ref 64005 0)), (6, .c (.ref 64006 0)), (7, .c (.ref 64007 0)), (8, .c (.d (i64 j))), (9, .c (.ref 64009 0)), (10, .c (.d (.v (.int .u8 ((K - m : Nat) : Int)))))],
        [(64005, .var [.d (u8 k.a), .d (u8 k.b), .d (u8 k.c)]), (64006, .var [.d (i64 0), .d (i64 0), .ob 64016]), (64016, .arr 57 4 []), (64007, .var [.d (i64 p), .d (i64 d), .ob 64017]), (64017, .arr 57 4 (terms (timesT p y m cur))),
          (64009, .var [.d (i64 p), .d (i64 d), .ob 64019]), (64019, .arr 57 4 (terms y))]⟩)
      (fun m => m ≤ K) (fun m => K - m) 0 (by simp) (by simp [hE, timesT]) ?_
    intro m hm
    have hms : timesT p y (m + 1) cur = mulT p (timesT p y m cur) y := timesT_succ p y m cur
    have hmj : m * (j + 1) ≤ K * (j + 1) := Nat.mul_le_mul_right _ hm
    obtain ⟨w1, w2⟩ := timesT_facts hpp.1 hed m hpc hpd (by omega)
    refine S 8 _ _ ?_
    simp
    refine ⟨fun hlt2 => ?_, fun hge2 => ?_⟩
    · have hlt2 : m < K := by omega
      have hmj2 : m * (j + 1) + (j + 1) ≤ K * (j + 1) := by rw [← Nat.succ_mul]; exact Nat.mul_le_mul_right _ hlt2
      generalize timesT p y m cur = w at hms w1 w2 ⊢
      generalize hw' : timesT p y (m + 1) cur = w' at hms
      have wl := can_len w1 w2 (by omega)
      have yl := can_len hec hed (by omega)
      have wdg := degT_le w2
      have ydg := degT_le hed
      have c4 := l01TimesG_ok p d p d w y (by omega) (by omega) w1 hec (by omega) (by omega) (by omega) (by omega) (by unfold dg; omega)
      rw [← hms] at c4
      have hwk : (by8 (((K - m : Nat) : Int) - 1)).toNat = K - (m + 1) := by
        rw [show ((K - m : Nat) : Int) - 1 = ((K - (m + 1) : Nat) : Int) by omega, by8_ofNat, UInt8.toNat_ofNat']
        omega
      refine S 60 _ _ ?_
      simp
      refine CallW.ok (by decide) (by simp) c4 (by simp) (S 60 _ _ ?_)
      simp
      exact Nxt.mk (m + 1) (by omega) (by simp [hwk, hw']) (by omega)
    · have : m = K := by omega
      subst this
      rw [← hst]
      refine S 60 _ _ ?_
      simp [hjw]
      exact Nxt.mk (j + 1) (by omega) (by simp [hnx]) (by omega)
  · have e : j = d := by omega
    subst e
    rw [hall]
    refine S 60 _ _ ?_
    simp
end Go.Sm
