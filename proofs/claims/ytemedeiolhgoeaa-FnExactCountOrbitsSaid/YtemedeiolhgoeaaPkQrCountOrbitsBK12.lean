/- Towards the rows of this seat: what the functions do, as contracts over plain data. -/
import Derived.Lib.BytesEntry
import Derived.Test.YtemedeiolhgoeaaPkQrCountOrbitsBK7
import Derived.Test.YtemedeiolhgoeaaPkQrCountOrbitsBK3
import Derived.Test.YtemedeiolhgoeaaPkQrCountOrbitsBK8
import Derived.Test.YtemedeiolhgoeaaPkQrCountOrbitsBK11
import Derived.Test.YtemedeiolhgoeaaPkQrCountOrbitsBK9
namespace Go.Sm
open Go.RowKit

theorem J.cleanM {P : Program} {N : Nat} {w0 : Base} {s : St} (hw : w0.ok64) {Q : Exit → Act → World → Prop} {k : List It} (t : St) (h : Fit (autoRn s t) s t) (hj : J P N w0 Q k t) : J P N w0 Q k s := J.fit hw h hj
@[simp] theorem wrap64_5 : IntKind.i64.wrap 5 = 5 := rfl
@[simp] theorem wrap64_6 : IntKind.i64.wrap 6 = 6 := rfl
def okL (E : List (List Int)) : Nat → Bool
  | 0 => leadN (E.getD 0 []) == 0
  | i + 1 => okL E i && leadN (E.getD (i + 1) []) == i + 1
/-- What the reference returns: the right half of the reduced rows, up to the first one that leads elsewhere. -/
def invX (n : Nat) (E : List (List Int)) : Mx := mkM fun i j => if E.length = n ∧ i < n ∧ j < n ∧ okL E i = true then gt (E.getD i []) (n + j) else 0
theorem invM_okL {p : Int} {n : Nat} {g : Mx} (hn : 1 ≤ n) : invM p n g = ((echL p (rowsM n g)).length == n && okL (echL p (rowsM n g)) (n - 1)) := by
  unfold invM
  congr 1
  generalize echL p (rowsM n g) = E
  obtain ⟨m, rfl⟩ : ∃ m, n = m + 1 := ⟨n - 1, by omega⟩
  rw [Nat.add_sub_cancel]
  clear hn
  induction m with
  | zero => simp [okL, List.range_succ]
  | succ m ih => rw [List.range_succ, List.all_append, ih, okL]; simp
theorem u8id {p x : Int} (hp : 2 ≤ p ∧ p ≤ 13) (hx : 0 ≤ x ∧ x < p) : IntKind.u8.wrap x = x := by
  show x % 2 ^ 8 = x
  exact Int.emod_eq_of_lt hx.1 (by omega)
theorem bytid {p x : Int} (hp : 2 ≤ p ∧ p ≤ 13) (hx : 0 ≤ x ∧ x < p) : ((byt x).toNat : Int) = x := byt_toNat hx.1 (by omega)
theorem rowsM_row {p : Int} (hp : 2 ≤ p) {n : Nat} (hn : n ≤ 3) {g : Mx} (hg : InM p n g) : ∀ r ∈ rowsM n g, RowOk p (n + n) r := fun r hr => by
  obtain ⟨i, hi, rfl⟩ := List.mem_map.1 hr
  rw [List.mem_range] at hi
  exact rowG_row (fun k hk => ⟨(g.at_range i k).1, (hg i (by omega) k (by omega)).1⟩) fun k _ => dl_range hp i k

set_option maxRecDepth 20000 in
set_option maxHeartbeats 4000000 in
theorem l02Inverse_ok1 (p : Int) (g : Mx) (hp : Pr p) (hg : InM p 1 g) : CallOK Go.Proofs.Try.prog 50 [.one (i64 p), .one (i64 1), .agg g.ds] (.tup [(true, (invX 1 (echL p (rowsM 1 g))).ds), (false, [bo (invM p 1 g)])]) := by
  have hF := fnOk 90 [.cell 6 57, .tmp 7]
  refine callOK hF 60 Go.Proofs.Try.func50 rfl rfl rfl (by decide) (by simp) rfl ?_
  intro w0 hw
  have S := @vc_sound w0 _ hF ⟨(.tup [(true, (invX 1 (echL p (rowsM 1 g))).ds), (false, [bo (invM p 1 g)])]), []⟩ Go.Proofs.Try.f50 rfl (by simp)
  have hpp := prPos hp
  have hrow := rowsM_row hpp.1 (by omega) hg
  have c1 := l01Echelon_ok p 2 (rowsM 1 g) hp (by omega) (by simp [rowsM]) hrow
  have hb := both_all (n := 2) hp hrow
  have hred : Red p 2 (echL p (rowsM 1 g)) := hb.1.perm hb.2.1.symm
  rw [invM_okL (by omega)] at S ⊢
  generalize echL p (rowsM 1 g) = E at c1 hred S ⊢
  have hr := hred.rws
  have erows : rowsM 1 g = [[(g.a.toNat : Int), 1]] := by simp [rowsM, rowM, List.range_succ, Mx.at]
  rw [erows] at c1
  clear erows hb hrow
  simp
  refine J.rounds 4 (LpW.step (S 60 _ _ ?_))
  simp
  refine J.rounds 4 (LpW.step (S 60 _ _ ?_))
  simp
  refine LpW.inv (LpW.step (S 60 _ _ ?_))
  simp
  refine BsW.move hF (e := 25) (es := [[oInts [(g.a.toNat : Int), 1]]]) (ks := [1536]) (by decide) rfl rfl rfl (by simp) (by simp) rfl (by decide) (by decide) (by simp) ?_
  refine S 60 _ _ ?_
  simp
  refine LpW.inv (LpW.step (J.cleanM hw (⟨[(0, .c (.d (i64 p))), (1, .c (.d (i64 1))), (5, .c (.ref 64001 0)), (6, .c (.ref 64002 0)), (7, .c (.d (bo false))), (8, .c (.ob 64003)), (9, .c (.d (i64 1)))], [(64001, .var [.d (u8 g.a), .d (u8 g.b), .d (u8 g.c), .d (u8 g.d), .d (u8 g.e), .d (u8 g.f), .d (u8 g.g), .d (u8 g.h), .d (u8 g.i)]), (64002, .var [.d (u8 0), .d (u8 0), .d (u8 0), .d (u8 0), .d (u8 0), .d (u8 0), .d (u8 0), .d (u8 0), .d (u8 0)]), (64003, .arr 25 1 [[oInts [(g.a.toNat : Int), 1]]])]⟩) (by simp) (S 60 _ _ ?_)))
  simp
  refine CallW.ok (by decide) (by simp) c1 (by simp) (S 60 _ _ ?_)
  simp
  refine ⟨fun hne => ?_, fun hl0 => ?_⟩
  · have h9 : ¬ E.length = 1 := by omega
    simp [invX, mkM, h9]
  have hl : E.length = 1 := by omega
  clear hl0
  obtain ⟨r0, rfl⟩ : ∃ r0, E = [r0] := by
    match E, hl with
    | [r0], _ => exact ⟨_, rfl⟩
  have k0 := hr r0 (by simp)
  have l0 := k0.1.1
  have c20 := l01Lead_ok r0 (by omega)
  rw [led_leadZ k0.2] at c20
  clear hl hred
  refine J.cleanM hw (⟨[(0, .c (.d (i64 p))), (1, .c (.d (i64 1))), (6, .c (.ref 64002 0)), (7, .c (.d (bo false))), (12, .c (.ob 64001)), (13, .c (.ref 64003 0)), (14, .c (.d (i64 0)))], [(64001, .arr 25 1 [[oInts r0]]), (64002, .var [.d (u8 0), .d (u8 0), .d (u8 0), .d (u8 0), .d (u8 0), .d (u8 0), .d (u8 0), .d (u8 0), .d (u8 0)]), (64003, .var [.d (u8 0), .d (u8 0), .d (u8 0), .d (u8 0), .d (u8 0), .d (u8 0), .d (u8 0), .d (u8 0), .d (u8 0)])]⟩) (by simp) ?_
  refine J.rounds 4 (LpW.step (S 60 _ _ ?_))
  simp
  have g00 := gt_get (r := r0) (i := 1) (by omega)
  have q00 := u8id hpp (gt_range (by omega) k0.1 1)
  have b00 := bytid hpp (gt_range (by omega) k0.1 1)
  by_cases h0 : leadN r0 = 0
  case neg =>
    have hz : ¬ (leadN r0 : Int) = 0 := by omega
    refine CallW.ok (by decide) (by simp) c20 (by simp) (S 60 _ _ ?_)
    simp
    simp only [Later]
    simp [invX, mkM, okL, h0]
  rw [h0] at c20
  refine CallW.ok (by decide) (by simp) c20 (by simp) (S 60 _ _ ?_)
  simp
  refine J.rounds 4 (LpW.step (S 60 _ _ ?_))
  simp
  refine J.dr hF mixed 13 [[], [], [], [], [2, 3], [2, 3, 4], [], [], [6, 7], [2, 3, 4, 5, 6, 7, 8], [2, 3, 4, 5, 6, 7, 8, 9], [2, 3, 4, 5, 6, 7, 8, 9, 10], [0], [0, 1, 2, 3, 4, 5, 6, 7, 8, 9, 10, 11, 12], [0, 1, 2, 3, 4, 5, 6, 7, 8, 9, 10, 11, 12, 13]] [[75, 76, 77, 78, 79, 80, 81, 82, 83, 84, 85, 86, 87], [75, 76, 77, 78, 79, 80, 81, 82, 83, 84, 85, 86, 87], [75, 76, 77, 78, 79, 80, 81, 82, 83, 84, 85, 86, 87], [75, 76, 77, 78, 79, 80, 81, 82, 83, 84, 85, 86, 87], [75, 76, 79, 80, 81, 82, 83, 84, 85, 86, 87], [75, 76, 80, 81, 82, 83, 84, 85, 86, 87], [75, 76, 77, 78, 79, 80, 81, 82, 83, 84, 85, 86, 87], [75, 76, 77, 78, 79, 80, 81, 82, 83, 84, 85, 86, 87], [75, 76, 77, 78, 79, 80, 83, 84, 85, 86, 87], [75, 76, 84, 85, 86, 87], [75, 76, 85, 86, 87], [75, 76, 86, 87], [76, 77, 78, 79, 80, 81, 82, 83, 84, 85, 86, 87]] (by decide) ?_
  simp
  refine ⟨by omega, fun x hx => ?_⟩
  obtain rfl : gt r0 1 = x := Option.some.inj (g00.symm.trans hx)
  clear hx
  refine S 60 _ _ ?_
  simp [q00]
  refine LpW.inv (LpW.step (S 60 _ _ ?_))
  simp
  refine LpW.inv (LpW.step (J.cleanM hw (⟨[(0, .c (.d (i64 p))), (1, .c (.d (i64 1))), (6, .c (.ref 64002 0)), (7, .c (.d (bo false))), (12, .c (.ob 64001)), (13, .c (.ref 64003 0)), (14, .c (.d (i64 1)))], [(64001, .arr 25 1 [[oInts r0]]), (64002, .var [.d (u8 0), .d (u8 0), .d (u8 0), .d (u8 0), .d (u8 0), .d (u8 0), .d (u8 0), .d (u8 0), .d (u8 0)]), (64003, .var [.d (.v (.int .u8 (gt r0 1))), .d (.v (.int .u8 (0))), .d (.v (.int .u8 (0))), .d (.v (.int .u8 (0))), .d (.v (.int .u8 (0))), .d (.v (.int .u8 (0))), .d (.v (.int .u8 (0))), .d (.v (.int .u8 (0))), .d (.v (.int .u8 (0)))])]⟩) (by simp) (S 60 _ _ ?_)))
  simp
  simp [invX, mkM, okL, h0, b00]

set_option maxRecDepth 20000 in
set_option maxHeartbeats 4000000 in
theorem l02Inverse_ok2 (p : Int) (g : Mx) (hp : Pr p) (hg : InM p 2 g) : CallOK Go.Proofs.Try.prog 50 [.one (i64 p), .one (i64 2), .agg g.ds] (.tup [(true, (invX 2 (echL p (rowsM 2 g))).ds), (false, [bo (invM p 2 g)])]) := by
  have hF := fnOk 90 [.cell 6 57, .tmp 7]
  refine callOK hF 60 Go.Proofs.Try.func50 rfl rfl rfl (by decide) (by simp) rfl ?_
  intro w0 hw
  have S := @vc_sound w0 _ hF ⟨(.tup [(true, (invX 2 (echL p (rowsM 2 g))).ds), (false, [bo (invM p 2 g)])]), []⟩ Go.Proofs.Try.f50 rfl (by simp)
  have hpp := prPos hp
  have hrow := rowsM_row hpp.1 (by omega) hg
  have c1 := l01Echelon_ok p 4 (rowsM 2 g) hp (by omega) (by simp [rowsM]) hrow
  have hb := both_all (n := 4) hp hrow
  have hred : Red p 4 (echL p (rowsM 2 g)) := hb.1.perm hb.2.1.symm
  rw [invM_okL (by omega)] at S ⊢
  generalize echL p (rowsM 2 g) = E at c1 hred S ⊢
  have hr := hred.rws
  have erows : rowsM 2 g = [[(g.a.toNat : Int), (g.b.toNat : Int), 1, 0], [(g.d.toNat : Int), (g.e.toNat : Int), 0, 1]] := by simp [rowsM, rowM, List.range_succ, Mx.at]
  rw [erows] at c1
  clear erows hb hrow
  simp
  refine J.rounds 4 (LpW.step (S 60 _ _ ?_))
  simp
  refine J.rounds 4 (LpW.step (S 60 _ _ ?_))
  simp
  refine LpW.inv (LpW.step (S 60 _ _ ?_))
  simp
  refine LpW.inv (LpW.step (S 60 _ _ ?_))
  simp
  refine BsW.move hF (e := 25) (es := [[oInts [(g.a.toNat : Int), (g.b.toNat : Int), 1, 0]]]) (ks := [1536]) (by decide) rfl rfl rfl (by simp) (by simp) rfl (by decide) (by decide) (by simp) ?_
  refine S 60 _ _ ?_
  simp
  refine LpW.inv (LpW.step (J.cleanM hw (⟨[(0, .c (.d (i64 p))), (1, .c (.d (i64 2))), (5, .c (.ref 64001 0)), (6, .c (.ref 64002 0)), (7, .c (.d (bo false))), (8, .c (.ob 64003)), (9, .c (.d (i64 1)))], [(64001, .var [.d (u8 g.a), .d (u8 g.b), .d (u8 g.c), .d (u8 g.d), .d (u8 g.e), .d (u8 g.f), .d (u8 g.g), .d (u8 g.h), .d (u8 g.i)]), (64002, .var [.d (u8 0), .d (u8 0), .d (u8 0), .d (u8 0), .d (u8 0), .d (u8 0), .d (u8 0), .d (u8 0), .d (u8 0)]), (64003, .arr 25 1 [[oInts [(g.a.toNat : Int), (g.b.toNat : Int), 1, 0]]])]⟩) (by simp) (S 60 _ _ ?_)))
  simp
  refine J.rounds 4 (LpW.step (S 60 _ _ ?_))
  simp
  refine LpW.inv (LpW.step (S 60 _ _ ?_))
  simp
  refine LpW.inv (LpW.step (S 60 _ _ ?_))
  simp
  refine BsW.move hF (e := 25) (es := [[oInts [(g.d.toNat : Int), (g.e.toNat : Int), 0, 1]]]) (ks := [1536]) (by decide) rfl rfl rfl (by simp) (by simp) rfl (by decide) (by decide) (by simp) ?_
  refine S 60 _ _ ?_
  simp
  refine LpW.inv (LpW.step (J.cleanM hw (⟨[(0, .c (.d (i64 p))), (1, .c (.d (i64 2))), (5, .c (.ref 64001 0)), (6, .c (.ref 64002 0)), (7, .c (.d (bo false))), (8, .c (.ob 64003)), (9, .c (.d (i64 2)))], [(64001, .var [.d (u8 g.a), .d (u8 g.b), .d (u8 g.c), .d (u8 g.d), .d (u8 g.e), .d (u8 g.f), .d (u8 g.g), .d (u8 g.h), .d (u8 g.i)]), (64002, .var [.d (u8 0), .d (u8 0), .d (u8 0), .d (u8 0), .d (u8 0), .d (u8 0), .d (u8 0), .d (u8 0), .d (u8 0)]), (64003, .arr 25 1 [[oInts [(g.a.toNat : Int), (g.b.toNat : Int), 1, 0]], [oInts [(g.d.toNat : Int), (g.e.toNat : Int), 0, 1]]])]⟩) (by simp) (S 60 _ _ ?_)))
  simp
  refine CallW.ok (by decide) (by simp) c1 (by simp) (S 60 _ _ ?_)
  simp
  refine ⟨fun hne => ?_, fun hl0 => ?_⟩
  · have h9 : ¬ E.length = 2 := by omega
    simp [invX, mkM, h9]
  have hl : E.length = 2 := by omega
  clear hl0
  obtain ⟨r0, r1, rfl⟩ : ∃ r0 r1, E = [r0, r1] := by
    match E, hl with
    | [r0, r1], _ => exact ⟨_, _, rfl⟩
  have k0 := hr r0 (by simp)
  have l0 := k0.1.1
  have c20 := l01Lead_ok r0 (by omega)
  rw [led_leadZ k0.2] at c20
  have k1 := hr r1 (by simp)
  have l1 := k1.1.1
  have c21 := l01Lead_ok r1 (by omega)
  rw [led_leadZ k1.2] at c21
  clear hl hred
  refine J.cleanM hw (⟨[(0, .c (.d (i64 p))), (1, .c (.d (i64 2))), (6, .c (.ref 64002 0)), (7, .c (.d (bo false))), (12, .c (.ob 64001)), (13, .c (.ref 64003 0)), (14, .c (.d (i64 0)))], [(64001, .arr 25 1 [[oInts r0], [oInts r1]]), (64002, .var [.d (u8 0), .d (u8 0), .d (u8 0), .d (u8 0), .d (u8 0), .d (u8 0), .d (u8 0), .d (u8 0), .d (u8 0)]), (64003, .var [.d (u8 0), .d (u8 0), .d (u8 0), .d (u8 0), .d (u8 0), .d (u8 0), .d (u8 0), .d (u8 0), .d (u8 0)])]⟩) (by simp) ?_
  refine J.rounds 4 (LpW.step (S 60 _ _ ?_))
  simp
  have g00 := gt_get (r := r0) (i := 2) (by omega)
  have q00 := u8id hpp (gt_range (by omega) k0.1 2)
  have b00 := bytid hpp (gt_range (by omega) k0.1 2)
  have g01 := gt_get (r := r0) (i := 3) (by omega)
  have q01 := u8id hpp (gt_range (by omega) k0.1 3)
  have b01 := bytid hpp (gt_range (by omega) k0.1 3)
  have g10 := gt_get (r := r1) (i := 2) (by omega)
  have q10 := u8id hpp (gt_range (by omega) k1.1 2)
  have b10 := bytid hpp (gt_range (by omega) k1.1 2)
  have g11 := gt_get (r := r1) (i := 3) (by omega)
  have q11 := u8id hpp (gt_range (by omega) k1.1 3)
  have b11 := bytid hpp (gt_range (by omega) k1.1 3)
  by_cases h0 : leadN r0 = 0
  case neg =>
    have hz : ¬ (leadN r0 : Int) = 0 := by omega
    refine CallW.ok (by decide) (by simp) c20 (by simp) (S 60 _ _ ?_)
    simp
    simp only [Later]
    simp [invX, mkM, okL, h0]
  rw [h0] at c20
  refine CallW.ok (by decide) (by simp) c20 (by simp) (S 60 _ _ ?_)
  simp
  refine J.rounds 4 (LpW.step (S 60 _ _ ?_))
  simp
  refine J.dr hF mixed 13 [[], [], [], [], [2, 3], [2, 3, 4], [], [], [6, 7], [2, 3, 4, 5, 6, 7, 8], [2, 3, 4, 5, 6, 7, 8, 9], [2, 3, 4, 5, 6, 7, 8, 9, 10], [0], [0, 1, 2, 3, 4, 5, 6, 7, 8, 9, 10, 11, 12], [0, 1, 2, 3, 4, 5, 6, 7, 8, 9, 10, 11, 12, 13]] [[75, 76, 77, 78, 79, 80, 81, 82, 83, 84, 85, 86, 87], [75, 76, 77, 78, 79, 80, 81, 82, 83, 84, 85, 86, 87], [75, 76, 77, 78, 79, 80, 81, 82, 83, 84, 85, 86, 87], [75, 76, 77, 78, 79, 80, 81, 82, 83, 84, 85, 86, 87], [75, 76, 79, 80, 81, 82, 83, 84, 85, 86, 87], [75, 76, 80, 81, 82, 83, 84, 85, 86, 87], [75, 76, 77, 78, 79, 80, 81, 82, 83, 84, 85, 86, 87], [75, 76, 77, 78, 79, 80, 81, 82, 83, 84, 85, 86, 87], [75, 76, 77, 78, 79, 80, 83, 84, 85, 86, 87], [75, 76, 84, 85, 86, 87], [75, 76, 85, 86, 87], [75, 76, 86, 87], [76, 77, 78, 79, 80, 81, 82, 83, 84, 85, 86, 87]] (by decide) ?_
  simp
  refine ⟨by omega, fun x hx => ?_⟩
  obtain rfl : gt r0 2 = x := Option.some.inj (g00.symm.trans hx)
  clear hx
  refine S 60 _ _ ?_
  simp [q00]
  refine LpW.inv (LpW.step (S 60 _ _ ?_))
  simp
  refine J.dr hF mixed 13 [[], [], [], [], [2, 3], [2, 3, 4], [], [], [6, 7], [2, 3, 4, 5, 6, 7, 8], [2, 3, 4, 5, 6, 7, 8, 9], [2, 3, 4, 5, 6, 7, 8, 9, 10], [0], [0, 1, 2, 3, 4, 5, 6, 7, 8, 9, 10, 11, 12], [0, 1, 2, 3, 4, 5, 6, 7, 8, 9, 10, 11, 12, 13]] [[75, 76, 77, 78, 79, 80, 81, 82, 83, 84, 85, 86, 87], [75, 76, 77, 78, 79, 80, 81, 82, 83, 84, 85, 86, 87], [75, 76, 77, 78, 79, 80, 81, 82, 83, 84, 85, 86, 87], [75, 76, 77, 78, 79, 80, 81, 82, 83, 84, 85, 86, 87], [75, 76, 79, 80, 81, 82, 83, 84, 85, 86, 87], [75, 76, 80, 81, 82, 83, 84, 85, 86, 87], [75, 76, 77, 78, 79, 80, 81, 82, 83, 84, 85, 86, 87], [75, 76, 77, 78, 79, 80, 81, 82, 83, 84, 85, 86, 87], [75, 76, 77, 78, 79, 80, 83, 84, 85, 86, 87], [75, 76, 84, 85, 86, 87], [75, 76, 85, 86, 87], [75, 76, 86, 87], [76, 77, 78, 79, 80, 81, 82, 83, 84, 85, 86, 87]] (by decide) ?_
  simp
  refine ⟨by omega, fun x hx => ?_⟩
  obtain rfl : gt r0 3 = x := Option.some.inj (g01.symm.trans hx)
  clear hx
  refine S 60 _ _ ?_
  simp [q01]
  refine LpW.inv (LpW.step (S 60 _ _ ?_))
  simp
  refine LpW.inv (LpW.step (J.cleanM hw (⟨[(0, .c (.d (i64 p))), (1, .c (.d (i64 2))), (6, .c (.ref 64002 0)), (7, .c (.d (bo false))), (12, .c (.ob 64001)), (13, .c (.ref 64003 0)), (14, .c (.d (i64 1)))], [(64001, .arr 25 1 [[oInts r0], [oInts r1]]), (64002, .var [.d (u8 0), .d (u8 0), .d (u8 0), .d (u8 0), .d (u8 0), .d (u8 0), .d (u8 0), .d (u8 0), .d (u8 0)]), (64003, .var [.d (.v (.int .u8 (gt r0 2))), .d (.v (.int .u8 (gt r0 3))), .d (.v (.int .u8 (0))), .d (.v (.int .u8 (0))), .d (.v (.int .u8 (0))), .d (.v (.int .u8 (0))), .d (.v (.int .u8 (0))), .d (.v (.int .u8 (0))), .d (.v (.int .u8 (0)))])]⟩) (by simp) (S 60 _ _ ?_)))
  simp
  by_cases h1 : leadN r1 = 1
  case neg =>
    have hz : ¬ (leadN r1 : Int) = 1 := by omega
    refine CallW.ok (by decide) (by simp) c21 (by simp) (S 60 _ _ ?_)
    simp [hz]
    simp only [Later]
    simp [invX, mkM, okL, h0, h1, b00, b01]
  rw [h1] at c21
  refine CallW.ok (by decide) (by simp) c21 (by simp) (S 60 _ _ ?_)
  simp
  refine J.rounds 4 (LpW.step (S 60 _ _ ?_))
  simp
  refine J.dr hF mixed 13 [[], [], [], [], [2, 3], [2, 3, 4], [], [], [6, 7], [2, 3, 4, 5, 6, 7, 8], [2, 3, 4, 5, 6, 7, 8, 9], [2, 3, 4, 5, 6, 7, 8, 9, 10], [0], [0, 1, 2, 3, 4, 5, 6, 7, 8, 9, 10, 11, 12], [0, 1, 2, 3, 4, 5, 6, 7, 8, 9, 10, 11, 12, 13]] [[75, 76, 77, 78, 79, 80, 81, 82, 83, 84, 85, 86, 87], [75, 76, 77, 78, 79, 80, 81, 82, 83, 84, 85, 86, 87], [75, 76, 77, 78, 79, 80, 81, 82, 83, 84, 85, 86, 87], [75, 76, 77, 78, 79, 80, 81, 82, 83, 84, 85, 86, 87], [75, 76, 79, 80, 81, 82, 83, 84, 85, 86, 87], [75, 76, 80, 81, 82, 83, 84, 85, 86, 87], [75, 76, 77, 78, 79, 80, 81, 82, 83, 84, 85, 86, 87], [75, 76, 77, 78, 79, 80, 81, 82, 83, 84, 85, 86, 87], [75, 76, 77, 78, 79, 80, 83, 84, 85, 86, 87], [75, 76, 84, 85, 86, 87], [75, 76, 85, 86, 87], [75, 76, 86, 87], [76, 77, 78, 79, 80, 81, 82, 83, 84, 85, 86, 87]] (by decide) ?_
  simp
  refine ⟨by omega, fun x hx => ?_⟩
  obtain rfl : gt r1 2 = x := Option.some.inj (g10.symm.trans hx)
  clear hx
  refine S 60 _ _ ?_
  simp [q10]
  refine LpW.inv (LpW.step (S 60 _ _ ?_))
  simp
  refine J.dr hF mixed 13 [[], [], [], [], [2, 3], [2, 3, 4], [], [], [6, 7], [2, 3, 4, 5, 6, 7, 8], [2, 3, 4, 5, 6, 7, 8, 9], [2, 3, 4, 5, 6, 7, 8, 9, 10], [0], [0, 1, 2, 3, 4, 5, 6, 7, 8, 9, 10, 11, 12], [0, 1, 2, 3, 4, 5, 6, 7, 8, 9, 10, 11, 12, 13]] [[75, 76, 77, 78, 79, 80, 81, 82, 83, 84, 85, 86, 87], [75, 76, 77, 78, 79, 80, 81, 82, 83, 84, 85, 86, 87], [75, 76, 77, 78, 79, 80, 81, 82, 83, 84, 85, 86, 87], [75, 76, 77, 78, 79, 80, 81, 82, 83, 84, 85, 86, 87], [75, 76, 79, 80, 81, 82, 83, 84, 85, 86, 87], [75, 76, 80, 81, 82, 83, 84, 85, 86, 87], [75, 76, 77, 78, 79, 80, 81, 82, 83, 84, 85, 86, 87], [75, 76, 77, 78, 79, 80, 81, 82, 83, 84, 85, 86, 87], [75, 76, 77, 78, 79, 80, 83, 84, 85, 86, 87], [75, 76, 84, 85, 86, 87], [75, 76, 85, 86, 87], [75, 76, 86, 87], [76, 77, 78, 79, 80, 81, 82, 83, 84, 85, 86, 87]] (by decide) ?_
  simp
  refine ⟨by omega, fun x hx => ?_⟩
  obtain rfl : gt r1 3 = x := Option.some.inj (g11.symm.trans hx)
  clear hx
  refine S 60 _ _ ?_
  simp [q11]
  refine LpW.inv (LpW.step (S 60 _ _ ?_))
  simp
  refine LpW.inv (LpW.step (J.cleanM hw (⟨[(0, .c (.d (i64 p))), (1, .c (.d (i64 2))), (6, .c (.ref 64002 0)), (7, .c (.d (bo false))), (12, .c (.ob 64001)), (13, .c (.ref 64003 0)), (14, .c (.d (i64 2)))], [(64001, .arr 25 1 [[oInts r0], [oInts r1]]), (64002, .var [.d (u8 0), .d (u8 0), .d (u8 0), .d (u8 0), .d (u8 0), .d (u8 0), .d (u8 0), .d (u8 0), .d (u8 0)]), (64003, .var [.d (.v (.int .u8 (gt r0 2))), .d (.v (.int .u8 (gt r0 3))), .d (.v (.int .u8 (0))), .d (.v (.int .u8 (gt r1 2))), .d (.v (.int .u8 (gt r1 3))), .d (.v (.int .u8 (0))), .d (.v (.int .u8 (0))), .d (.v (.int .u8 (0))), .d (.v (.int .u8 (0)))])]⟩) (by simp) (S 60 _ _ ?_)))
  simp
  simp [invX, mkM, okL, h0, h1, b00, b01, b10, b11]

set_option maxRecDepth 20000 in
set_option maxHeartbeats 4000000 in
theorem l02Inverse_ok3 (p : Int) (g : Mx) (hp : Pr p) (hg : InM p 3 g) : CallOK Go.Proofs.Try.prog 50 [.one (i64 p), .one (i64 3), .agg g.ds] (.tup [(true, (invX 3 (echL p (rowsM 3 g))).ds), (false, [bo (invM p 3 g)])]) := by
  have hF := fnOk 90 [.cell 6 57, .tmp 7]
  refine callOK hF 60 Go.Proofs.Try.func50 rfl rfl rfl (by decide) (by simp) rfl ?_
  intro w0 hw
  have S := @vc_sound w0 _ hF ⟨(.tup [(true, (invX 3 (echL p (rowsM 3 g))).ds), (false, [bo (invM p 3 g)])]), []⟩ Go.Proofs.Try.f50 rfl (by simp)
  have hpp := prPos hp
  have hrow := rowsM_row hpp.1 (by omega) hg
  have c1 := l01Echelon_ok p 6 (rowsM 3 g) hp (by omega) (by simp [rowsM]) hrow
  have hb := both_all (n := 6) hp hrow
  have hred : Red p 6 (echL p (rowsM 3 g)) := hb.1.perm hb.2.1.symm
  rw [invM_okL (by omega)] at S ⊢
  generalize echL p (rowsM 3 g) = E at c1 hred S ⊢
  have hr := hred.rws
  have erows : rowsM 3 g = [[(g.a.toNat : Int), (g.b.toNat : Int), (g.c.toNat : Int), 1, 0, 0], [(g.d.toNat : Int), (g.e.toNat : Int), (g.f.toNat : Int), 0, 1, 0], [(g.g.toNat : Int), (g.h.toNat : Int), (g.i.toNat : Int), 0, 0, 1]] := by simp [rowsM, rowM, List.range_succ, Mx.at]
  rw [erows] at c1
  clear erows hb hrow
  simp
  refine J.rounds 4 (LpW.step (S 60 _ _ ?_))
  simp
  refine J.rounds 4 (LpW.step (S 60 _ _ ?_))
  simp
  refine LpW.inv (LpW.step (S 60 _ _ ?_))
  simp
  refine LpW.inv (LpW.step (S 60 _ _ ?_))
  simp
  refine LpW.inv (LpW.step (S 60 _ _ ?_))
  simp
  refine BsW.move hF (e := 25) (es := [[oInts [(g.a.toNat : Int), (g.b.toNat : Int), (g.c.toNat : Int), 1, 0, 0]]]) (ks := [1536]) (by decide) rfl rfl rfl (by simp) (by simp) rfl (by decide) (by decide) (by simp) ?_
  refine S 60 _ _ ?_
  simp
  refine LpW.inv (LpW.step (J.cleanM hw (⟨[(0, .c (.d (i64 p))), (1, .c (.d (i64 3))), (5, .c (.ref 64001 0)), (6, .c (.ref 64002 0)), (7, .c (.d (bo false))), (8, .c (.ob 64003)), (9, .c (.d (i64 1)))], [(64001, .var [.d (u8 g.a), .d (u8 g.b), .d (u8 g.c), .d (u8 g.d), .d (u8 g.e), .d (u8 g.f), .d (u8 g.g), .d (u8 g.h), .d (u8 g.i)]), (64002, .var [.d (u8 0), .d (u8 0), .d (u8 0), .d (u8 0), .d (u8 0), .d (u8 0), .d (u8 0), .d (u8 0), .d (u8 0)]), (64003, .arr 25 1 [[oInts [(g.a.toNat : Int), (g.b.toNat : Int), (g.c.toNat : Int), 1, 0, 0]]])]⟩) (by simp) (S 60 _ _ ?_)))
  simp
  refine J.rounds 4 (LpW.step (S 60 _ _ ?_))
  simp
  refine LpW.inv (LpW.step (S 60 _ _ ?_))
  simp
  refine LpW.inv (LpW.step (S 60 _ _ ?_))
  simp
  refine LpW.inv (LpW.step (S 60 _ _ ?_))
  simp
  refine BsW.move hF (e := 25) (es := [[oInts [(g.d.toNat : Int), (g.e.toNat : Int), (g.f.toNat : Int), 0, 1, 0]]]) (ks := [1536]) (by decide) rfl rfl rfl (by simp) (by simp) rfl (by decide) (by decide) (by simp) ?_
  refine S 60 _ _ ?_
  simp
  refine LpW.inv (LpW.step (J.cleanM hw (⟨[(0, .c (.d (i64 p))), (1, .c (.d (i64 3))), (5, .c (.ref 64001 0)), (6, .c (.ref 64002 0)), (7, .c (.d (bo false))), (8, .c (.ob 64003)), (9, .c (.d (i64 2)))], [(64001, .var [.d (u8 g.a), .d (u8 g.b), .d (u8 g.c), .d (u8 g.d), .d (u8 g.e), .d (u8 g.f), .d (u8 g.g), .d (u8 g.h), .d (u8 g.i)]), (64002, .var [.d (u8 0), .d (u8 0), .d (u8 0), .d (u8 0), .d (u8 0), .d (u8 0), .d (u8 0), .d (u8 0), .d (u8 0)]), (64003, .arr 25 1 [[oInts [(g.a.toNat : Int), (g.b.toNat : Int), (g.c.toNat : Int), 1, 0, 0]], [oInts [(g.d.toNat : Int), (g.e.toNat : Int), (g.f.toNat : Int), 0, 1, 0]]])]⟩) (by simp) (S 60 _ _ ?_)))
  simp
  refine J.rounds 4 (LpW.step (S 60 _ _ ?_))
  simp
  refine LpW.inv (LpW.step (S 60 _ _ ?_))
  simp
  refine LpW.inv (LpW.step (S 60 _ _ ?_))
  simp
  refine LpW.inv (LpW.step (S 60 _ _ ?_))
  simp
  refine BsW.move hF (e := 25) (es := [[oInts [(g.g.toNat : Int), (g.h.toNat : Int), (g.i.toNat : Int), 0, 0, 1]]]) (ks := [1536]) (by decide) rfl rfl rfl (by simp) (by simp) rfl (by decide) (by decide) (by simp) ?_
  refine S 60 _ _ ?_
  simp
  refine LpW.inv (LpW.step (J.cleanM hw (⟨[(0, .c (.d (i64 p))), (1, .c (.d (i64 3))), (5, .c (.ref 64001 0)), (6, .c (.ref 64002 0)), (7, .c (.d (bo false))), (8, .c (.ob 64003)), (9, .c (.d (i64 3)))], [(64001, .var [.d (u8 g.a), .d (u8 g.b), .d (u8 g.c), .d (u8 g.d), .d (u8 g.e), .d (u8 g.f), .d (u8 g.g), .d (u8 g.h), .d (u8 g.i)]), (64002, .var [.d (u8 0), .d (u8 0), .d (u8 0), .d (u8 0), .d (u8 0), .d (u8 0), .d (u8 0), .d (u8 0), .d (u8 0)]), (64003, .arr 25 1 [[oInts [(g.a.toNat : Int), (g.b.toNat : Int), (g.c.toNat : Int), 1, 0, 0]], [oInts [(g.d.toNat : Int), (g.e.toNat : Int), (g.f.toNat : Int), 0, 1, 0]], [oInts [(g.g.toNat : Int), (g.h.toNat : Int), (g.i.toNat : Int), 0, 0, 1]]])]⟩) (by simp) (S 60 _ _ ?_)))
  simp
  refine CallW.ok (by decide) (by simp) c1 (by simp) (S 60 _ _ ?_)
  simp
  refine ⟨fun hne => ?_, fun hl0 => ?_⟩
  · have h9 : ¬ E.length = 3 := by omega
    simp [invX, mkM, h9]
  have hl : E.length = 3 := by omega
  clear hl0
  obtain ⟨r0, r1, r2, rfl⟩ : ∃ r0 r1 r2, E = [r0, r1, r2] := by
    match E, hl with
    | [r0, r1, r2], _ => exact ⟨_, _, _, rfl⟩
  have k0 := hr r0 (by simp)
  have l0 := k0.1.1
  have c20 := l01Lead_ok r0 (by omega)
  rw [led_leadZ k0.2] at c20
  have k1 := hr r1 (by simp)
  have l1 := k1.1.1
  have c21 := l01Lead_ok r1 (by omega)
  rw [led_leadZ k1.2] at c21
  have k2 := hr r2 (by simp)
  have l2 := k2.1.1
  have c22 := l01Lead_ok r2 (by omega)
  rw [led_leadZ k2.2] at c22
  clear hl hred
  refine J.cleanM hw (⟨[(0, .c (.d (i64 p))), (1, .c (.d (i64 3))), (6, .c (.ref 64002 0)), (7, .c (.d (bo false))), (12, .c (.ob 64001)), (13, .c (.ref 64003 0)), (14, .c (.d (i64 0)))], [(64001, .arr 25 1 [[oInts r0], [oInts r1], [oInts r2]]), (64002, .var [.d (u8 0), .d (u8 0), .d (u8 0), .d (u8 0), .d (u8 0), .d (u8 0), .d (u8 0), .d (u8 0), .d (u8 0)]), (64003, .var [.d (u8 0), .d (u8 0), .d (u8 0), .d (u8 0), .d (u8 0), .d (u8 0), .d (u8 0), .d (u8 0), .d (u8 0)])]⟩) (by simp) ?_
  refine J.rounds 4 (LpW.step (S 60 _ _ ?_))
  simp
  have g00 := gt_get (r := r0) (i := 3) (by omega)
  have q00 := u8id hpp (gt_range (by omega) k0.1 3)
  have b00 := bytid hpp (gt_range (by omega) k0.1 3)
  have g01 := gt_get (r := r0) (i := 4) (by omega)
  have q01 := u8id hpp (gt_range (by omega) k0.1 4)
  have b01 := bytid hpp (gt_range (by omega) k0.1 4)
  have g02 := gt_get (r := r0) (i := 5) (by omega)
  have q02 := u8id hpp (gt_range (by omega) k0.1 5)
  have b02 := bytid hpp (gt_range (by omega) k0.1 5)
  have g10 := gt_get (r := r1) (i := 3) (by omega)
  have q10 := u8id hpp (gt_range (by omega) k1.1 3)
  have b10 := bytid hpp (gt_range (by omega) k1.1 3)
  have g11 := gt_get (r := r1) (i := 4) (by omega)
  have q11 := u8id hpp (gt_range (by omega) k1.1 4)
  have b11 := bytid hpp (gt_range (by omega) k1.1 4)
  have g12 := gt_get (r := r1) (i := 5) (by omega)
  have q12 := u8id hpp (gt_range (by omega) k1.1 5)
  have b12 := bytid hpp (gt_range (by omega) k1.1 5)
  have g20 := gt_get (r := r2) (i := 3) (by omega)
  have q20 := u8id hpp (gt_range (by omega) k2.1 3)
  have b20 := bytid hpp (gt_range (by omega) k2.1 3)
  have g21 := gt_get (r := r2) (i := 4) (by omega)
  have q21 := u8id hpp (gt_range (by omega) k2.1 4)
  have b21 := bytid hpp (gt_range (by omega) k2.1 4)
  have g22 := gt_get (r := r2) (i := 5) (by omega)
  have q22 := u8id hpp (gt_range (by omega) k2.1 5)
  have b22 := bytid hpp (gt_range (by omega) k2.1 5)
  by_cases h0 : leadN r0 = 0
  case neg =>
    have hz : ¬ (leadN r0 : Int) = 0 := by omega
    refine CallW.ok (by decide) (by simp) c20 (by simp) (S 60 _ _ ?_)
    simp
    simp only [Later]
    simp [invX, mkM, okL, h0]
  rw [h0] at c20
  refine CallW.ok (by decide) (by simp) c20 (by simp) (S 60 _ _ ?_)
  simp
  refine J.rounds 4 (LpW.step (S 60 _ _ ?_))
  simp
  refine J.dr hF mixed 13 [[], [], [], [], [2, 3], [2, 3, 4], [], [], [6, 7], [2, 3, 4, 5, 6, 7, 8], [2, 3, 4, 5, 6, 7, 8, 9], [2, 3, 4, 5, 6, 7, 8, 9, 10], [0], [0, 1, 2, 3, 4, 5, 6, 7, 8, 9, 10, 11, 12], [0, 1, 2, 3, 4, 5, 6, 7, 8, 9, 10, 11, 12, 13]] [[75, 76, 77, 78, 79, 80, 81, 82, 83, 84, 85, 86, 87], [75, 76, 77, 78, 79, 80, 81, 82, 83, 84, 85, 86, 87], [75, 76, 77, 78, 79, 80, 81, 82, 83, 84, 85, 86, 87], [75, 76, 77, 78, 79, 80, 81, 82, 83, 84, 85, 86, 87], [75, 76, 79, 80, 81, 82, 83, 84, 85, 86, 87], [75, 76, 80, 81, 82, 83, 84, 85, 86, 87], [75, 76, 77, 78, 79, 80, 81, 82, 83, 84, 85, 86, 87], [75, 76, 77, 78, 79, 80, 81, 82, 83, 84, 85, 86, 87], [75, 76, 77, 78, 79, 80, 83, 84, 85, 86, 87], [75, 76, 84, 85, 86, 87], [75, 76, 85, 86, 87], [75, 76, 86, 87], [76, 77, 78, 79, 80, 81, 82, 83, 84, 85, 86, 87]] (by decide) ?_
  simp
  refine ⟨by omega, fun x hx => ?_⟩
  obtain rfl : gt r0 3 = x := Option.some.inj (g00.symm.trans hx)
  clear hx
  refine S 60 _ _ ?_
  simp [q00]
  refine LpW.inv (LpW.step (S 60 _ _ ?_))
  simp
  refine J.dr hF mixed 13 [[], [], [], [], [2, 3], [2, 3, 4], [], [], [6, 7], [2, 3, 4, 5, 6, 7, 8], [2, 3, 4, 5, 6, 7, 8, 9], [2, 3, 4, 5, 6, 7, 8, 9, 10], [0], [0, 1, 2, 3, 4, 5, 6, 7, 8, 9, 10, 11, 12], [0, 1, 2, 3, 4, 5, 6, 7, 8, 9, 10, 11, 12, 13]] [[75, 76, 77, 78, 79, 80, 81, 82, 83, 84, 85, 86, 87], [75, 76, 77, 78, 79, 80, 81, 82, 83, 84, 85, 86, 87], [75, 76, 77, 78, 79, 80, 81, 82, 83, 84, 85, 86, 87], [75, 76, 77, 78, 79, 80, 81, 82, 83, 84, 85, 86, 87], [75, 76, 79, 80, 81, 82, 83, 84, 85, 86, 87], [75, 76, 80, 81, 82, 83, 84, 85, 86, 87], [75, 76, 77, 78, 79, 80, 81, 82, 83, 84, 85, 86, 87], [75, 76, 77, 78, 79, 80, 81, 82, 83, 84, 85, 86, 87], [75, 76, 77, 78, 79, 80, 83, 84, 85, 86, 87], [75, 76, 84, 85, 86, 87], [75, 76, 85, 86, 87], [75, 76, 86, 87], [76, 77, 78, 79, 80, 81, 82, 83, 84, 85, 86, 87]] (by decide) ?_
  simp
  refine ⟨by omega, fun x hx => ?_⟩
  obtain rfl : gt r0 4 = x := Option.some.inj (g01.symm.trans hx)
  clear hx
  refine S 60 _ _ ?_
  simp [q01]
  refine LpW.inv (LpW.step (S 60 _ _ ?_))
  simp
  refine J.dr hF mixed 13 [[], [], [], [], [2, 3], [2, 3, 4], [], [], [6, 7], [2, 3, 4, 5, 6, 7, 8], [2, 3, 4, 5, 6, 7, 8, 9], [2, 3, 4, 5, 6, 7, 8, 9, 10], [0], [0, 1, 2, 3, 4, 5, 6, 7, 8, 9, 10, 11, 12], [0, 1, 2, 3, 4, 5, 6, 7, 8, 9, 10, 11, 12, 13]] [[75, 76, 77, 78, 79, 80, 81, 82, 83, 84, 85, 86, 87], [75, 76, 77, 78, 79, 80, 81, 82, 83, 84, 85, 86, 87], [75, 76, 77, 78, 79, 80, 81, 82, 83, 84, 85, 86, 87], [75, 76, 77, 78, 79, 80, 81, 82, 83, 84, 85, 86, 87], [75, 76, 79, 80, 81, 82, 83, 84, 85, 86, 87], [75, 76, 80, 81, 82, 83, 84, 85, 86, 87], [75, 76, 77, 78, 79, 80, 81, 82, 83, 84, 85, 86, 87], [75, 76, 77, 78, 79, 80, 81, 82, 83, 84, 85, 86, 87], [75, 76, 77, 78, 79, 80, 83, 84, 85, 86, 87], [75, 76, 84, 85, 86, 87], [75, 76, 85, 86, 87], [75, 76, 86, 87], [76, 77, 78, 79, 80, 81, 82, 83, 84, 85, 86, 87]] (by decide) ?_
  simp
  refine ⟨by omega, fun x hx => ?_⟩
  obtain rfl : gt r0 5 = x := Option.some.inj (g02.symm.trans hx)
  clear hx
  refine S 60 _ _ ?_
  simp [q02]
  refine LpW.inv (LpW.step (S 60 _ _ ?_))
  simp
  refine LpW.inv (LpW.step (J.cleanM hw (⟨[(0, .c (.d (i64 p))), (1, .c (.d (i64 3))), (6, .c (.ref 64002 0)), (7, .c (.d (bo false))), (12, .c (.ob 64001)), (13, .c (.ref 64003 0)), (14, .c (.d (i64 1)))], [(64001, .arr 25 1 [[oInts r0], [oInts r1], [oInts r2]]), (64002, .var [.d (u8 0), .d (u8 0), .d (u8 0), .d (u8 0), .d (u8 0), .d (u8 0), .d (u8 0), .d (u8 0), .d (u8 0)]), (64003, .var [.d (.v (.int .u8 (gt r0 3))), .d (.v (.int .u8 (gt r0 4))), .d (.v (.int .u8 (gt r0 5))), .d (.v (.int .u8 (0))), .d (.v (.int .u8 (0))), .d (.v (.int .u8 (0))), .d (.v (.int .u8 (0))), .d (.v (.int .u8 (0))), .d (.v (.int .u8 (0)))])]⟩) (by simp) (S 60 _ _ ?_)))
  simp
  by_cases h1 : leadN r1 = 1
  case neg =>
    have hz : ¬ (leadN r1 : Int) = 1 := by omega
    refine CallW.ok (by decide) (by simp) c21 (by simp) (S 60 _ _ ?_)
    simp [hz]
    simp only [Later]
    simp [invX, mkM, okL, h0, h1, b00, b01, b02]
  rw [h1] at c21
  refine CallW.ok (by decide) (by simp) c21 (by simp) (S 60 _ _ ?_)
  simp
  refine J.rounds 4 (LpW.step (S 60 _ _ ?_))
  simp
  refine J.dr hF mixed 13 [[], [], [], [], [2, 3], [2, 3, 4], [], [], [6, 7], [2, 3, 4, 5, 6, 7, 8], [2, 3, 4, 5, 6, 7, 8, 9], [2, 3, 4, 5, 6, 7, 8, 9, 10], [0], [0, 1, 2, 3, 4, 5, 6, 7, 8, 9, 10, 11, 12], [0, 1, 2, 3, 4, 5, 6, 7, 8, 9, 10, 11, 12, 13]] [[75, 76, 77, 78, 79, 80, 81, 82, 83, 84, 85, 86, 87], [75, 76, 77, 78, 79, 80, 81, 82, 83, 84, 85, 86, 87], [75, 76, 77, 78, 79, 80, 81, 82, 83, 84, 85, 86, 87], [75, 76, 77, 78, 79, 80, 81, 82, 83, 84, 85, 86, 87], [75, 76, 79, 80, 81, 82, 83, 84, 85, 86, 87], [75, 76, 80, 81, 82, 83, 84, 85, 86, 87], [75, 76, 77, 78, 79, 80, 81, 82, 83, 84, 85, 86, 87], [75, 76, 77, 78, 79, 80, 81, 82, 83, 84, 85, 86, 87], [75, 76, 77, 78, 79, 80, 83, 84, 85, 86, 87], [75, 76, 84, 85, 86, 87], [75, 76, 85, 86, 87], [75, 76, 86, 87], [76, 77, 78, 79, 80, 81, 82, 83, 84, 85, 86, 87]] (by decide) ?_
  simp
  refine ⟨by omega, fun x hx => ?_⟩
  obtain rfl : gt r1 3 = x := Option.some.inj (g10.symm.trans hx)
  clear hx
  refine S 60 _ _ ?_
  simp [q10]
  refine LpW.inv (LpW.step (S 60 _ _ ?_))
  simp
  refine J.dr hF mixed 13 [[], [], [], [], [2, 3], [2, 3, 4], [], [], [6, 7], [2, 3, 4, 5, 6, 7, 8], [2, 3, 4, 5, 6, 7, 8, 9], [2, 3, 4, 5, 6, 7, 8, 9, 10], [0], [0, 1, 2, 3, 4, 5, 6, 7, 8, 9, 10, 11, 12], [0, 1, 2, 3, 4, 5, 6, 7, 8, 9, 10, 11, 12, 13]] [[75, 76, 77, 78, 79, 80, 81, 82, 83, 84, 85, 86, 87], [75, 76, 77, 78, 79, 80, 81, 82, 83, 84, 85, 86, 87], [75, 76, 77, 78, 79, 80, 81, 82, 83, 84, 85, 86, 87], [75, 76, 77, 78, 79, 80, 81, 82, 83, 84, 85, 86, 87], [75, 76, 79, 80, 81, 82, 83, 84, 85, 86, 87], [75, 76, 80, 81, 82, 83, 84, 85, 86, 87], [75, 76, 77, 78, 79, 80, 81, 82, 83, 84, 85, 86, 87], [75, 76, 77, 78, 79, 80, 81, 82, 83, 84, 85, 86, 87], [75, 76, 77, 78, 79, 80, 83, 84, 85, 86, 87], [75, 76, 84, 85, 86, 87], [75, 76, 85, 86, 87], [75, 76, 86, 87], [76, 77, 78, 79, 80, 81, 82, 83, 84, 85, 86, 87]] (by decide) ?_
  simp
  refine ⟨by omega, fun x hx => ?_⟩
  obtain rfl : gt r1 4 = x := Option.some.inj (g11.symm.trans hx)
  clear hx
  refine S 60 _ _ ?_
  simp [q11]
  refine LpW.inv (LpW.step (S 60 _ _ ?_))
  simp
  refine J.dr hF mixed 13 [[], [], [], [], [2, 3], [2, 3, 4], [], [], [6, 7], [2, 3, 4, 5, 6, 7, 8], [2, 3, 4, 5, 6, 7, 8, 9], [2, 3, 4, 5, 6, 7, 8, 9, 10], [0], [0, 1, 2, 3, 4, 5, 6, 7, 8, 9, 10, 11, 12], [0, 1, 2, 3, 4, 5, 6, 7, 8, 9, 10, 11, 12, 13]] [[75, 76, 77, 78, 79, 80, 81, 82, 83, 84, 85, 86, 87], [75, 76, 77, 78, 79, 80, 81, 82, 83, 84, 85, 86, 87], [75, 76, 77, 78, 79, 80, 81, 82, 83, 84, 85, 86, 87], [75, 76, 77, 78, 79, 80, 81, 82, 83, 84, 85, 86, 87], [75, 76, 79, 80, 81, 82, 83, 84, 85, 86, 87], [75, 76, 80, 81, 82, 83, 84, 85, 86, 87], [75, 76, 77, 78, 79, 80, 81, 82, 83, 84, 85, 86, 87], [75, 76, 77, 78, 79, 80, 81, 82, 83, 84, 85, 86, 87], [75, 76, 77, 78, 79, 80, 83, 84, 85, 86, 87], [75, 76, 84, 85, 86, 87], [75, 76, 85, 86, 87], [75, 76, 86, 87], [76, 77, 78, 79, 80, 81, 82, 83, 84, 85, 86, 87]] (by decide) ?_
  simp
  refine ⟨by omega, fun x hx => ?_⟩
  obtain rfl : gt r1 5 = x := Option.some.inj (g12.symm.trans hx)
  clear hx
  refine S 60 _ _ ?_
  simp [q12]
  refine LpW.inv (LpW.step (S 60 _ _ ?_))
  simp
  refine LpW.inv (LpW.step (J.cleanM hw (⟨[(0, .c (.d (i64 p))), (1, .c (.d (i64 3))), (6, .c (.ref 64002 0)), (7, .c (.d (bo false))), (12, .c (.ob 64001)), (13, .c (.ref 64003 0)), (14, .c (.d (i64 2)))], [(64001, .arr 25 1 [[oInts r0], [oInts r1], [oInts r2]]), (64002, .var [.d (u8 0), .d (u8 0), .d (u8 0), .d (u8 0), .d (u8 0), .d (u8 0), .d (u8 0), .d (u8 0), .d (u8 0)]), (64003, .var [.d (.v (.int .u8 (gt r0 3))), .d (.v (.int .u8 (gt r0 4))), .d (.v (.int .u8 (gt r0 5))), .d (.v (.int .u8 (gt r1 3))), .d (.v (.int .u8 (gt r1 4))), .d (.v (.int .u8 (gt r1 5))), .d (.v (.int .u8 (0))), .d (.v (.int .u8 (0))), .d (.v (.int .u8 (0)))])]⟩) (by simp) (S 60 _ _ ?_)))
  simp
  by_cases h2 : leadN r2 = 2
  case neg =>
    have hz : ¬ (leadN r2 : Int) = 2 := by omega
    refine CallW.ok (by decide) (by simp) c22 (by simp) (S 60 _ _ ?_)
    simp [hz]
    simp only [Later]
    simp [invX, mkM, okL, h0, h1, h2, b00, b01, b02, b10, b11, b12]
  rw [h2] at c22
  refine CallW.ok (by decide) (by simp) c22 (by simp) (S 60 _ _ ?_)
  simp
  refine J.rounds 4 (LpW.step (S 60 _ _ ?_))
  simp
  refine J.dr hF mixed 13 [[], [], [], [], [2, 3], [2, 3, 4], [], [], [6, 7], [2, 3, 4, 5, 6, 7, 8], [2, 3, 4, 5, 6, 7, 8, 9], [2, 3, 4, 5, 6, 7, 8, 9, 10], [0], [0, 1, 2, 3, 4, 5, 6, 7, 8, 9, 10, 11, 12], [0, 1, 2, 3, 4, 5, 6, 7, 8, 9, 10, 11, 12, 13]] [[75, 76, 77, 78, 79, 80, 81, 82, 83, 84, 85, 86, 87], [75, 76, 77, 78, 79, 80, 81, 82, 83, 84, 85, 86, 87], [75, 76, 77, 78, 79, 80, 81, 82, 83, 84, 85, 86, 87], [75, 76, 77, 78, 79, 80, 81, 82, 83, 84, 85, 86, 87], [75, 76, 79, 80, 81, 82, 83, 84, 85, 86, 87], [75, 76, 80, 81, 82, 83, 84, 85, 86, 87], [75, 76, 77, 78, 79, 80, 81, 82, 83, 84, 85, 86, 87], [75, 76, 77, 78, 79, 80, 81, 82, 83, 84, 85, 86, 87], [75, 76, 77, 78, 79, 80, 83, 84, 85, 86, 87], [75, 76, 84, 85, 86, 87], [75, 76, 85, 86, 87], [75, 76, 86, 87], [76, 77, 78, 79, 80, 81, 82, 83, 84, 85, 86, 87]] (by decide) ?_
  simp
  refine ⟨by omega, fun x hx => ?_⟩
  obtain rfl : gt r2 3 = x := Option.some.inj (g20.symm.trans hx)
  clear hx
  refine S 60 _ _ ?_
  simp [q20]
  refine LpW.inv (LpW.step (S 60 _ _ ?_))
  simp
  refine J.dr hF mixed 13 [[], [], [], [], [2, 3], [2, 3, 4], [], [], [6, 7], [2, 3, 4, 5, 6, 7, 8], [2, 3, 4, 5, 6, 7, 8, 9], [2, 3, 4, 5, 6, 7, 8, 9, 10], [0], [0, 1, 2, 3, 4, 5, 6, 7, 8, 9, 10, 11, 12], [0, 1, 2, 3, 4, 5, 6, 7, 8, 9, 10, 11, 12, 13]] [[75, 76, 77, 78, 79, 80, 81, 82, 83, 84, 85, 86, 87], [75, 76, 77, 78, 79, 80, 81, 82, 83, 84, 85, 86, 87], [75, 76, 77, 78, 79, 80, 81, 82, 83, 84, 85, 86, 87], [75, 76, 77, 78, 79, 80, 81, 82, 83, 84, 85, 86, 87], [75, 76, 79, 80, 81, 82, 83, 84, 85, 86, 87], [75, 76, 80, 81, 82, 83, 84, 85, 86, 87], [75, 76, 77, 78, 79, 80, 81, 82, 83, 84, 85, 86, 87], [75, 76, 77, 78, 79, 80, 81, 82, 83, 84, 85, 86, 87], [75, 76, 77, 78, 79, 80, 83, 84, 85, 86, 87], [75, 76, 84, 85, 86, 87], [75, 76, 85, 86, 87], [75, 76, 86, 87], [76, 77, 78, 79, 80, 81, 82, 83, 84, 85, 86, 87]] (by decide) ?_
  simp
  refine ⟨by omega, fun x hx => ?_⟩
  obtain rfl : gt r2 4 = x := Option.some.inj (g21.symm.trans hx)
  clear hx
  refine S 60 _ _ ?_
  simp [q21]
  refine LpW.inv (LpW.step (S 60 _ _ ?_))
  simp
  refine J.dr hF mixed 13 [[], [], [], [], [2, 3], [2, 3, 4], [], [], [6, 7], [2, 3, 4, 5, 6, 7, 8], [2, 3, 4, 5, 6, 7, 8, 9], [2, 3, 4, 5, 6, 7, 8, 9, 10], [0], [0, 1, 2, 3, 4, 5, 6, 7, 8, 9, 10, 11, 12], [0, 1, 2, 3, 4, 5, 6, 7, 8, 9, 10, 11, 12, 13]] [[75, 76, 77, 78, 79, 80, 81, 82, 83, 84, 85, 86, 87], [75, 76, 77, 78, 79, 80, 81, 82, 83, 84, 85, 86, 87], [75, 76, 77, 78, 79, 80, 81, 82, 83, 84, 85, 86, 87], [75, 76, 77, 78, 79, 80, 81, 82, 83, 84, 85, 86, 87], [75, 76, 79, 80, 81, 82, 83, 84, 85, 86, 87], [75, 76, 80, 81, 82, 83, 84, 85, 86, 87], [75, 76, 77, 78, 79, 80, 81, 82, 83, 84, 85, 86, 87], [75, 76, 77, 78, 79, 80, 81, 82, 83, 84, 85, 86, 87], [75, 76, 77, 78, 79, 80, 83, 84, 85, 86, 87], [75, 76, 84, 85, 86, 87], [75, 76, 85, 86, 87], [75, 76, 86, 87], [76, 77, 78, 79, 80, 81, 82, 83, 84, 85, 86, 87]] (by decide) ?_
  simp
  refine ⟨by omega, fun x hx => ?_⟩
  obtain rfl : gt r2 5 = x := Option.some.inj (g22.symm.trans hx)
  clear hx
  refine S 60 _ _ ?_
  simp [q22]
  refine LpW.inv (LpW.step (S 60 _ _ ?_))
  simp
  refine LpW.inv (LpW.step (J.cleanM hw (⟨[(0, .c (.d (i64 p))), (1, .c (.d (i64 3))), (6, .c (.ref 64002 0)), (7, .c (.d (bo false))), (12, .c (.ob 64001)), (13, .c (.ref 64003 0)), (14, .c (.d (i64 3)))], [(64001, .arr 25 1 [[oInts r0], [oInts r1], [oInts r2]]), (64002, .var [.d (u8 0), .d (u8 0), .d (u8 0), .d (u8 0), .d (u8 0), .d (u8 0), .d (u8 0), .d (u8 0), .d (u8 0)]), (64003, .var [.d (.v (.int .u8 (gt r0 3))), .d (.v (.int .u8 (gt r0 4))), .d (.v (.int .u8 (gt r0 5))), .d (.v (.int .u8 (gt r1 3))), .d (.v (.int .u8 (gt r1 4))), .d (.v (.int .u8 (gt r1 5))), .d (.v (.int .u8 (gt r2 3))), .d (.v (.int .u8 (gt r2 4))), .d (.v (.int .u8 (gt r2 5)))])]⟩) (by simp) (S 60 _ _ ?_)))
  simp
  simp [invX, mkM, okL, h0, h1, h2, b00, b01, b02, b10, b11, b12, b20, b21, b22]

end Go.Sm

namespace Go.Sm
open Go.RowKit

set_option maxRecDepth 20000 in
set_option maxHeartbeats 4000000 in
theorem isM1 (p : Int) (g : Mx) (b : Bool) (hp : Pr p) (hbad : ∀ i < 3, ∀ j < 3, ¬ (g.at i j < p ∧ (1 ≤ i ∨ 1 ≤ j → g.at i j = 0)) → b = false) (hgood : InM p 1 g → b = (detM p 1 g != 0)) : CallOK Go.Proofs.Try.prog 59 [.one (i64 p), .one (i64 1), .agg g.ds] (.one (bo b)) := by
  have hF := fnOk 56 [.tmp 6]
  refine callOK hF 60 Go.Proofs.Try.func59 rfl rfl rfl (by decide) (by simp) rfl ?_
  intro w0 hw
  have S := @vc_sound w0 _ hF ⟨(.one (bo b)), []⟩ Go.Proofs.Try.f59 rfl (by simp)
  have hpp := prPos hp
  have c1 := isPrime_ok p
  have c2 := isVars_ok 1
  have c3 := det_ok p 1 g hp (by omega)
  rw [decide_eq_true hp] at c1
  rw [decide_eq_true (by omega)] at c2
  simp
  refine CallW.ok (by decide) (by simp) c1 (by simp) (S 60 _ _ ?_)
  simp
  refine CallW.ok (by decide) (by simp) c2 (by simp) (S 60 _ _ ?_)
  simp
  refine J.rounds 5 (LpW.step (S 60 _ _ ?_))
  simp
  refine J.rounds 5 (LpW.step (S 60 _ _ ?_))
  simp
  refine ⟨fun ha => LpW.inv (LpW.step (S 60 _ _ ?_)), fun h => hbad 0 (by omega) 0 (by omega) fun e => absurd e.1 (by simp only [Mx.at]; omega)⟩
  simp
  refine ⟨fun hb => ⟨fun hz => hbad 0 (by omega) 1 (by omega) fun e => hz (UInt8.toNat_inj.1 (by have := e.2 (by omega); simp only [Mx.at] at this; exact Int.ofNat_inj.1 this)), fun zb => LpW.inv (LpW.step (S 60 _ _ ?_))⟩, fun h => hbad 0 (by omega) 1 (by omega) fun e => absurd e.1 (by simp only [Mx.at]; omega)⟩
  simp
  refine ⟨fun hc => ⟨fun hz => hbad 0 (by omega) 2 (by omega) fun e => hz (UInt8.toNat_inj.1 (by have := e.2 (by omega); simp only [Mx.at] at this; exact Int.ofNat_inj.1 this)), fun zc => LpW.inv (LpW.step (S 60 _ _ ?_))⟩, fun h => hbad 0 (by omega) 2 (by omega) fun e => absurd e.1 (by simp only [Mx.at]; omega)⟩
  simp
  refine LpW.inv (LpW.step (S 60 _ _ ?_))
  simp
  refine J.rounds 5 (LpW.step (S 60 _ _ ?_))
  simp
  refine ⟨fun hd => ⟨fun hz => hbad 1 (by omega) 0 (by omega) fun e => hz (UInt8.toNat_inj.1 (by have := e.2 (by omega); simp only [Mx.at] at this; exact Int.ofNat_inj.1 this)), fun zd => LpW.inv (LpW.step (S 60 _ _ ?_))⟩, fun h => hbad 1 (by omega) 0 (by omega) fun e => absurd e.1 (by simp only [Mx.at]; omega)⟩
  simp
  refine ⟨fun he => ⟨fun hz => hbad 1 (by omega) 1 (by omega) fun e => hz (UInt8.toNat_inj.1 (by have := e.2 (by omega); simp only [Mx.at] at this; exact Int.ofNat_inj.1 this)), fun ze => LpW.inv (LpW.step (S 60 _ _ ?_))⟩, fun h => hbad 1 (by omega) 1 (by omega) fun e => absurd e.1 (by simp only [Mx.at]; omega)⟩
  simp
  refine ⟨fun hf => ⟨fun hz => hbad 1 (by omega) 2 (by omega) fun e => hz (UInt8.toNat_inj.1 (by have := e.2 (by omega); simp only [Mx.at] at this; exact Int.ofNat_inj.1 this)), fun zf => LpW.inv (LpW.step (S 60 _ _ ?_))⟩, fun h => hbad 1 (by omega) 2 (by omega) fun e => absurd e.1 (by simp only [Mx.at]; omega)⟩
  simp
  refine LpW.inv (LpW.step (S 60 _ _ ?_))
  simp
  refine J.rounds 5 (LpW.step (S 60 _ _ ?_))
  simp
  refine ⟨fun hg => ⟨fun hz => hbad 2 (by omega) 0 (by omega) fun e => hz (UInt8.toNat_inj.1 (by have := e.2 (by omega); simp only [Mx.at] at this; exact Int.ofNat_inj.1 this)), fun zg => LpW.inv (LpW.step (S 60 _ _ ?_))⟩, fun h => hbad 2 (by omega) 0 (by omega) fun e => absurd e.1 (by simp only [Mx.at]; omega)⟩
  simp
  refine ⟨fun hh => ⟨fun hz => hbad 2 (by omega) 1 (by omega) fun e => hz (UInt8.toNat_inj.1 (by have := e.2 (by omega); simp only [Mx.at] at this; exact Int.ofNat_inj.1 this)), fun zh => LpW.inv (LpW.step (S 60 _ _ ?_))⟩, fun h => hbad 2 (by omega) 1 (by omega) fun e => absurd e.1 (by simp only [Mx.at]; omega)⟩
  simp
  refine ⟨fun hi => ⟨fun hz => hbad 2 (by omega) 2 (by omega) fun e => hz (UInt8.toNat_inj.1 (by have := e.2 (by omega); simp only [Mx.at] at this; exact Int.ofNat_inj.1 this)), fun zi => LpW.inv (LpW.step (S 60 _ _ ?_))⟩, fun h => hbad 2 (by omega) 2 (by omega) fun e => absurd e.1 (by simp only [Mx.at]; omega)⟩
  simp
  refine LpW.inv (LpW.step (S 60 _ _ ?_))
  simp
  have hin : InM p 1 g := lt3 (lt3 ⟨ha, by omega⟩ ⟨hb, fun _ => by simp only [Mx.at]; rw [zb]; rfl⟩ ⟨hc, fun _ => by simp only [Mx.at]; rw [zc]; rfl⟩) (lt3 ⟨hd, fun _ => by simp only [Mx.at]; rw [zd]; rfl⟩ ⟨he, fun _ => by simp only [Mx.at]; rw [ze]; rfl⟩ ⟨hf, fun _ => by simp only [Mx.at]; rw [zf]; rfl⟩) (lt3 ⟨hg, fun _ => by simp only [Mx.at]; rw [zg]; rfl⟩ ⟨hh, fun _ => by simp only [Mx.at]; rw [zh]; rfl⟩ ⟨hi, fun _ => by simp only [Mx.at]; rw [zi]; rfl⟩)
  refine CallW.ok (by decide) (by simp) c3 (by simp) (S 60 _ _ ?_)
  simp
  have hgd := hgood hin
  exact hgd.symm

set_option maxRecDepth 20000 in
set_option maxHeartbeats 4000000 in
theorem isM2 (p : Int) (g : Mx) (b : Bool) (hp : Pr p) (hbad : ∀ i < 3, ∀ j < 3, ¬ (g.at i j < p ∧ (2 ≤ i ∨ 2 ≤ j → g.at i j = 0)) → b = false) (hgood : InM p 2 g → b = (detM p 2 g != 0)) : CallOK Go.Proofs.Try.prog 59 [.one (i64 p), .one (i64 2), .agg g.ds] (.one (bo b)) := by
  have hF := fnOk 56 [.tmp 6]
  refine callOK hF 60 Go.Proofs.Try.func59 rfl rfl rfl (by decide) (by simp) rfl ?_
  intro w0 hw
  have S := @vc_sound w0 _ hF ⟨(.one (bo b)), []⟩ Go.Proofs.Try.f59 rfl (by simp)
  have hpp := prPos hp
  have c1 := isPrime_ok p
  have c2 := isVars_ok 2
  have c3 := det_ok p 2 g hp (by omega)
  rw [decide_eq_true hp] at c1
  rw [decide_eq_true (by omega)] at c2
  simp
  refine CallW.ok (by decide) (by simp) c1 (by simp) (S 60 _ _ ?_)
  simp
  refine CallW.ok (by decide) (by simp) c2 (by simp) (S 60 _ _ ?_)
  simp
  refine J.rounds 5 (LpW.step (S 60 _ _ ?_))
  simp
  refine J.rounds 5 (LpW.step (S 60 _ _ ?_))
  simp
  refine ⟨fun ha => LpW.inv (LpW.step (S 60 _ _ ?_)), fun h => hbad 0 (by omega) 0 (by omega) fun e => absurd e.1 (by simp only [Mx.at]; omega)⟩
  simp
  refine ⟨fun hb => LpW.inv (LpW.step (S 60 _ _ ?_)), fun h => hbad 0 (by omega) 1 (by omega) fun e => absurd e.1 (by simp only [Mx.at]; omega)⟩
  simp
  refine ⟨fun hc => ⟨fun hz => hbad 0 (by omega) 2 (by omega) fun e => hz (UInt8.toNat_inj.1 (by have := e.2 (by omega); simp only [Mx.at] at this; exact Int.ofNat_inj.1 this)), fun zc => LpW.inv (LpW.step (S 60 _ _ ?_))⟩, fun h => hbad 0 (by omega) 2 (by omega) fun e => absurd e.1 (by simp only [Mx.at]; omega)⟩
  simp
  refine LpW.inv (LpW.step (S 60 _ _ ?_))
  simp
  refine J.rounds 5 (LpW.step (S 60 _ _ ?_))
  simp
  refine ⟨fun hd => LpW.inv (LpW.step (S 60 _ _ ?_)), fun h => hbad 1 (by omega) 0 (by omega) fun e => absurd e.1 (by simp only [Mx.at]; omega)⟩
  simp
  refine ⟨fun he => LpW.inv (LpW.step (S 60 _ _ ?_)), fun h => hbad 1 (by omega) 1 (by omega) fun e => absurd e.1 (by simp only [Mx.at]; omega)⟩
  simp
  refine ⟨fun hf => ⟨fun hz => hbad 1 (by omega) 2 (by omega) fun e => hz (UInt8.toNat_inj.1 (by have := e.2 (by omega); simp only [Mx.at] at this; exact Int.ofNat_inj.1 this)), fun zf => LpW.inv (LpW.step (S 60 _ _ ?_))⟩, fun h => hbad 1 (by omega) 2 (by omega) fun e => absurd e.1 (by simp only [Mx.at]; omega)⟩
  simp
  refine LpW.inv (LpW.step (S 60 _ _ ?_))
  simp
  refine J.rounds 5 (LpW.step (S 60 _ _ ?_))
  simp
  refine ⟨fun hg => ⟨fun hz => hbad 2 (by omega) 0 (by omega) fun e => hz (UInt8.toNat_inj.1 (by have := e.2 (by omega); simp only [Mx.at] at this; exact Int.ofNat_inj.1 this)), fun zg => LpW.inv (LpW.step (S 60 _ _ ?_))⟩, fun h => hbad 2 (by omega) 0 (by omega) fun e => absurd e.1 (by simp only [Mx.at]; omega)⟩
  simp
  refine ⟨fun hh => ⟨fun hz => hbad 2 (by omega) 1 (by omega) fun e => hz (UInt8.toNat_inj.1 (by have := e.2 (by omega); simp only [Mx.at] at this; exact Int.ofNat_inj.1 this)), fun zh => LpW.inv (LpW.step (S 60 _ _ ?_))⟩, fun h => hbad 2 (by omega) 1 (by omega) fun e => absurd e.1 (by simp only [Mx.at]; omega)⟩
  simp
  refine ⟨fun hi => ⟨fun hz => hbad 2 (by omega) 2 (by omega) fun e => hz (UInt8.toNat_inj.1 (by have := e.2 (by omega); simp only [Mx.at] at this; exact Int.ofNat_inj.1 this)), fun zi => LpW.inv (LpW.step (S 60 _ _ ?_))⟩, fun h => hbad 2 (by omega) 2 (by omega) fun e => absurd e.1 (by simp only [Mx.at]; omega)⟩
  simp
  refine LpW.inv (LpW.step (S 60 _ _ ?_))
  simp
  have hin : InM p 2 g := lt3 (lt3 ⟨ha, by omega⟩ ⟨hb, by omega⟩ ⟨hc, fun _ => by simp only [Mx.at]; rw [zc]; rfl⟩) (lt3 ⟨hd, by omega⟩ ⟨he, by omega⟩ ⟨hf, fun _ => by simp only [Mx.at]; rw [zf]; rfl⟩) (lt3 ⟨hg, fun _ => by simp only [Mx.at]; rw [zg]; rfl⟩ ⟨hh, fun _ => by simp only [Mx.at]; rw [zh]; rfl⟩ ⟨hi, fun _ => by simp only [Mx.at]; rw [zi]; rfl⟩)
  refine CallW.ok (by decide) (by simp) c3 (by simp) (S 60 _ _ ?_)
  simp
  have hgd := hgood hin
  exact hgd.symm

set_option maxRecDepth 20000 in
set_option maxHeartbeats 4000000 in
theorem isM3 (p : Int) (g : Mx) (b : Bool) (hp : Pr p) (hbad : ∀ i < 3, ∀ j < 3, ¬ (g.at i j < p ∧ (3 ≤ i ∨ 3 ≤ j → g.at i j = 0)) → b = false) (hgood : InM p 3 g → b = (detM p 3 g != 0)) : CallOK Go.Proofs.Try.prog 59 [.one (i64 p), .one (i64 3), .agg g.ds] (.one (bo b)) := by
  have hF := fnOk 56 [.tmp 6]
  refine callOK hF 60 Go.Proofs.Try.func59 rfl rfl rfl (by decide) (by simp) rfl ?_
  intro w0 hw
  have S := @vc_sound w0 _ hF ⟨(.one (bo b)), []⟩ Go.Proofs.Try.f59 rfl (by simp)
  have hpp := prPos hp
  have c1 := isPrime_ok p
  have c2 := isVars_ok 3
  have c3 := det_ok p 3 g hp (by omega)
  rw [decide_eq_true hp] at c1
  rw [decide_eq_true (by omega)] at c2
  simp
  refine CallW.ok (by decide) (by simp) c1 (by simp) (S 60 _ _ ?_)
  simp
  refine CallW.ok (by decide) (by simp) c2 (by simp) (S 60 _ _ ?_)
  simp
  refine J.rounds 5 (LpW.step (S 60 _ _ ?_))
  simp
  refine J.rounds 5 (LpW.step (S 60 _ _ ?_))
  simp
  refine ⟨fun ha => LpW.inv (LpW.step (S 60 _ _ ?_)), fun h => hbad 0 (by omega) 0 (by omega) fun e => absurd e.1 (by simp only [Mx.at]; omega)⟩
  simp
  refine ⟨fun hb => LpW.inv (LpW.step (S 60 _ _ ?_)), fun h => hbad 0 (by omega) 1 (by omega) fun e => absurd e.1 (by simp only [Mx.at]; omega)⟩
  simp
  refine ⟨fun hc => LpW.inv (LpW.step (S 60 _ _ ?_)), fun h => hbad 0 (by omega) 2 (by omega) fun e => absurd e.1 (by simp only [Mx.at]; omega)⟩
  simp
  refine LpW.inv (LpW.step (S 60 _ _ ?_))
  simp
  refine J.rounds 5 (LpW.step (S 60 _ _ ?_))
  simp
  refine ⟨fun hd => LpW.inv (LpW.step (S 60 _ _ ?_)), fun h => hbad 1 (by omega) 0 (by omega) fun e => absurd e.1 (by simp only [Mx.at]; omega)⟩
  simp
  refine ⟨fun he => LpW.inv (LpW.step (S 60 _ _ ?_)), fun h => hbad 1 (by omega) 1 (by omega) fun e => absurd e.1 (by simp only [Mx.at]; omega)⟩
  simp
  refine ⟨fun hf => LpW.inv (LpW.step (S 60 _ _ ?_)), fun h => hbad 1 (by omega) 2 (by omega) fun e => absurd e.1 (by simp only [Mx.at]; omega)⟩
  simp
  refine LpW.inv (LpW.step (S 60 _ _ ?_))
  simp
  refine J.rounds 5 (LpW.step (S 60 _ _ ?_))
  simp
  refine ⟨fun hg => LpW.inv (LpW.step (S 60 _ _ ?_)), fun h => hbad 2 (by omega) 0 (by omega) fun e => absurd e.1 (by simp only [Mx.at]; omega)⟩
  simp
  refine ⟨fun hh => LpW.inv (LpW.step (S 60 _ _ ?_)), fun h => hbad 2 (by omega) 1 (by omega) fun e => absurd e.1 (by simp only [Mx.at]; omega)⟩
  simp
  refine ⟨fun hi => LpW.inv (LpW.step (S 60 _ _ ?_)), fun h => hbad 2 (by omega) 2 (by omega) fun e => absurd e.1 (by simp only [Mx.at]; omega)⟩
  simp
  refine LpW.inv (LpW.step (S 60 _ _ ?_))
  simp
  have hin : InM p 3 g := lt3 (lt3 ⟨ha, by omega⟩ ⟨hb, by omega⟩ ⟨hc, by omega⟩) (lt3 ⟨hd, by omega⟩ ⟨he, by omega⟩ ⟨hf, by omega⟩) (lt3 ⟨hg, by omega⟩ ⟨hh, by omega⟩ ⟨hi, by omega⟩)
  refine CallW.ok (by decide) (by simp) c3 (by simp) (S 60 _ _ ?_)
  simp
  have hgd := hgood hin
  exact hgd.symm

set_option maxRecDepth 20000 in
set_option maxHeartbeats 4000000 in
theorem l02M1 (p : Int) (g : Mx) (b : Bool) (hp : Pr p) (hbad : ∀ i < 3, ∀ j < 3, ¬ (g.at i j < p ∧ (1 ≤ i ∨ 1 ≤ j → g.at i j = 0)) → b = false) (hgood : InM p 1 g → b = invM p 1 g) : CallOK Go.Proofs.Try.prog 30 [.one (i64 p), .one (i64 1), .agg g.ds] (.one (bo b)) := by
  have hF := fnOk 61 [.tmp 6]
  refine callOK hF 60 Go.Proofs.Try.func30 rfl rfl rfl (by decide) (by simp) rfl ?_
  intro w0 hw
  have S := @vc_sound w0 _ hF ⟨(.one (bo b)), []⟩ Go.Proofs.Try.f30 rfl (by simp)
  have hpp := prPos hp
  have c1 := l01Prime_ok p
  have c2 := l01In_ok 1 1 3
  rw [decide_eq_true hp] at c1
  rw [decide_eq_true (by omega)] at c2
  simp
  refine CallW.ok (by decide) (by simp) c1 (by simp) (S 60 _ _ ?_)
  simp
  refine CallW.ok (by decide) (by simp) c2 (by simp) (S 60 _ _ ?_)
  simp
  refine J.rounds 5 (LpW.step (S 60 _ _ ?_))
  simp
  refine J.rounds 5 (LpW.step (S 60 _ _ ?_))
  simp
  refine ⟨fun ha => LpW.inv (LpW.step (S 60 _ _ ?_)), fun h => hbad 0 (by omega) 0 (by omega) fun e => absurd e.1 (by simp only [Mx.at]; omega)⟩
  simp
  refine ⟨fun hb => ⟨fun hz => hbad 0 (by omega) 1 (by omega) fun e => hz (UInt8.toNat_inj.1 (by have := e.2 (by omega); simp only [Mx.at] at this; exact Int.ofNat_inj.1 this)), fun zb => LpW.inv (LpW.step (S 60 _ _ ?_))⟩, fun h => hbad 0 (by omega) 1 (by omega) fun e => absurd e.1 (by simp only [Mx.at]; omega)⟩
  simp
  refine ⟨fun hc => ⟨fun hz => hbad 0 (by omega) 2 (by omega) fun e => hz (UInt8.toNat_inj.1 (by have := e.2 (by omega); simp only [Mx.at] at this; exact Int.ofNat_inj.1 this)), fun zc => LpW.inv (LpW.step (S 60 _ _ ?_))⟩, fun h => hbad 0 (by omega) 2 (by omega) fun e => absurd e.1 (by simp only [Mx.at]; omega)⟩
  simp
  refine LpW.inv (LpW.step (S 60 _ _ ?_))
  simp
  refine J.rounds 5 (LpW.step (S 60 _ _ ?_))
  simp
  refine ⟨fun hd => ⟨fun hz => hbad 1 (by omega) 0 (by omega) fun e => hz (UInt8.toNat_inj.1 (by have := e.2 (by omega); simp only [Mx.at] at this; exact Int.ofNat_inj.1 this)), fun zd => LpW.inv (LpW.step (S 60 _ _ ?_))⟩, fun h => hbad 1 (by omega) 0 (by omega) fun e => absurd e.1 (by simp only [Mx.at]; omega)⟩
  simp
  refine ⟨fun he => ⟨fun hz => hbad 1 (by omega) 1 (by omega) fun e => hz (UInt8.toNat_inj.1 (by have := e.2 (by omega); simp only [Mx.at] at this; exact Int.ofNat_inj.1 this)), fun ze => LpW.inv (LpW.step (S 60 _ _ ?_))⟩, fun h => hbad 1 (by omega) 1 (by omega) fun e => absurd e.1 (by simp only [Mx.at]; omega)⟩
  simp
  refine ⟨fun hf => ⟨fun hz => hbad 1 (by omega) 2 (by omega) fun e => hz (UInt8.toNat_inj.1 (by have := e.2 (by omega); simp only [Mx.at] at this; exact Int.ofNat_inj.1 this)), fun zf => LpW.inv (LpW.step (S 60 _ _ ?_))⟩, fun h => hbad 1 (by omega) 2 (by omega) fun e => absurd e.1 (by simp only [Mx.at]; omega)⟩
  simp
  refine LpW.inv (LpW.step (S 60 _ _ ?_))
  simp
  refine J.rounds 5 (LpW.step (S 60 _ _ ?_))
  simp
  refine ⟨fun hg => ⟨fun hz => hbad 2 (by omega) 0 (by omega) fun e => hz (UInt8.toNat_inj.1 (by have := e.2 (by omega); simp only [Mx.at] at this; exact Int.ofNat_inj.1 this)), fun zg => LpW.inv (LpW.step (S 60 _ _ ?_))⟩, fun h => hbad 2 (by omega) 0 (by omega) fun e => absurd e.1 (by simp only [Mx.at]; omega)⟩
  simp
  refine ⟨fun hh => ⟨fun hz => hbad 2 (by omega) 1 (by omega) fun e => hz (UInt8.toNat_inj.1 (by have := e.2 (by omega); simp only [Mx.at] at this; exact Int.ofNat_inj.1 this)), fun zh => LpW.inv (LpW.step (S 60 _ _ ?_))⟩, fun h => hbad 2 (by omega) 1 (by omega) fun e => absurd e.1 (by simp only [Mx.at]; omega)⟩
  simp
  refine ⟨fun hi => ⟨fun hz => hbad 2 (by omega) 2 (by omega) fun e => hz (UInt8.toNat_inj.1 (by have := e.2 (by omega); simp only [Mx.at] at this; exact Int.ofNat_inj.1 this)), fun zi => LpW.inv (LpW.step (S 60 _ _ ?_))⟩, fun h => hbad 2 (by omega) 2 (by omega) fun e => absurd e.1 (by simp only [Mx.at]; omega)⟩
  simp
  refine LpW.inv (LpW.step (S 60 _ _ ?_))
  simp
  have hin : InM p 1 g := lt3 (lt3 ⟨ha, by omega⟩ ⟨hb, fun _ => by simp only [Mx.at]; rw [zb]; rfl⟩ ⟨hc, fun _ => by simp only [Mx.at]; rw [zc]; rfl⟩) (lt3 ⟨hd, fun _ => by simp only [Mx.at]; rw [zd]; rfl⟩ ⟨he, fun _ => by simp only [Mx.at]; rw [ze]; rfl⟩ ⟨hf, fun _ => by simp only [Mx.at]; rw [zf]; rfl⟩) (lt3 ⟨hg, fun _ => by simp only [Mx.at]; rw [zg]; rfl⟩ ⟨hh, fun _ => by simp only [Mx.at]; rw [zh]; rfl⟩ ⟨hi, fun _ => by simp only [Mx.at]; rw [zi]; rfl⟩)
  have c3 := l02Inverse_ok1 p g hp hin
  have hgd := hgood hin
  rw [← hgd] at c3
  refine CallW.ok (by decide) (by simp) c3 (by simp) (S 60 _ _ ?_)
  simp

set_option maxRecDepth 20000 in
set_option maxHeartbeats 4000000 in
theorem l02M2 (p : Int) (g : Mx) (b : Bool) (hp : Pr p) (hbad : ∀ i < 3, ∀ j < 3, ¬ (g.at i j < p ∧ (2 ≤ i ∨ 2 ≤ j → g.at i j = 0)) → b = false) (hgood : InM p 2 g → b = invM p 2 g) : CallOK Go.Proofs.Try.prog 30 [.one (i64 p), .one (i64 2), .agg g.ds] (.one (bo b)) := by
  have hF := fnOk 61 [.tmp 6]
  refine callOK hF 60 Go.Proofs.Try.func30 rfl rfl rfl (by decide) (by simp) rfl ?_
  intro w0 hw
  have S := @vc_sound w0 _ hF ⟨(.one (bo b)), []⟩ Go.Proofs.Try.f30 rfl (by simp)
  have hpp := prPos hp
  have c1 := l01Prime_ok p
  have c2 := l01In_ok 2 1 3
  rw [decide_eq_true hp] at c1
  rw [decide_eq_true (by omega)] at c2
  simp
  refine CallW.ok (by decide) (by simp) c1 (by simp) (S 60 _ _ ?_)
  simp
  refine CallW.ok (by decide) (by simp) c2 (by simp) (S 60 _ _ ?_)
  simp
  refine J.rounds 5 (LpW.step (S 60 _ _ ?_))
  simp
  refine J.rounds 5 (LpW.step (S 60 _ _ ?_))
  simp
  refine ⟨fun ha => LpW.inv (LpW.step (S 60 _ _ ?_)), fun h => hbad 0 (by omega) 0 (by omega) fun e => absurd e.1 (by simp only [Mx.at]; omega)⟩
  simp
  refine ⟨fun hb => LpW.inv (LpW.step (S 60 _ _ ?_)), fun h => hbad 0 (by omega) 1 (by omega) fun e => absurd e.1 (by simp only [Mx.at]; omega)⟩
  simp
  refine ⟨fun hc => ⟨fun hz => hbad 0 (by omega) 2 (by omega) fun e => hz (UInt8.toNat_inj.1 (by have := e.2 (by omega); simp only [Mx.at] at this; exact Int.ofNat_inj.1 this)), fun zc => LpW.inv (LpW.step (S 60 _ _ ?_))⟩, fun h => hbad 0 (by omega) 2 (by omega) fun e => absurd e.1 (by simp only [Mx.at]; omega)⟩
  simp
  refine LpW.inv (LpW.step (S 60 _ _ ?_))
  simp
  refine J.rounds 5 (LpW.step (S 60 _ _ ?_))
  simp
  refine ⟨fun hd => LpW.inv (LpW.step (S 60 _ _ ?_)), fun h => hbad 1 (by omega) 0 (by omega) fun e => absurd e.1 (by simp only [Mx.at]; omega)⟩
  simp
  refine ⟨fun he => LpW.inv (LpW.step (S 60 _ _ ?_)), fun h => hbad 1 (by omega) 1 (by omega) fun e => absurd e.1 (by simp only [Mx.at]; omega)⟩
  simp
  refine ⟨fun hf => ⟨fun hz => hbad 1 (by omega) 2 (by omega) fun e => hz (UInt8.toNat_inj.1 (by have := e.2 (by omega); simp only [Mx.at] at this; exact Int.ofNat_inj.1 this)), fun zf => LpW.inv (LpW.step (S 60 _ _ ?_))⟩, fun h => hbad 1 (by omega) 2 (by omega) fun e => absurd e.1 (by simp only [Mx.at]; omega)⟩
  simp
  refine LpW.inv (LpW.step (S 60 _ _ ?_))
  simp
  refine J.rounds 5 (LpW.step (S 60 _ _ ?_))
  simp
  refine ⟨fun hg => ⟨fun hz => hbad 2 (by omega) 0 (by omega) fun e => hz (UInt8.toNat_inj.1 (by have := e.2 (by omega); simp only [Mx.at] at this; exact Int.ofNat_inj.1 this)), fun zg => LpW.inv (LpW.step (S 60 _ _ ?_))⟩, fun h => hbad 2 (by omega) 0 (by omega) fun e => absurd e.1 (by simp only [Mx.at]; omega)⟩
  simp
  refine ⟨fun hh => ⟨fun hz => hbad 2 (by omega) 1 (by omega) fun e => hz (UInt8.toNat_inj.1 (by have := e.2 (by omega); simp only [Mx.at] at this; exact Int.ofNat_inj.1 this)), fun zh => LpW.inv (LpW.step (S 60 _ _ ?_))⟩, fun h => hbad 2 (by omega) 1 (by omega) fun e => absurd e.1 (by simp only [Mx.at]; omega)⟩
  simp
  refine ⟨fun hi => ⟨fun hz => hbad 2 (by omega) 2 (by omega) fun e => hz (UInt8.toNat_inj.1 (by have := e.2 (by omega); simp only [Mx.at] at this; exact Int.ofNat_inj.1 this)), fun zi => LpW.inv (LpW.step (S 60 _ _ ?_))⟩, fun h => hbad 2 (by omega) 2 (by omega) fun e => absurd e.1 (by simp only [Mx.at]; omega)⟩
  simp
  refine LpW.inv (LpW.step (S 60 _ _ ?_))
  simp
  have hin : InM p 2 g := lt3 (lt3 ⟨ha, by omega⟩ ⟨hb, by omega⟩ ⟨hc, fun _ => by simp only [Mx.at]; rw [zc]; rfl⟩) (lt3 ⟨hd, by omega⟩ ⟨he, by omega⟩ ⟨hf, fun _ => by simp only [Mx.at]; rw [zf]; rfl⟩) (lt3 ⟨hg, fun _ => by simp only [Mx.at]; rw [zg]; rfl⟩ ⟨hh, fun _ => by simp only [Mx.at]; rw [zh]; rfl⟩ ⟨hi, fun _ => by simp only [Mx.at]; rw [zi]; rfl⟩)
  have c3 := l02Inverse_ok2 p g hp hin
  have hgd := hgood hin
  rw [← hgd] at c3
  refine CallW.ok (by decide) (by simp) c3 (by simp) (S 60 _ _ ?_)
  simp

set_option maxRecDepth 20000 in
set_option maxHeartbeats 4000000 in
theorem l02M3 (p : Int) (g : Mx) (b : Bool) (hp : Pr p) (hbad : ∀ i < 3, ∀ j < 3, ¬ (g.at i j < p ∧ (3 ≤ i ∨ 3 ≤ j → g.at i j = 0)) → b = false) (hgood : InM p 3 g → b = invM p 3 g) : CallOK Go.Proofs.Try.prog 30 [.one (i64 p), .one (i64 3), .agg g.ds] (.one (bo b)) := by
  have hF := fnOk 61 [.tmp 6]
  refine callOK hF 60 Go.Proofs.Try.func30 rfl rfl rfl (by decide) (by simp) rfl ?_
  intro w0 hw
  have S := @vc_sound w0 _ hF ⟨(.one (bo b)), []⟩ Go.Proofs.Try.f30 rfl (by simp)
  have hpp := prPos hp
  have c1 := l01Prime_ok p
  have c2 := l01In_ok 3 1 3
  rw [decide_eq_true hp] at c1
  rw [decide_eq_true (by omega)] at c2
  simp
  refine CallW.ok (by decide) (by simp) c1 (by simp) (S 60 _ _ ?_)
  simp
  refine CallW.ok (by decide) (by simp) c2 (by simp) (S 60 _ _ ?_)
  simp
  refine J.rounds 5 (LpW.step (S 60 _ _ ?_))
  simp
  refine J.rounds 5 (LpW.step (S 60 _ _ ?_))
  simp
  refine ⟨fun ha => LpW.inv (LpW.step (S 60 _ _ ?_)), fun h => hbad 0 (by omega) 0 (by omega) fun e => absurd e.1 (by simp only [Mx.at]; omega)⟩
  simp
  refine ⟨fun hb => LpW.inv (LpW.step (S 60 _ _ ?_)), fun h => hbad 0 (by omega) 1 (by omega) fun e => absurd e.1 (by simp only [Mx.at]; omega)⟩
  simp
  refine ⟨fun hc => LpW.inv (LpW.step (S 60 _ _ ?_)), fun h => hbad 0 (by omega) 2 (by omega) fun e => absurd e.1 (by simp only [Mx.at]; omega)⟩
  simp
  refine LpW.inv (LpW.step (S 60 _ _ ?_))
  simp
  refine J.rounds 5 (LpW.step (S 60 _ _ ?_))
  simp
  refine ⟨fun hd => LpW.inv (LpW.step (S 60 _ _ ?_)), fun h => hbad 1 (by omega) 0 (by omega) fun e => absurd e.1 (by simp only [Mx.at]; omega)⟩
  simp
  refine ⟨fun he => LpW.inv (LpW.step (S 60 _ _ ?_)), fun h => hbad 1 (by omega) 1 (by omega) fun e => absurd e.1 (by simp only [Mx.at]; omega)⟩
  simp
  refine ⟨fun hf => LpW.inv (LpW.step (S 60 _ _ ?_)), fun h => hbad 1 (by omega) 2 (by omega) fun e => absurd e.1 (by simp only [Mx.at]; omega)⟩
  simp
  refine LpW.inv (LpW.step (S 60 _ _ ?_))
  simp
  refine J.rounds 5 (LpW.step (S 60 _ _ ?_))
  simp
  refine ⟨fun hg => LpW.inv (LpW.step (S 60 _ _ ?_)), fun h => hbad 2 (by omega) 0 (by omega) fun e => absurd e.1 (by simp only [Mx.at]; omega)⟩
  simp
  refine ⟨fun hh => LpW.inv (LpW.step (S 60 _ _ ?_)), fun h => hbad 2 (by omega) 1 (by omega) fun e => absurd e.1 (by simp only [Mx.at]; omega)⟩
  simp
  refine ⟨fun hi => LpW.inv (LpW.step (S 60 _ _ ?_)), fun h => hbad 2 (by omega) 2 (by omega) fun e => absurd e.1 (by simp only [Mx.at]; omega)⟩
  simp
  refine LpW.inv (LpW.step (S 60 _ _ ?_))
  simp
  have hin : InM p 3 g := lt3 (lt3 ⟨ha, by omega⟩ ⟨hb, by omega⟩ ⟨hc, by omega⟩) (lt3 ⟨hd, by omega⟩ ⟨he, by omega⟩ ⟨hf, by omega⟩) (lt3 ⟨hg, by omega⟩ ⟨hh, by omega⟩ ⟨hi, by omega⟩)
  have c3 := l02Inverse_ok3 p g hp hin
  have hgd := hgood hin
  rw [← hgd] at c3
  refine CallW.ok (by decide) (by simp) c3 (by simp) (S 60 _ _ ?_)
  simp

/-- A matrix of a prime and a size. -/
def MxP (p d : Int) (g : Mx) : Prop := (Pr p ∧ 1 ≤ d ∧ d ≤ 3) ∧ IsM p d.toNat g
instance (p d : Int) (g : Mx) : Decidable (MxP p d g) := by unfold MxP; infer_instance
theorem mxP_bad {p : Int} {n : Nat} {g : Mx} (_ : Pr p) (_ : 1 ≤ n ∧ n ≤ 3) : ∀ i < 3, ∀ j < 3, ¬ (g.at i j < p ∧ (n ≤ i ∨ n ≤ j → g.at i j = 0)) → decide (MxP p (n : Int) g) = false := fun i hi j hj h =>
  decide_eq_false fun hm => h (by have := hm.2.1 i hi j hj; rwa [Int.toNat_natCast] at this)
theorem mxP_good {p : Int} {n : Nat} {g : Mx} (hp : Pr p) (hn : 1 ≤ n ∧ n ≤ 3) (hin : InM p n g) : decide (MxP p (n : Int) g) = (detM p n g != 0) := by
  by_cases h : detM p n g = 0
  · rw [h, decide_eq_false]
    · rfl
    · intro hm
      have := hm.2.2
      rw [Int.toNat_natCast] at this
      exact this h
  · rw [decide_eq_true (p := MxP p (n : Int) g) ⟨⟨hp, by omega, by omega⟩, by rw [Int.toNat_natCast]; exact ⟨hin, h⟩⟩]
    exact (bne_iff_ne.2 h).symm
theorem mxP_goodR {p : Int} {n : Nat} {g : Mx} (hp : Pr p) (hn : 1 ≤ n ∧ n ≤ 3) (hin : InM p n g) : decide (MxP p (n : Int) g) = invM p n g := by
  rw [mxP_good hp hn hin, Bool.eq_iff_iff, inv_iff hp hn hin]
  exact bne_iff_ne

theorem isM0 (p d : Int) (g : Mx) (h : ¬ (Pr p ∧ 1 ≤ d ∧ d ≤ 3)) : CallOK Go.Proofs.Try.prog 59 [.one (i64 p), .one (i64 d), .agg g.ds] (.one (bo false)) := by
  have hF := fnOk 56 [.tmp 6]
  refine callOK hF 60 Go.Proofs.Try.func59 rfl rfl rfl (by decide) (by simp) rfl ?_
  intro w0 hw
  have S := @vc_sound w0 _ hF ⟨(.one (bo false)), []⟩ Go.Proofs.Try.f59 rfl (by simp)
  have c1 := isPrime_ok p
  have c2 := isVars_ok d
  by_cases hp : Pr p
  · rw [decide_eq_true hp] at c1
    rw [decide_eq_false fun hd => h ⟨hp, hd⟩] at c2
    simp
    refine CallW.ok (by decide) (by simp) c1 (by simp) (S 60 _ _ ?_)
    simp
    refine CallW.ok (by decide) (by simp) c2 (by simp) (S 60 _ _ ?_)
    simp
  · rw [decide_eq_false hp] at c1
    simp
    refine CallW.ok (by decide) (by simp) c1 (by simp) (S 60 _ _ ?_)
    simp
theorem l02M0 (p d : Int) (g : Mx) (h : ¬ (Pr p ∧ 1 ≤ d ∧ d ≤ 3)) : CallOK Go.Proofs.Try.prog 30 [.one (i64 p), .one (i64 d), .agg g.ds] (.one (bo false)) := by
  have hF := fnOk 61 [.tmp 6]
  refine callOK hF 60 Go.Proofs.Try.func30 rfl rfl rfl (by decide) (by simp) rfl ?_
  intro w0 hw
  have S := @vc_sound w0 _ hF ⟨(.one (bo false)), []⟩ Go.Proofs.Try.f30 rfl (by simp)
  have c1 := l01Prime_ok p
  have c2 := l01In_ok d 1 3
  by_cases hp : Pr p
  · rw [decide_eq_true hp] at c1
    rw [decide_eq_false fun hd => h ⟨hp, hd⟩] at c2
    simp
    refine CallW.ok (by decide) (by simp) c1 (by simp) (S 60 _ _ ?_)
    simp
    refine CallW.ok (by decide) (by simp) c2 (by simp) (S 60 _ _ ?_)
    simp
  · rw [decide_eq_false hp] at c1
    simp
    refine CallW.ok (by decide) (by simp) c1 (by simp) (S 60 _ _ ?_)
    simp
theorem IsMatrix_ok (p d : Int) (g : Mx) : CallOK Go.Proofs.Try.prog 59 [.one (i64 p), .one (i64 d), .agg g.ds] (.one (bo (decide (MxP p d g)))) := by
  by_cases h : Pr p ∧ 1 ≤ d ∧ d ≤ 3
  · have h3 : d = 1 ∨ d = 2 ∨ d = 3 := by omega
    rcases h3 with rfl | rfl | rfl
    · exact isM1 p g _ h.1 (mxP_bad (n := 1) h.1 (by omega)) (mxP_good (n := 1) h.1 (by omega))
    · exact isM2 p g _ h.1 (mxP_bad (n := 2) h.1 (by omega)) (mxP_good (n := 2) h.1 (by omega))
    · exact isM3 p g _ h.1 (mxP_bad (n := 3) h.1 (by omega)) (mxP_good (n := 3) h.1 (by omega))
  · rw [decide_eq_false fun hm => h hm.1]
    exact isM0 p d g h
theorem l02Matrix_ok (p d : Int) (g : Mx) : CallOK Go.Proofs.Try.prog 30 [.one (i64 p), .one (i64 d), .agg g.ds] (.one (bo (decide (MxP p d g)))) := by
  by_cases h : Pr p ∧ 1 ≤ d ∧ d ≤ 3
  · have h3 : d = 1 ∨ d = 2 ∨ d = 3 := by omega
    rcases h3 with rfl | rfl | rfl
    · exact l02M1 p g _ h.1 (mxP_bad (n := 1) h.1 (by omega)) (mxP_goodR (n := 1) h.1 (by omega))
    · exact l02M2 p g _ h.1 (mxP_bad (n := 2) h.1 (by omega)) (mxP_goodR (n := 2) h.1 (by omega))
    · exact l02M3 p g _ h.1 (mxP_bad (n := 3) h.1 (by omega)) (mxP_goodR (n := 3) h.1 (by omega))
  · rw [decide_eq_false fun hm => h hm.1]
    exact l02M0 p d g h

end Go.Sm

namespace Go.Sm
open Go.RowKit

variable {P : Program} {N : Nat} {w0 : Base} {s : St} {a : Act} {w : World} {β : Nat → Value}

abbrev by3 (a b c : UInt8) : List Int := [(a.toNat : Int), b.toNat, c.toNat]
abbrev v3 (a b c : UInt8) : D := .vw true 1 [[u8 a], [u8 b], [u8 c]]
theorem cmp3_if (a b c d e f : UInt8) : Extern.BytealgCompare.cmp ⟨#[a, b, c]⟩ ⟨#[d, e, f]⟩ = if a ≠ d then (if a < d then -1 else 1) else if b ≠ e then (if b < e then -1 else 1) else if c ≠ f then (if c < f then -1 else 1) else 0 := by
  have g : ∀ x y z : UInt8, (ByteArray.mk #[x, y, z])[0]! = x ∧ (ByteArray.mk #[x, y, z])[1]! = y ∧ (ByteArray.mk #[x, y, z])[2]! = z := fun x y z => ⟨rfl, rfl, rfl⟩
  have hs : ∀ x y z : UInt8, (ByteArray.mk #[x, y, z]).size = 3 := fun _ _ _ => rfl
  unfold Extern.BytealgCompare.cmp
  rw [hs, hs, show List.range (min 3 3) = [0, 1, 2] from rfl]
  by_cases h1 : a = d
  · by_cases h2 : b = e
    · by_cases h3 : c = f
      · simp [List.find?, g, h1, h2, h3]
      · have hb : (c != f) = true := bne_iff_ne.2 h3
        simp [List.find?, g, h1, h2, h3, hb]
    · have hb : (b != e) = true := bne_iff_ne.2 h2
      simp [List.find?, g, h1, h2, hb]
  · have hb : (a != d) = true := bne_iff_ne.2 h1
    simp [List.find?, g, h1, hb]
theorem cmp3 (a b c d e f : UInt8) : Extern.BytealgCompare.cmp ⟨#[a, b, c]⟩ ⟨#[d, e, f]⟩ = cmpV (by3 a b c) (by3 d e f) := by
  have key : ∀ (x y : UInt8) (k : Int), (if x ≠ y then (if x < y then -1 else 1) else k) = if (x.toNat : Int) < y.toNat then -1 else if (y.toNat : Int) < x.toNat then 1 else k := fun x y k => by
    by_cases h : x = y
    · subst h; simp
    · have hn : x.toNat ≠ y.toNat := fun e => h (UInt8.toNat_inj.1 e)
      rw [if_pos h]
      by_cases h2 : x < y
      · rw [if_pos h2, if_pos (by rw [UInt8.lt_iff_toNat_lt] at h2; omega)]
      · rw [UInt8.lt_iff_toNat_lt] at h2
        rw [if_neg (by rw [UInt8.lt_iff_toNat_lt]; exact h2), if_neg (by omega), if_pos (by omega)]
  rw [cmp3_if, key, key, key]
  simp only [cmpV]

/-- What the library's entry says of three bytes each. -/
theorem bytes3 {x : Value} {B M : Nat → Prop} {a b c : UInt8} (h : Rd w B M (v3 a b c) x) : (Extern.Bytes.bytesOf x).run P w = .ok ⟨#[a, b, c]⟩ w := by
  simp only [Rd] at h
  rcases h with ⟨h, _⟩ | ⟨g, off, cap, rfl, _, _, _, _, he⟩
  · cases h
  · have he' : RdEs w B M 1 ([Value.int .u8 a.toNat, .int .u8 b.toNat, .int .u8 c.toNat].map fun u => [D.v u]) g off := he
    obtain ⟨hc, _⟩ := rdEs_cells _ _ he'
    have := Lib.run_loadBytesX (P := P) w (by3 a b c) ⟨g, off, none⟩ .empty fun j y hj => by
      have e : (⟨g, off, none⟩ : Addr).add j = ⟨g, off + j, none⟩ := by unfold Addr.add; split <;> simp_all
      rw [e]
      refine hc j _ ?_
      match j, hj with
      | 0, hj => simp at hj; subst hj; rfl
      | 1, hj => simp at hj; subst hj; rfl
      | 2, hj => simp at hj; subst hj; rfl
    show (Extern.Bytes.loadBytes ⟨g, off, none⟩ 3 .empty).run P w = _
    rw [show (3 : Nat) = (by3 a b c).length from rfl, this]
    simp [Lib.bytesOf]
theorem OpW.cmp3 {Q : Exit → Act → World → Prop} {all : Array Oper} {os : List Oper} {k : List It} {o : Oper} {d f : Nat} {fn : Func} {c : Call} {x y : Operand} {a1 b1 c1 a2 b2 c2 : UInt8}
    (hf : P.funcs[f]? = some fn) (hname : (fn.name == "runtime.NumGoroutine") = false) (hb : fn.body.isNone = true) (hn : Extern.findNext fn = none) (he : Extern.find fn = some Extern.BytealgCompare.compare)
    (ho : o.op = .call c) (hc : c.callee = .value (.func f)) (ha : c.args = #[x, y]) (hd : o.dst = some d) (hlt : d < N) (hx : s.opd x = some (.c (.d (v3 a1 b1 c1)))) (hy : s.opd y = some (.c (.d (v3 a2 b2 c2))))
    (h : J P N w0 Q (.ops all os :: k) ⟨(d, .c (.d (i64 (cmpV (by3 a1 b1 c1) (by3 a2 b2 c2))))) :: s.tm, s.ob⟩) : OpW P N w0 Q all os k s o := by
  refine OpW.val hd fun a w β R => ?_
  have h1 := R.opd hx
  have h2 := R.opd hy
  simp only [FVRel, CRel] at h1 h2
  have r1 : (Extern.Bytes.bytesOf (a.eval x)).run P w = .ok ⟨#[a1, b1, c1]⟩ w := bytes3 h1.2.2
  have r2 : (Extern.Bytes.bytesOf (a.eval y)).run P w = .ok ⟨#[a2, b2, c2]⟩ w := bytes3 h2.2.2
  refine ⟨.int .i64 (cmpV (by3 a1 b1 c1) (by3 a2 b2 c2)), w, _, β, ?_, R.setTm hlt (rel_int ..), h⟩
  have r3 : (Extern.BytealgCompare.compare #[a.eval x, a.eval y]).run P w = .ok (.int .i64 (cmpV (by3 a1 b1 c1) (by3 a2 b2 c2))) w := by
    change (Sem.run P (do pure (goInt (Extern.BytealgCompare.cmp (← Extern.Bytes.bytesOf (a.eval x)) (← Extern.Bytes.bytesOf (a.eval y))))) w) = _
    simp only [Sem.run_bind, r1, r2, Result.andThen]
    rw [Go.Sm.cmp3]
    rfl
  have r4 := run_callFunc_extern hf hname hb hn he #[a.eval x, a.eval y] w
  rw [r3] at r4
  simp [execOp, ho, resolve, hc, ha, Act.eval, Deferred.ofValue, invoke] at r4 ⊢
  exact r4

set_option maxRecDepth 20000 in
theorem bytesCompare_ok (a b c d e f : UInt8) : CallOK Go.Proofs.Try.prog 62 [.one (v3 a b c), .one (v3 d e f)] (.one (i64 (cmpV (by3 a b c) (by3 d e f)))) := by
  have hF := fnOk 8 [.tmp 4]
  refine callOK hF 8 Go.Proofs.Try.func62 rfl rfl rfl (by decide) (by simp) rfl ?_
  intro w0 hw
  have S := @vc_sound w0 _ hF ⟨(.one (i64 (cmpV (by3 a b c) (by3 d e f)))), []⟩ Go.Proofs.Try.f62 rfl (by simp)
  simp
  refine J.op rfl (OpW.cmp3 (f := 78) (fn := Go.Proofs.Try.f78) (a1 := a) (b1 := b) (c1 := c) (a2 := d) (b2 := e) (c2 := f) (x := .tmp 5) (y := .tmp 6) Go.Proofs.Try.func78 (by kernel_rfl) rfl (by kernel_rfl) (by kernel_rfl) rfl rfl rfl rfl (by decide) (by simp) (by simp) ?_)
  refine S 60 _ _ ?_
  simp

theorem cmpV_app : ∀ {a c b d : List Int}, a.length = c.length → cmpV (a ++ b) (c ++ d) = if cmpV a c = 0 then cmpV b d else cmpV a c
  | [], [], b, d, _ => by simp [cmpV]
  | x :: a, y :: c, b, d, h => by
    have ih := cmpV_app (a := a) (c := c) (b := b) (d := d) (by simpa using h)
    simp only [List.cons_append, cmpV]
    split
    · simp
    · split
      · simp
      · exact ih
theorem cmpM_rows (g h : Mx) : cmpM g h = if cmpV (by3 g.a g.b g.c) (by3 h.a h.b h.c) = 0 then (if cmpV (by3 g.d g.e g.f) (by3 h.d h.e h.f) = 0 then cmpV (by3 g.g g.h g.i) (by3 h.g h.h h.i) else cmpV (by3 g.d g.e g.f) (by3 h.d h.e h.f)) else cmpV (by3 g.a g.b g.c) (by3 h.a h.b h.c) := by
  unfold cmpM
  rw [show entsM g = by3 g.a g.b g.c ++ (by3 g.d g.e g.f ++ by3 g.g g.h g.i) from rfl, show entsM h = by3 h.a h.b h.c ++ (by3 h.d h.e h.f ++ by3 h.g h.h h.i) from rfl, cmpV_app (a := by3 g.a g.b g.c) (c := by3 h.a h.b h.c) rfl, cmpV_app (a := by3 g.d g.e g.f) (c := by3 h.d h.e h.f) rfl]

theorem compareMatrices_ok (g h : Mx) : CallOK Go.Proofs.Try.prog 45 [.agg g.ds, .agg h.ds] (.one (i64 (cmpM g h))) := by
  have hF := fnOk 21 [.tmp 4]
  refine callOK hF 6 Go.Proofs.Try.func45 rfl rfl rfl (by decide) (by simp) rfl ?_
  intro w0 hw
  have S := @vc_sound w0 _ hF ⟨(.one (i64 (cmpM g h))), []⟩ Go.Proofs.Try.f45 rfl (by simp)
  have c1 := bytesCompare_ok g.a g.b g.c h.a h.b h.c
  have c2 := bytesCompare_ok g.d g.e g.f h.d h.e h.f
  have c3 := bytesCompare_ok g.g g.h g.i h.g h.h h.i
  rw [cmpM_rows] at S ⊢
  generalize cmpV (by3 g.a g.b g.c) (by3 h.a h.b h.c) = x1 at c1 S ⊢
  generalize cmpV (by3 g.d g.e g.f) (by3 h.d h.e h.f) = x2 at c2 S ⊢
  generalize cmpV (by3 g.g g.h g.i) (by3 h.g h.h h.i) = x3 at c3 S ⊢
  simp
  refine J.freezeV (d := 2) (K := 128) (xs := g.ds) (by simp) (by simp) ?_
  refine J.freezeV (d := 3) (K := 192) (xs := h.ds) (by simp) (by simp) ?_
  refine S 60 _ _ ?_
  simp
  refine J.rounds 4 (LpW.step (S 60 _ _ ?_))
  simp
  refine J.dr hF mixed 6 [[], [0], [0, 1], [], [3], [3, 4], [0, 1, 2, 3, 4, 5], [0, 1, 2, 3, 4, 5, 6]] [[10, 11, 12, 13, 14, 15], [11, 12, 13, 14, 15], [12, 13, 14, 15], [10, 11, 12, 13, 14, 15], [10, 11, 12, 14, 15], [10, 11, 12, 15]] (by decide) ?_
  simp
  refine S 60 _ _ ?_
  simp
  refine CallW.ok (by decide) (by simp) c1 (by simp) (S 60 _ _ ?_)
  simp
  refine ⟨fun hn => by simp_all, fun z1 => LpW.inv (LpW.step (S 60 _ _ ?_))⟩
  simp
  refine J.dr hF mixed 6 [[], [0], [0, 1], [], [3], [3, 4], [0, 1, 2, 3, 4, 5], [0, 1, 2, 3, 4, 5, 6]] [[10, 11, 12, 13, 14, 15], [11, 12, 13, 14, 15], [12, 13, 14, 15], [10, 11, 12, 13, 14, 15], [10, 11, 12, 14, 15], [10, 11, 12, 15]] (by decide) ?_
  simp
  refine S 60 _ _ ?_
  simp
  refine CallW.ok (by decide) (by simp) c2 (by simp) (S 60 _ _ ?_)
  simp
  refine ⟨fun hn => by simp_all, fun z2 => LpW.inv (LpW.step (S 60 _ _ ?_))⟩
  simp
  refine J.dr hF mixed 6 [[], [0], [0, 1], [], [3], [3, 4], [0, 1, 2, 3, 4, 5], [0, 1, 2, 3, 4, 5, 6]] [[10, 11, 12, 13, 14, 15], [11, 12, 13, 14, 15], [12, 13, 14, 15], [10, 11, 12, 13, 14, 15], [10, 11, 12, 14, 15], [10, 11, 12, 15]] (by decide) ?_
  simp
  refine S 60 _ _ ?_
  simp
  refine CallW.ok (by decide) (by simp) c3 (by simp) (S 60 _ _ ?_)
  simp
  refine ⟨fun hn => by simp_all, fun z3 => LpW.inv (LpW.step (S 60 _ _ ?_))⟩
  simp
  simp [z1, z2, z3]

theorem cmp_lt {x y : UInt8} (h : x ≠ y) (k : Int) : ((if (x.toNat : Int) < y.toNat then -1 else if (y.toNat : Int) < x.toNat then 1 else k) < 0) ↔ (x.toNat : Int) < y.toNat := by
  have hn : x.toNat ≠ y.toNat := fun e => h (UInt8.toNat_inj.1 e)
  split
  · rename_i h1; exact ⟨fun _ => h1, fun _ => by omega⟩
  · rename_i h1
    rw [if_pos (by omega)]
    exact ⟨fun h => by omega, fun h => absurd h h1⟩
theorem cmp_ltd {x y : UInt8} (h : x ≠ y) (k : Int) : decide ((if (x.toNat : Int) < y.toNat then -1 else if (y.toNat : Int) < x.toNat then 1 else k) < 0) = decide (x.toNat < y.toNat) := decide_eq_decide.2 ((cmp_lt h k).trans (by omega))
theorem cmp_eq (x : UInt8) (k : Int) : (if (x.toNat : Int) < x.toNat then -1 else if (x.toNat : Int) < x.toNat then 1 else k) = k := by simp

set_option maxRecDepth 20000 in
set_option maxHeartbeats 1000000 in
theorem l02Before_ok (g h : Mx) : CallOK Go.Proofs.Try.prog 31 [.agg g.ds, .agg h.ds] (.one (bo (decide (cmpM g h < 0)))) := by
  have hF := fnOk 37 [.tmp 4]
  refine callOK hF 60 Go.Proofs.Try.func31 rfl rfl rfl (by decide) (by simp) rfl ?_
  intro w0 hw
  have S := @vc_sound w0 _ hF ⟨(.one (bo (decide (cmpM g h < 0)))), []⟩ Go.Proofs.Try.f31 rfl (by simp)
  generalize hb : decide (cmpM g h < 0) = b at S ⊢
  simp only [cmpM, entsM, Mx.at, cmpV] at hb
  simp
  refine J.rounds 5 (LpW.step (S 60 _ _ ?_))
  simp
  refine J.rounds 5 (LpW.step (S 60 _ _ ?_))
  simp
  refine J.dr hF mixed 10 [[], [], [0], [0, 1, 2], [0, 1, 2, 3], [], [], [5], [5, 6, 7], [5, 6, 7, 8], [0, 1, 2, 3, 4, 5, 6, 7, 8, 9]] [[15, 16, 17, 18, 19, 20, 21, 22, 23, 24], [15, 16, 17, 18, 19, 20, 21, 22, 23, 24], [16, 17, 18, 19, 20, 21, 22, 23, 24], [18, 19, 20, 21, 22, 23, 24], [19, 20, 21, 22, 23, 24], [15, 16, 17, 18, 19, 20, 21, 22, 23, 24], [15, 16, 17, 18, 19, 20, 21, 22, 23, 24], [15, 16, 17, 18, 19, 21, 22, 23, 24], [15, 16, 17, 18, 19, 23, 24], [15, 16, 17, 18, 19, 24]] (by decide) ?_
  simp
  refine S 60 _ _ ?_
  simp
  refine ⟨fun hn => ?_, fun za => ?_⟩
  · rw [cmp_ltd hn] at hb
    refine J.dr hF mixed 10 [[], [], [0], [0, 1, 2], [0, 1, 2, 3], [], [], [5], [5, 6, 7], [5, 6, 7, 8], [0, 1, 2, 3, 4, 5, 6, 7, 8, 9], [0, 1, 2, 3, 4, 5, 6, 7, 8, 9, 10]] [[26, 27, 28, 29, 30, 31, 32, 33, 34, 35], [26, 27, 28, 29, 30, 31, 32, 33, 34, 35], [27, 28, 29, 30, 31, 32, 33, 34, 35], [29, 30, 31, 32, 33, 34, 35], [30, 31, 32, 33, 34, 35], [26, 27, 28, 29, 30, 31, 32, 33, 34, 35], [26, 27, 28, 29, 30, 31, 32, 33, 34, 35], [26, 27, 28, 29, 30, 32, 33, 34, 35], [26, 27, 28, 29, 30, 34, 35], [26, 27, 28, 29, 30, 35]] (by decide) ?_
    simp
    refine S 60 _ _ ?_
    simp [hb]
  rw [za, cmp_eq] at hb
  refine LpW.inv (LpW.step (S 60 _ _ ?_))
  simp
  refine J.dr hF mixed 10 [[], [], [0], [0, 1, 2], [0, 1, 2, 3], [], [], [5], [5, 6, 7], [5, 6, 7, 8], [0, 1, 2, 3, 4, 5, 6, 7, 8, 9]] [[15, 16, 17, 18, 19, 20, 21, 22, 23, 24], [15, 16, 17, 18, 19, 20, 21, 22, 23, 24], [16, 17, 18, 19, 20, 21, 22, 23, 24], [18, 19, 20, 21, 22, 23, 24], [19, 20, 21, 22, 23, 24], [15, 16, 17, 18, 19, 20, 21, 22, 23, 24], [15, 16, 17, 18, 19, 20, 21, 22, 23, 24], [15, 16, 17, 18, 19, 21, 22, 23, 24], [15, 16, 17, 18, 19, 23, 24], [15, 16, 17, 18, 19, 24]] (by decide) ?_
  simp
  refine S 60 _ _ ?_
  simp
  refine ⟨fun hn => ?_, fun zb => ?_⟩
  · rw [cmp_ltd hn] at hb
    refine J.dr hF mixed 10 [[], [], [0], [0, 1, 2], [0, 1, 2, 3], [], [], [5], [5, 6, 7], [5, 6, 7, 8], [0, 1, 2, 3, 4, 5, 6, 7, 8, 9], [0, 1, 2, 3, 4, 5, 6, 7, 8, 9, 10]] [[26, 27, 28, 29, 30, 31, 32, 33, 34, 35], [26, 27, 28, 29, 30, 31, 32, 33, 34, 35], [27, 28, 29, 30, 31, 32, 33, 34, 35], [29, 30, 31, 32, 33, 34, 35], [30, 31, 32, 33, 34, 35], [26, 27, 28, 29, 30, 31, 32, 33, 34, 35], [26, 27, 28, 29, 30, 31, 32, 33, 34, 35], [26, 27, 28, 29, 30, 32, 33, 34, 35], [26, 27, 28, 29, 30, 34, 35], [26, 27, 28, 29, 30, 35]] (by decide) ?_
    simp
    refine S 60 _ _ ?_
    simp [hb]
  rw [zb, cmp_eq] at hb
  refine LpW.inv (LpW.step (S 60 _ _ ?_))
  simp
  refine J.dr hF mixed 10 [[], [], [0], [0, 1, 2], [0, 1, 2, 3], [], [], [5], [5, 6, 7], [5, 6, 7, 8], [0, 1, 2, 3, 4, 5, 6, 7, 8, 9]] [[15, 16, 17, 18, 19, 20, 21, 22, 23, 24], [15, 16, 17, 18, 19, 20, 21, 22, 23, 24], [16, 17, 18, 19, 20, 21, 22, 23, 24], [18, 19, 20, 21, 22, 23, 24], [19, 20, 21, 22, 23, 24], [15, 16, 17, 18, 19, 20, 21, 22, 23, 24], [15, 16, 17, 18, 19, 20, 21, 22, 23, 24], [15, 16, 17, 18, 19, 21, 22, 23, 24], [15, 16, 17, 18, 19, 23, 24], [15, 16, 17, 18, 19, 24]] (by decide) ?_
  simp
  refine S 60 _ _ ?_
  simp
  refine ⟨fun hn => ?_, fun zc => ?_⟩
  · rw [cmp_ltd hn] at hb
    refine J.dr hF mixed 10 [[], [], [0], [0, 1, 2], [0, 1, 2, 3], [], [], [5], [5, 6, 7], [5, 6, 7, 8], [0, 1, 2, 3, 4, 5, 6, 7, 8, 9], [0, 1, 2, 3, 4, 5, 6, 7, 8, 9, 10]] [[26, 27, 28, 29, 30, 31, 32, 33, 34, 35], [26, 27, 28, 29, 30, 31, 32, 33, 34, 35], [27, 28, 29, 30, 31, 32, 33, 34, 35], [29, 30, 31, 32, 33, 34, 35], [30, 31, 32, 33, 34, 35], [26, 27, 28, 29, 30, 31, 32, 33, 34, 35], [26, 27, 28, 29, 30, 31, 32, 33, 34, 35], [26, 27, 28, 29, 30, 32, 33, 34, 35], [26, 27, 28, 29, 30, 34, 35], [26, 27, 28, 29, 30, 35]] (by decide) ?_
    simp
    refine S 60 _ _ ?_
    simp [hb]
  rw [zc, cmp_eq] at hb
  refine LpW.inv (LpW.step (S 60 _ _ ?_))
  simp
  refine LpW.inv (LpW.step (S 60 _ _ ?_))
  simp
  refine J.rounds 5 (LpW.step (S 60 _ _ ?_))
  simp
  refine J.dr hF mixed 10 [[], [], [0], [0, 1, 2], [0, 1, 2, 3], [], [], [5], [5, 6, 7], [5, 6, 7, 8], [0, 1, 2, 3, 4, 5, 6, 7, 8, 9]] [[15, 16, 17, 18, 19, 20, 21, 22, 23, 24], [15, 16, 17, 18, 19, 20, 21, 22, 23, 24], [16, 17, 18, 19, 20, 21, 22, 23, 24], [18, 19, 20, 21, 22, 23, 24], [19, 20, 21, 22, 23, 24], [15, 16, 17, 18, 19, 20, 21, 22, 23, 24], [15, 16, 17, 18, 19, 20, 21, 22, 23, 24], [15, 16, 17, 18, 19, 21, 22, 23, 24], [15, 16, 17, 18, 19, 23, 24], [15, 16, 17, 18, 19, 24]] (by decide) ?_
  simp
  refine S 60 _ _ ?_
  simp
  refine ⟨fun hn => ?_, fun zd => ?_⟩
  · rw [cmp_ltd hn] at hb
    refine J.dr hF mixed 10 [[], [], [0], [0, 1, 2], [0, 1, 2, 3], [], [], [5], [5, 6, 7], [5, 6, 7, 8], [0, 1, 2, 3, 4, 5, 6, 7, 8, 9], [0, 1, 2, 3, 4, 5, 6, 7, 8, 9, 10]] [[26, 27, 28, 29, 30, 31, 32, 33, 34, 35], [26, 27, 28, 29, 30, 31, 32, 33, 34, 35], [27, 28, 29, 30, 31, 32, 33, 34, 35], [29, 30, 31, 32, 33, 34, 35], [30, 31, 32, 33, 34, 35], [26, 27, 28, 29, 30, 31, 32, 33, 34, 35], [26, 27, 28, 29, 30, 31, 32, 33, 34, 35], [26, 27, 28, 29, 30, 32, 33, 34, 35], [26, 27, 28, 29, 30, 34, 35], [26, 27, 28, 29, 30, 35]] (by decide) ?_
    simp
    refine S 60 _ _ ?_
    simp [hb]
  rw [zd, cmp_eq] at hb
  refine LpW.inv (LpW.step (S 60 _ _ ?_))
  simp
  refine J.dr hF mixed 10 [[], [], [0], [0, 1, 2], [0, 1, 2, 3], [], [], [5], [5, 6, 7], [5, 6, 7, 8], [0, 1, 2, 3, 4, 5, 6, 7, 8, 9]] [[15, 16, 17, 18, 19, 20, 21, 22, 23, 24], [15, 16, 17, 18, 19, 20, 21, 22, 23, 24], [16, 17, 18, 19, 20, 21, 22, 23, 24], [18, 19, 20, 21, 22, 23, 24], [19, 20, 21, 22, 23, 24], [15, 16, 17, 18, 19, 20, 21, 22, 23, 24], [15, 16, 17, 18, 19, 20, 21, 22, 23, 24], [15, 16, 17, 18, 19, 21, 22, 23, 24], [15, 16, 17, 18, 19, 23, 24], [15, 16, 17, 18, 19, 24]] (by decide) ?_
  simp
  refine S 60 _ _ ?_
  simp
  refine ⟨fun hn => ?_, fun ze => ?_⟩
  · rw [cmp_ltd hn] at hb
    refine J.dr hF mixed 10 [[], [], [0], [0, 1, 2], [0, 1, 2, 3], [], [], [5], [5, 6, 7], [5, 6, 7, 8], [0, 1, 2, 3, 4, 5, 6, 7, 8, 9], [0, 1, 2, 3, 4, 5, 6, 7, 8, 9, 10]] [[26, 27, 28, 29, 30, 31, 32, 33, 34, 35], [26, 27, 28, 29, 30, 31, 32, 33, 34, 35], [27, 28, 29, 30, 31, 32, 33, 34, 35], [29, 30, 31, 32, 33, 34, 35], [30, 31, 32, 33, 34, 35], [26, 27, 28, 29, 30, 31, 32, 33, 34, 35], [26, 27, 28, 29, 30, 31, 32, 33, 34, 35], [26, 27, 28, 29, 30, 32, 33, 34, 35], [26, 27, 28, 29, 30, 34, 35], [26, 27, 28, 29, 30, 35]] (by decide) ?_
    simp
    refine S 60 _ _ ?_
    simp [hb]
  rw [ze, cmp_eq] at hb
  refine LpW.inv (LpW.step (S 60 _ _ ?_))
  simp
  refine J.dr hF mixed 10 [[], [], [0], [0, 1, 2], [0, 1, 2, 3], [], [], [5], [5, 6, 7], [5, 6, 7, 8], [0, 1, 2, 3, 4, 5, 6, 7, 8, 9]] [[15, 16, 17, 18, 19, 20, 21, 22, 23, 24], [15, 16, 17, 18, 19, 20, 21, 22, 23, 24], [16, 17, 18, 19, 20, 21, 22, 23, 24], [18, 19, 20, 21, 22, 23, 24], [19, 20, 21, 22, 23, 24], [15, 16, 17, 18, 19, 20, 21, 22, 23, 24], [15, 16, 17, 18, 19, 20, 21, 22, 23, 24], [15, 16, 17, 18, 19, 21, 22, 23, 24], [15, 16, 17, 18, 19, 23, 24], [15, 16, 17, 18, 19, 24]] (by decide) ?_
  simp
  refine S 60 _ _ ?_
  simp
  refine ⟨fun hn => ?_, fun zf => ?_⟩
  · rw [cmp_ltd hn] at hb
    refine J.dr hF mixed 10 [[], [], [0], [0, 1, 2], [0, 1, 2, 3], [], [], [5], [5, 6, 7], [5, 6, 7, 8], [0, 1, 2, 3, 4, 5, 6, 7, 8, 9], [0, 1, 2, 3, 4, 5, 6, 7, 8, 9, 10]] [[26, 27, 28, 29, 30, 31, 32, 33, 34, 35], [26, 27, 28, 29, 30, 31, 32, 33, 34, 35], [27, 28, 29, 30, 31, 32, 33, 34, 35], [29, 30, 31, 32, 33, 34, 35], [30, 31, 32, 33, 34, 35], [26, 27, 28, 29, 30, 31, 32, 33, 34, 35], [26, 27, 28, 29, 30, 31, 32, 33, 34, 35], [26, 27, 28, 29, 30, 32, 33, 34, 35], [26, 27, 28, 29, 30, 34, 35], [26, 27, 28, 29, 30, 35]] (by decide) ?_
    simp
    refine S 60 _ _ ?_
    simp [hb]
  rw [zf, cmp_eq] at hb
  refine LpW.inv (LpW.step (S 60 _ _ ?_))
  simp
  refine LpW.inv (LpW.step (S 60 _ _ ?_))
  simp
  refine J.rounds 5 (LpW.step (S 60 _ _ ?_))
  simp
  refine J.dr hF mixed 10 [[], [], [0], [0, 1, 2], [0, 1, 2, 3], [], [], [5], [5, 6, 7], [5, 6, 7, 8], [0, 1, 2, 3, 4, 5, 6, 7, 8, 9]] [[15, 16, 17, 18, 19, 20, 21, 22, 23, 24], [15, 16, 17, 18, 19, 20, 21, 22, 23, 24], [16, 17, 18, 19, 20, 21, 22, 23, 24], [18, 19, 20, 21, 22, 23, 24], [19, 20, 21, 22, 23, 24], [15, 16, 17, 18, 19, 20, 21, 22, 23, 24], [15, 16, 17, 18, 19, 20, 21, 22, 23, 24], [15, 16, 17, 18, 19, 21, 22, 23, 24], [15, 16, 17, 18, 19, 23, 24], [15, 16, 17, 18, 19, 24]] (by decide) ?_
  simp
  refine S 60 _ _ ?_
  simp
  refine ⟨fun hn => ?_, fun zg => ?_⟩
  · rw [cmp_ltd hn] at hb
    refine J.dr hF mixed 10 [[], [], [0], [0, 1, 2], [0, 1, 2, 3], [], [], [5], [5, 6, 7], [5, 6, 7, 8], [0, 1, 2, 3, 4, 5, 6, 7, 8, 9], [0, 1, 2, 3, 4, 5, 6, 7, 8, 9, 10]] [[26, 27, 28, 29, 30, 31, 32, 33, 34, 35], [26, 27, 28, 29, 30, 31, 32, 33, 34, 35], [27, 28, 29, 30, 31, 32, 33, 34, 35], [29, 30, 31, 32, 33, 34, 35], [30, 31, 32, 33, 34, 35], [26, 27, 28, 29, 30, 31, 32, 33, 34, 35], [26, 27, 28, 29, 30, 31, 32, 33, 34, 35], [26, 27, 28, 29, 30, 32, 33, 34, 35], [26, 27, 28, 29, 30, 34, 35], [26, 27, 28, 29, 30, 35]] (by decide) ?_
    simp
    refine S 60 _ _ ?_
    simp [hb]
  rw [zg, cmp_eq] at hb
  refine LpW.inv (LpW.step (S 60 _ _ ?_))
  simp
  refine J.dr hF mixed 10 [[], [], [0], [0, 1, 2], [0, 1, 2, 3], [], [], [5], [5, 6, 7], [5, 6, 7, 8], [0, 1, 2, 3, 4, 5, 6, 7, 8, 9]] [[15, 16, 17, 18, 19, 20, 21, 22, 23, 24], [15, 16, 17, 18, 19, 20, 21, 22, 23, 24], [16, 17, 18, 19, 20, 21, 22, 23, 24], [18, 19, 20, 21, 22, 23, 24], [19, 20, 21, 22, 23, 24], [15, 16, 17, 18, 19, 20, 21, 22, 23, 24], [15, 16, 17, 18, 19, 20, 21, 22, 23, 24], [15, 16, 17, 18, 19, 21, 22, 23, 24], [15, 16, 17, 18, 19, 23, 24], [15, 16, 17, 18, 19, 24]] (by decide) ?_
  simp
  refine S 60 _ _ ?_
  simp
  refine ⟨fun hn => ?_, fun zh => ?_⟩
  · rw [cmp_ltd hn] at hb
    refine J.dr hF mixed 10 [[], [], [0], [0, 1, 2], [0, 1, 2, 3], [], [], [5], [5, 6, 7], [5, 6, 7, 8], [0, 1, 2, 3, 4, 5, 6, 7, 8, 9], [0, 1, 2, 3, 4, 5, 6, 7, 8, 9, 10]] [[26, 27, 28, 29, 30, 31, 32, 33, 34, 35], [26, 27, 28, 29, 30, 31, 32, 33, 34, 35], [27, 28, 29, 30, 31, 32, 33, 34, 35], [29, 30, 31, 32, 33, 34, 35], [30, 31, 32, 33, 34, 35], [26, 27, 28, 29, 30, 31, 32, 33, 34, 35], [26, 27, 28, 29, 30, 31, 32, 33, 34, 35], [26, 27, 28, 29, 30, 32, 33, 34, 35], [26, 27, 28, 29, 30, 34, 35], [26, 27, 28, 29, 30, 35]] (by decide) ?_
    simp
    refine S 60 _ _ ?_
    simp [hb]
  rw [zh, cmp_eq] at hb
  refine LpW.inv (LpW.step (S 60 _ _ ?_))
  simp
  refine J.dr hF mixed 10 [[], [], [0], [0, 1, 2], [0, 1, 2, 3], [], [], [5], [5, 6, 7], [5, 6, 7, 8], [0, 1, 2, 3, 4, 5, 6, 7, 8, 9]] [[15, 16, 17, 18, 19, 20, 21, 22, 23, 24], [15, 16, 17, 18, 19, 20, 21, 22, 23, 24], [16, 17, 18, 19, 20, 21, 22, 23, 24], [18, 19, 20, 21, 22, 23, 24], [19, 20, 21, 22, 23, 24], [15, 16, 17, 18, 19, 20, 21, 22, 23, 24], [15, 16, 17, 18, 19, 20, 21, 22, 23, 24], [15, 16, 17, 18, 19, 21, 22, 23, 24], [15, 16, 17, 18, 19, 23, 24], [15, 16, 17, 18, 19, 24]] (by decide) ?_
  simp
  refine S 60 _ _ ?_
  simp
  refine ⟨fun hn => ?_, fun zi => ?_⟩
  · rw [cmp_ltd hn] at hb
    refine J.dr hF mixed 10 [[], [], [0], [0, 1, 2], [0, 1, 2, 3], [], [], [5], [5, 6, 7], [5, 6, 7, 8], [0, 1, 2, 3, 4, 5, 6, 7, 8, 9], [0, 1, 2, 3, 4, 5, 6, 7, 8, 9, 10]] [[26, 27, 28, 29, 30, 31, 32, 33, 34, 35], [26, 27, 28, 29, 30, 31, 32, 33, 34, 35], [27, 28, 29, 30, 31, 32, 33, 34, 35], [29, 30, 31, 32, 33, 34, 35], [30, 31, 32, 33, 34, 35], [26, 27, 28, 29, 30, 31, 32, 33, 34, 35], [26, 27, 28, 29, 30, 31, 32, 33, 34, 35], [26, 27, 28, 29, 30, 32, 33, 34, 35], [26, 27, 28, 29, 30, 34, 35], [26, 27, 28, 29, 30, 35]] (by decide) ?_
    simp
    refine S 60 _ _ ?_
    simp [hb]
  rw [zi, cmp_eq] at hb
  refine LpW.inv (LpW.step (S 60 _ _ ?_))
  simp
  refine LpW.inv (LpW.step (S 60 _ _ ?_))
  simp
  rw [← hb]
  rfl

end Go.Sm
