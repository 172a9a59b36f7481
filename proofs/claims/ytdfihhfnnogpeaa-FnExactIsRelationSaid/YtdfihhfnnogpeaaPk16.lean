/- Towards the rows of this seat: what the functions do, as contracts over plain data. -/
import Derived.Test.YtdfihhfnnogpeaaPk15
import Derived.Test.YtdfihhfnnogpeaaPk14
namespace Go.Sm
open Go.RowKit

/-- A monomial times a number, as terms. -/
def mono (p : Int) (e : Ex) (n : Int) : List Tm := putT p [] e n
theorem mono_can {p : Int} (hp : 0 < p) (e : Ex) (n : Int) : Can p (mono p e n) := (putT_can hp (can_nil p) e n).1
theorem mono_coef {p : Int} (hp : 0 < p) (e : Ex) (n : Int) (e' : Ex) : coef (mono p e n) e' = if e' = e then n % p else 0 := by
  have := (putT_can hp (can_nil p) e n).2 e'
  simpa [coef, mono] using this
theorem mono_len (p : Int) (e : Ex) (n : Int) : (mono p e n).length ≤ 1 := by
  have := putT_length p [] e n
  simpa [mono] using this
theorem mono_sum {p : Int} (hp : 0 < p) (e : Ex) (n : Int) : ofSum p [(e, n)] = mono p e n := by
  obtain ⟨k1, k2⟩ := ofSum_can hp (l := [(e, n)]) (by simp)
  refine can_ext k1 (mono_can hp e n) fun e' => ?_
  rw [k2, mono_coef hp]
  simp only [sget]
  by_cases h : e = e'
  · simp [h]
  · have h' : ¬ e' = e := fun q => h q.symm
    simp [h, h']

def fct (p : Int) (i k : Nat) : List Tm := putT p (mono p (unE i) 1) (unE k) (p - 1)
theorem fct_can {p : Int} (hp : 0 < p) (i k : Nat) : Can p (fct p i k) := (putT_can hp (mono_can hp _ _) _ _).1
theorem fct_len (p : Int) (i k : Nat) : (fct p i k).length ≤ 2 := by
  have := putT_length p (mono p (unE i) 1) (unE k) (p - 1)
  have := mono_len p (unE i) 1
  unfold fct; omega
theorem fct_plus {p : Int} (hp : Pr p) {i k : Nat} (hik : (i = 0 ∧ k = 1) ∨ (i = 0 ∧ k = 2) ∨ (i = 1 ∧ k = 2)) : plusT p (mono p (unE i) 1) (mono p (unE k) 1) (p - 1) = fct p i k := by
  rcases hik with ⟨rfl, rfl⟩ | ⟨rfl, rfl⟩ | ⟨rfl, rfl⟩ <;> rcases hp with rfl | rfl | rfl | rfl | rfl | rfl <;> decide

def van1 (p : Int) : List Tm := mono p ⟨0, 0, 0⟩ 1
def van2 (p : Int) : List Tm := mulT p (van1 p) (fct p 0 1)
def van3 (p : Int) : List Tm := mulT p (van2 p) (fct p 0 2)
def van4 (p : Int) : List Tm := mulT p (van3 p) (fct p 1 2)
def vanT (p : Int) (d : Int) : List Tm := if d = 1 then van1 p else if d = 2 then van2 p else van4 p

theorem van1_ok {p : Int} (hp : 0 < p) : Can p (van1 p) ∧ (van1 p).length ≤ 1 := ⟨mono_can hp _ _, mono_len _ _ _⟩
theorem mul_ok2 {p : Int} (hp : 0 < p) {xs ys : List Tm} {n k : Nat} (hx : Can p xs ∧ xs.length ≤ n) (hy : Can p ys) (hl : ys.length ≤ k) : Can p (mulT p xs ys) ∧ (mulT p xs ys).length ≤ n * k := by
  obtain ⟨_, _, h1, h2, _⟩ := mul_tell hp hx.1 hy
  exact ⟨h1, Nat.le_trans h2 (Nat.mul_le_mul hx.2 hl)⟩
theorem van2_ok {p : Int} (hp : 0 < p) : Can p (van2 p) ∧ (van2 p).length ≤ 2 := mul_ok2 hp (van1_ok hp) (fct_can hp _ _) (fct_len _ _ _)
theorem van3_ok {p : Int} (hp : 0 < p) : Can p (van3 p) ∧ (van3 p).length ≤ 4 := mul_ok2 hp (van2_ok hp) (fct_can hp _ _) (fct_len _ _ _)
theorem van4_ok {p : Int} (hp : 0 < p) : Can p (van4 p) ∧ (van4 p).length ≤ 8 := mul_ok2 hp (van3_ok hp) (fct_can hp _ _) (fct_len _ _ _)

theorem deg_fct {p : Int} (hp : Pr p) {i k : Nat} (hik : (i = 0 ∧ k = 1) ∨ (i = 0 ∧ k = 2) ∨ (i = 1 ∧ k = 2)) : degT (fct p i k) = 1 ∧ (fct p i k).length ≠ 0 := by
  rcases hik with ⟨rfl, rfl⟩ | ⟨rfl, rfl⟩ | ⟨rfl, rfl⟩ <;> rcases hp with rfl | rfl | rfl | rfl | rfl | rfl <;> decide
theorem deg_van1 {p : Int} (hp : Pr p) : degT (van1 p) = 0 ∧ (van1 p).length ≠ 0 := by rcases hp with rfl | rfl | rfl | rfl | rfl | rfl <;> decide
theorem deg_van2 {p : Int} (hp : Pr p) : degT (van2 p) = 1 ∧ (van2 p).length ≠ 0 := by rcases hp with rfl | rfl | rfl | rfl | rfl | rfl <;> decide
theorem deg_van3 {p : Int} (hp : Pr p) : degT (van3 p) = 2 ∧ (van3 p).length ≠ 0 := by rcases hp with rfl | rfl | rfl | rfl | rfl | rfl <;> decide

/-- A state with what is needed further alone. -/
theorem J.clean {P : Program} {N : Nat} {w0 : Base} {s : St} (hw : w0.ok64) {Q : Exit → Act → World → Prop} {k : List It} (t : St) (h : Fit (autoRn s t) s t) (hj : J P N w0 Q k t) : J P N w0 Q k s := J.fit hw h hj
abbrev vanI (p i k : Int) (ts : List Tm) : St := ⟨[(0, .c (.d (i64 p))), (1, .c (.d (i64 3))), (4, .c (.ref 64004 0)), (5, .c (.ref 64005 0)), (6, .c (.d (i64 i))), (7, .c (.d (i64 k))), (11, .c (.d (i64 3))), (12, .c (.d (i64 i)))],
  [(64004, .var [.d (i64 0), .d (i64 0), .ob 64014]), (64014, .arr 57 4 []), (64005, .var [.d (i64 p), .d (i64 3), .ob 64015]), (64015, .arr 57 4 (terms ts))]⟩
abbrev vanS (p i k : Int) (ts : List Tm) : St := ⟨[(0, .c (.d (i64 p))), (1, .c (.d (i64 3))), (4, .c (.ref 64004 0)), (5, .c (.ref 64005 0)), (6, .c (.d (i64 i))), (7, .c (.d (i64 k)))],
  [(64004, .var [.d (i64 0), .d (i64 0), .ob 64014]), (64014, .arr 57 4 []), (64005, .var [.d (i64 p), .d (i64 3), .ob 64015]), (64015, .arr 57 4 (terms ts))]⟩

set_option maxHeartbeats 1000000 in
set_option maxRecDepth 4000 in
theorem vandermonde_ok (p d : Int) (hp : Pr p) (hd : 1 ≤ d ∧ d ≤ 3) : CallOK Go.Proofs.Try.prog 70 [.one (i64 p), .one (i64 d)] (po p d (vanT p d)) := by
  have hF := fnOk 37 [.cell 4 28]
  refine callOK hF 60 Go.Proofs.Try.func70 rfl rfl rfl (by decide) (by simp) rfl ?_
  intro w0 hw
  have S := @vc_sound w0 _ hF ⟨(po p d (vanT p d)), []⟩ Go.Proofs.Try.f70 rfl (by simp)
  have hpp := hp.pos
  have c0 := constant_ok p d 1 (by omega) (by omega)
  rw [mono_sum (by omega)] at c0
  have l0 := letter_ok p d 0 (by omega) (by omega) (by omega)
  have l1 := letter_ok p d 1 (by omega) (by omega) (by omega)
  have l2 := letter_ok p d 2 (by omega) (by omega) (by omega)
  rw [mono_sum (by omega)] at l0 l1 l2
  have f01 := add_ok p d p d (p - 1) (mono p (unE 0) 1) (mono p (unE 1) 1) (by omega) (by omega) (mono_can (by omega) _ _) (mono_can (by omega) _ _) (Nat.le_trans (mono_len _ _ _) (by omega)) (Nat.le_trans (mono_len _ _ _) (by omega)) (by omega) (by omega)
  rw [fct_plus hp (by omega)] at f01
  have f02 := add_ok p d p d (p - 1) (mono p (unE 0) 1) (mono p (unE 2) 1) (by omega) (by omega) (mono_can (by omega) _ _) (mono_can (by omega) _ _) (Nat.le_trans (mono_len _ _ _) (by omega)) (Nat.le_trans (mono_len _ _ _) (by omega)) (by omega) (by omega)
  rw [fct_plus hp (by omega)] at f02
  have f12 := add_ok p d p d (p - 1) (mono p (unE 1) 1) (mono p (unE 2) 1) (by omega) (by omega) (mono_can (by omega) _ _) (mono_can (by omega) _ _) (Nat.le_trans (mono_len _ _ _) (by omega)) (Nat.le_trans (mono_len _ _ _) (by omega)) (by omega) (by omega)
  rw [fct_plus hp (by omega)] at f12
  have m1 := mul_ok p d p d (van1 p) (fct p 0 1) (by omega) (by omega) (van1_ok (by omega)).1 (fct_can (by omega) _ _) (Nat.le_trans (van1_ok (by omega)).2 (by omega)) (Nat.le_trans (fct_len _ _ _) (by omega))
  have m2 := mul_ok p d p d (van2 p) (fct p 0 2) (by omega) (by omega) (van2_ok (by omega)).1 (fct_can (by omega) _ _) (Nat.le_trans (van2_ok (by omega)).2 (by omega)) (Nat.le_trans (fct_len _ _ _) (by omega))
  have m3 := mul_ok p d p d (van3 p) (fct p 1 2) (by omega) (by omega) (van3_ok (by omega)).1 (fct_can (by omega) _ _) (Nat.le_trans (van3_ok (by omega)).2 (by omega)) (Nat.le_trans (fct_len _ _ _) (by omega))
  rw [show mono p ⟨0, 0, 0⟩ 1 = van1 p from rfl] at c0
  rw [show mulT p (van1 p) (fct p 0 1) = van2 p from rfl] at m1
  rw [show mulT p (van2 p) (fct p 0 2) = van3 p from rfl] at m2
  rw [show mulT p (van3 p) (fct p 1 2) = van4 p from rfl] at m3
  generalize mono p (unE 0) 1 = x0 at *
  generalize mono p (unE 1) 1 = x1 at *
  generalize mono p (unE 2) 1 = x2 at *
  generalize fct p 0 1 = y1 at *
  generalize fct p 0 2 = y2 at *
  generalize fct p 1 2 = y3 at *
  have hd' : d = 1 ∨ d = 2 ∨ d = 3 := by omega
  have hw1 : IntKind.i64.wrap (p - 1) = p - 1 := wrap64 (by omega) (by omega)
  rcases hd' with rfl | rfl | rfl <;> simp only [vanT] at S ⊢ <;> simp at S ⊢
  all_goals
    refine CallW.ok (by decide) (by simp) c0 (by simp) (S 60 _ _ ?_)
    simp
    refine J.rounds 4 (LpW.step (S 60 _ _ ?_))
    simp
    refine J.rounds 4 (LpW.step (S 60 _ _ ?_))
    simp
  · refine LpW.inv (LpW.step (S 60 _ _ ?_))
    simp
  · refine J.dr hF mixed 12 [[], [], [], [], [1, 2, 3], [], [], [], [1, 2, 3, 4, 5, 6, 7], [], [9], [1, 2, 3, 4, 5, 6, 7, 8, 9, 10], [0, 1, 2, 3, 4, 5, 6, 7, 8, 9, 10, 11], [0, 1, 2, 3, 4, 5, 6, 7, 8, 9, 10, 11, 12]] [[22, 23, 24, 25, 26, 27, 28, 29, 30, 31, 32, 33], [22, 23, 24, 25, 26, 27, 28, 29, 30, 31, 32, 33], [22, 23, 24, 25, 26, 27, 28, 29, 30, 31, 32, 33], [22, 23, 24, 25, 26, 27, 28, 29, 30, 31, 32, 33], [22, 26, 27, 28, 29, 30, 31, 32, 33], [22, 23, 24, 25, 26, 27, 28, 29, 30, 31, 32, 33], [22, 23, 24, 25, 26, 27, 28, 29, 30, 31, 32, 33], [22, 23, 24, 25, 26, 27, 28, 29, 30, 31, 32, 33], [22, 30, 31, 32, 33], [22, 23, 24, 25, 26, 27, 28, 29, 30, 31, 32, 33], [22, 23, 24, 25, 26, 27, 28, 29, 30, 32, 33], [22, 33]] (by decide) ?_
    simp
    refine DrC.ok hF (by rfl) (by simp) l0 (by simp) (by simp) ?_
    simp [hw1]
    refine DrC.ok hF (by rfl) (by simp) l1 (by simp) (by simp) ?_
    simp [hw1]
    refine DrC.ok hF (by rfl) (by simp) f01 (by simp) (by simp) ?_
    simp
    refine S 60 _ _ ?_
    simp
    refine CallW.ok (by decide) (by simp) m1 (by simp) (S 60 _ _ ?_)
    simp
    refine LpW.inv (LpW.step (S 60 _ _ ?_))
    simp
    refine LpW.inv (LpW.step (S 60 _ _ ?_))
    simp
    refine J.rounds 4 (LpW.step (S 60 _ _ ?_))
    simp
    refine LpW.inv (LpW.step (S 60 _ _ ?_))
    simp
  · refine J.dr hF mixed 12 [[], [], [], [], [1, 2, 3], [], [], [], [1, 2, 3, 4, 5, 6, 7], [], [9], [1, 2, 3, 4, 5, 6, 7, 8, 9, 10], [0, 1, 2, 3, 4, 5, 6, 7, 8, 9, 10, 11], [0, 1, 2, 3, 4, 5, 6, 7, 8, 9, 10, 11, 12]] [[22, 23, 24, 25, 26, 27, 28, 29, 30, 31, 32, 33], [22, 23, 24, 25, 26, 27, 28, 29, 30, 31, 32, 33], [22, 23, 24, 25, 26, 27, 28, 29, 30, 31, 32, 33], [22, 23, 24, 25, 26, 27, 28, 29, 30, 31, 32, 33], [22, 26, 27, 28, 29, 30, 31, 32, 33], [22, 23, 24, 25, 26, 27, 28, 29, 30, 31, 32, 33], [22, 23, 24, 25, 26, 27, 28, 29, 30, 31, 32, 33], [22, 23, 24, 25, 26, 27, 28, 29, 30, 31, 32, 33], [22, 30, 31, 32, 33], [22, 23, 24, 25, 26, 27, 28, 29, 30, 31, 32, 33], [22, 23, 24, 25, 26, 27, 28, 29, 30, 32, 33], [22, 33]] (by decide) ?_
    simp
    refine DrC.ok hF (by rfl) (by simp) l0 (by simp) (by simp) ?_
    simp [hw1]
    refine DrC.ok hF (by rfl) (by simp) l1 (by simp) (by simp) ?_
    simp [hw1]
    refine DrC.ok hF (by rfl) (by simp) f01 (by simp) (by simp) ?_
    simp
    refine S 60 _ _ ?_
    simp
    refine CallW.ok (by decide) (by simp) m1 (by simp) (S 60 _ _ ?_)
    simp
    refine LpW.inv (LpW.step (J.clean hw (vanI p 0 2 (van2 p)) (by simp) (S 60 _ _ ?_)))
    simp
    refine J.dr hF mixed 12 [[], [], [], [], [1, 2, 3], [], [], [], [1, 2, 3, 4, 5, 6, 7], [], [9], [1, 2, 3, 4, 5, 6, 7, 8, 9, 10], [0, 1, 2, 3, 4, 5, 6, 7, 8, 9, 10, 11], [0, 1, 2, 3, 4, 5, 6, 7, 8, 9, 10, 11, 12]] [[22, 23, 24, 25, 26, 27, 28, 29, 30, 31, 32, 33], [22, 23, 24, 25, 26, 27, 28, 29, 30, 31, 32, 33], [22, 23, 24, 25, 26, 27, 28, 29, 30, 31, 32, 33], [22, 23, 24, 25, 26, 27, 28, 29, 30, 31, 32, 33], [22, 26, 27, 28, 29, 30, 31, 32, 33], [22, 23, 24, 25, 26, 27, 28, 29, 30, 31, 32, 33], [22, 23, 24, 25, 26, 27, 28, 29, 30, 31, 32, 33], [22, 23, 24, 25, 26, 27, 28, 29, 30, 31, 32, 33], [22, 30, 31, 32, 33], [22, 23, 24, 25, 26, 27, 28, 29, 30, 31, 32, 33], [22, 23, 24, 25, 26, 27, 28, 29, 30, 32, 33], [22, 33]] (by decide) ?_
    simp
    refine DrC.ok hF (by rfl) (by simp) l0 (by simp) (by simp) ?_
    simp [hw1]
    refine DrC.ok hF (by rfl) (by simp) l2 (by simp) (by simp) ?_
    simp [hw1]
    refine DrC.ok hF (by rfl) (by simp) f02 (by simp) (by simp) ?_
    simp
    refine S 60 _ _ ?_
    simp
    refine CallW.ok (by decide) (by simp) m2 (by simp) (S 60 _ _ ?_)
    simp
    refine LpW.inv (LpW.step (S 60 _ _ ?_))
    simp
    refine LpW.inv (LpW.step (S 60 _ _ ?_))
    simp
    refine J.rounds 4 (LpW.step (J.clean hw (vanI p 1 2 (van3 p)) (by simp) (S 60 _ _ ?_)))
    simp
    refine J.dr hF mixed 12 [[], [], [], [], [1, 2, 3], [], [], [], [1, 2, 3, 4, 5, 6, 7], [], [9], [1, 2, 3, 4, 5, 6, 7, 8, 9, 10], [0, 1, 2, 3, 4, 5, 6, 7, 8, 9, 10, 11], [0, 1, 2, 3, 4, 5, 6, 7, 8, 9, 10, 11, 12]] [[22, 23, 24, 25, 26, 27, 28, 29, 30, 31, 32, 33], [22, 23, 24, 25, 26, 27, 28, 29, 30, 31, 32, 33], [22, 23, 24, 25, 26, 27, 28, 29, 30, 31, 32, 33], [22, 23, 24, 25, 26, 27, 28, 29, 30, 31, 32, 33], [22, 26, 27, 28, 29, 30, 31, 32, 33], [22, 23, 24, 25, 26, 27, 28, 29, 30, 31, 32, 33], [22, 23, 24, 25, 26, 27, 28, 29, 30, 31, 32, 33], [22, 23, 24, 25, 26, 27, 28, 29, 30, 31, 32, 33], [22, 30, 31, 32, 33], [22, 23, 24, 25, 26, 27, 28, 29, 30, 31, 32, 33], [22, 23, 24, 25, 26, 27, 28, 29, 30, 32, 33], [22, 33]] (by decide) ?_
    simp
    refine DrC.ok hF (by rfl) (by simp) l1 (by simp) (by simp) ?_
    simp [hw1]
    refine DrC.ok hF (by rfl) (by simp) l2 (by simp) (by simp) ?_
    simp [hw1]
    refine DrC.ok hF (by rfl) (by simp) f12 (by simp) (by simp) ?_
    simp
    refine S 60 _ _ ?_
    simp
    refine CallW.ok (by decide) (by simp) m3 (by simp) (S 60 _ _ ?_)
    simp
    refine LpW.inv (LpW.step (S 60 _ _ ?_))
    simp
    refine LpW.inv (LpW.step (S 60 _ _ ?_))
    simp
    refine J.rounds 4 (LpW.step (S 60 _ _ ?_))
    simp
    refine LpW.inv (LpW.step (S 60 _ _ ?_))
    simp

set_option maxHeartbeats 1000000 in
set_option maxRecDepth 4000 in
theorem l08Vandermonde_ok (p d : Int) (hp : Pr p) (hd : 1 ≤ d ∧ d ≤ 3) : CallOK Go.Proofs.Try.prog 62 [.one (i64 p), .one (i64 d)] (po p d (vanT p d)) := by
  have hF := fnOk 45 [.cell 4 28]
  refine callOK hF 60 Go.Proofs.Try.func62 rfl rfl rfl (by decide) (by simp) rfl ?_
  intro w0 hw
  have S := @vc_sound w0 _ hF ⟨(po p d (vanT p d)), []⟩ Go.Proofs.Try.f62 rfl (by simp)
  have hpp := hp.pos
  have c0 := l01One_ok p d ⟨0, 0, 0⟩ 1 (by omega) (by omega) (by omega) (by omega)
  have l0 := l01One_ok p d (unE 0) 1 (by omega) (by omega) (by omega) (by omega)
  have l1 := l01One_ok p d (unE 1) 1 (by omega) (by omega) (by omega) (by omega)
  have l2 := l01One_ok p d (unE 2) 1 (by omega) (by omega) (by omega) (by omega)
  have e0 := l08Letter_ok 0 (by omega)
  have e1 := l08Letter_ok 1 (by omega)
  have e2 := l08Letter_ok 2 (by omega)
  have b01 := coef_bound (show 0 < p by omega) (mono_can (show 0 < p by omega) (unE 0) 1) (unE 1)
  have f01 := l01Put_ok p d (mono p (unE 0) 1) (unE 1) (p - 1) (Nat.le_trans (mono_len _ _ _) (by omega)) (by omega) (by omega) (by omega) (by omega)
  rw [show putT p (mono p (unE 0) 1) (unE 1) (p - 1) = fct p 0 1 from rfl] at f01
  have b02 := coef_bound (show 0 < p by omega) (mono_can (show 0 < p by omega) (unE 0) 1) (unE 2)
  have f02 := l01Put_ok p d (mono p (unE 0) 1) (unE 2) (p - 1) (Nat.le_trans (mono_len _ _ _) (by omega)) (by omega) (by omega) (by omega) (by omega)
  rw [show putT p (mono p (unE 0) 1) (unE 2) (p - 1) = fct p 0 2 from rfl] at f02
  have b12 := coef_bound (show 0 < p by omega) (mono_can (show 0 < p by omega) (unE 1) 1) (unE 2)
  have f12 := l01Put_ok p d (mono p (unE 1) 1) (unE 2) (p - 1) (Nat.le_trans (mono_len _ _ _) (by omega)) (by omega) (by omega) (by omega) (by omega)
  rw [show putT p (mono p (unE 1) 1) (unE 2) (p - 1) = fct p 1 2 from rfl] at f12
  rw [show putT p [] ⟨0, 0, 0⟩ 1 = mono p ⟨0, 0, 0⟩ 1 from rfl] at c0
  rw [show putT p [] (unE 0) 1 = mono p (unE 0) 1 from rfl] at l0
  rw [show putT p [] (unE 1) 1 = mono p (unE 1) 1 from rfl] at l1
  rw [show putT p [] (unE 2) 1 = mono p (unE 2) 1 from rfl] at l2
  have g1 := deg_fct hp (i := 0) (k := 1) (by omega)
  have h1 := deg_van1 hp
  have m1 := l01Times_ok p d p d (van1 p) (fct p 0 1) (by omega) (by omega) (van1_ok (by omega)).1 (fct_can (by omega) _ _) (Nat.le_trans (van1_ok (by omega)).2 (by omega)) (Nat.le_trans (fct_len _ _ _) (by omega)) h1.2 g1.2 (by omega) (by omega) (by omega) (by omega) (by omega)
  have g2 := deg_fct hp (i := 0) (k := 2) (by omega)
  have h2 := deg_van2 hp
  have m2 := l01Times_ok p d p d (van2 p) (fct p 0 2) (by omega) (by omega) (van2_ok (by omega)).1 (fct_can (by omega) _ _) (Nat.le_trans (van2_ok (by omega)).2 (by omega)) (Nat.le_trans (fct_len _ _ _) (by omega)) h2.2 g2.2 (by omega) (by omega) (by omega) (by omega) (by omega)
  have g3 := deg_fct hp (i := 1) (k := 2) (by omega)
  have h3 := deg_van3 hp
  have m3 := l01Times_ok p d p d (van3 p) (fct p 1 2) (by omega) (by omega) (van3_ok (by omega)).1 (fct_can (by omega) _ _) (Nat.le_trans (van3_ok (by omega)).2 (by omega)) (Nat.le_trans (fct_len _ _ _) (by omega)) h3.2 g3.2 (by omega) (by omega) (by omega) (by omega) (by omega)
  rw [show mono p ⟨0, 0, 0⟩ 1 = van1 p from rfl] at c0
  rw [show mulT p (van1 p) (fct p 0 1) = van2 p from rfl] at m1
  rw [show mulT p (van2 p) (fct p 0 2) = van3 p from rfl] at m2
  rw [show mulT p (van3 p) (fct p 1 2) = van4 p from rfl] at m3
  generalize mono p (unE 0) 1 = x0 at *
  generalize mono p (unE 1) 1 = x1 at *
  generalize mono p (unE 2) 1 = x2 at *
  generalize fct p 0 1 = y1 at *
  generalize fct p 0 2 = y2 at *
  generalize fct p 1 2 = y3 at *
  have hd' : d = 1 ∨ d = 2 ∨ d = 3 := by omega
  have hw1 : IntKind.i64.wrap (p - 1) = p - 1 := wrap64 (by omega) (by omega)
  rcases hd' with rfl | rfl | rfl <;> simp only [vanT] at S ⊢ <;> simp at S ⊢
  all_goals
    refine CallW.ok (by decide) (by simp) c0 (by simp) (S 60 _ _ ?_)
    simp
    refine J.rounds 4 (LpW.step (S 60 _ _ ?_))
    simp
    refine J.rounds 4 (LpW.step (S 60 _ _ ?_))
    simp
  · refine LpW.inv (LpW.step (S 60 _ _ ?_))
    simp
  · refine CallW.ok (by decide) (by simp) e0 (by simp) (S 60 _ _ ?_)
    simp [hw1]
    refine CallW.ok (by decide) (by simp) l0 (by simp) (S 60 _ _ ?_)
    simp [hw1]
    refine CallW.ok (by decide) (by simp) e1 (by simp) (S 60 _ _ ?_)
    simp [hw1]
    refine CallW.ok (by decide) (by simp) f01 (by simp) (S 60 _ _ ?_)
    simp [hw1]
    refine CallW.ok (by decide) (by simp) m1 (by simp) (S 60 _ _ ?_)
    simp [hw1]
    refine LpW.inv (LpW.step (S 60 _ _ ?_))
    simp
    refine LpW.inv (LpW.step (S 60 _ _ ?_))
    simp
    refine J.rounds 4 (LpW.step (S 60 _ _ ?_))
    simp
    refine LpW.inv (LpW.step (S 60 _ _ ?_))
    simp
  · refine CallW.ok (by decide) (by simp) e0 (by simp) (S 60 _ _ ?_)
    simp [hw1]
    refine CallW.ok (by decide) (by simp) l0 (by simp) (S 60 _ _ ?_)
    simp [hw1]
    refine CallW.ok (by decide) (by simp) e1 (by simp) (S 60 _ _ ?_)
    simp [hw1]
    refine CallW.ok (by decide) (by simp) f01 (by simp) (S 60 _ _ ?_)
    simp [hw1]
    refine CallW.ok (by decide) (by simp) m1 (by simp) (S 60 _ _ ?_)
    simp [hw1]
    refine LpW.inv (LpW.step (J.clean hw (vanS p 0 2 (van2 p)) (by simp) (S 60 _ _ ?_)))
    simp
    refine CallW.ok (by decide) (by simp) e0 (by simp) (S 60 _ _ ?_)
    simp [hw1]
    refine CallW.ok (by decide) (by simp) l0 (by simp) (S 60 _ _ ?_)
    simp [hw1]
    refine CallW.ok (by decide) (by simp) e2 (by simp) (S 60 _ _ ?_)
    simp [hw1]
    refine CallW.ok (by decide) (by simp) f02 (by simp) (S 60 _ _ ?_)
    simp [hw1]
    refine CallW.ok (by decide) (by simp) m2 (by simp) (S 60 _ _ ?_)
    simp [hw1]
    refine LpW.inv (LpW.step (S 60 _ _ ?_))
    simp
    refine LpW.inv (LpW.step (S 60 _ _ ?_))
    simp
    refine J.rounds 4 (LpW.step (J.clean hw (vanS p 1 2 (van3 p)) (by simp) (S 60 _ _ ?_)))
    simp
    refine CallW.ok (by decide) (by simp) e1 (by simp) (S 60 _ _ ?_)
    simp [hw1]
    refine CallW.ok (by decide) (by simp) l1 (by simp) (S 60 _ _ ?_)
    simp [hw1]
    refine CallW.ok (by decide) (by simp) e2 (by simp) (S 60 _ _ ?_)
    simp [hw1]
    refine CallW.ok (by decide) (by simp) f12 (by simp) (S 60 _ _ ?_)
    simp [hw1]
    refine CallW.ok (by decide) (by simp) m3 (by simp) (S 60 _ _ ?_)
    simp [hw1]
    refine LpW.inv (LpW.step (S 60 _ _ ?_))
    simp
    refine LpW.inv (LpW.step (S 60 _ _ ?_))
    simp
    refine J.rounds 4 (LpW.step (S 60 _ _ ?_))
    simp
    refine LpW.inv (LpW.step (S 60 _ _ ?_))
    simp

def vandR (p d : Int) : RV := if Pr p ∧ 1 ≤ d ∧ d ≤ 3 then pres p d (vanT p d) 0 else pres 0 0 [] 2
theorem vanT_ok {p : Int} (hp : 0 < p) (d : Int) : Can p (vanT p d) ∧ (vanT p d).length ≤ 8 := by
  have h1 := van1_ok hp
  have h2 := van2_ok hp
  have h4 := van4_ok hp
  unfold vanT
  split
  · exact ⟨h1.1, by omega⟩
  · split
    · exact ⟨h2.1, by omega⟩
    · exact h4
theorem vandR_small (p d : Int) : PresS (vandR p d) := by
  unfold vandR
  split
  · rename_i h
    have := (vanT_ok (p := p) (by have := h.1.pos; omega) d).2
    exact ⟨_, _, _, _, rfl, by omega⟩
  · exact ⟨_, _, _, _, rfl, by simp⟩

end Go.Sm

namespace Go.Sm
open Go.RowKit

def TmOk (p d : Int) (t : Tm) : Prop := InV d t.e ∧ 1 ≤ t.v ∧ t.v < p
instance (p d : Int) (t : Tm) : Decidable (TmOk p d t) := by unfold TmOk; infer_instance
/-- A polynomial. -/
def GoodP (p d : Int) (ts : List Tm) : Prop := Pr p ∧ (1 ≤ d ∧ d ≤ 3) ∧ (∀ t ∈ ts, TmOk p d t) ∧ Asc ts
noncomputable instance (p d : Int) (ts : List Tm) : Decidable (GoodP p d ts) := Classical.propDecidable _

/-- What is asked of a term at its place. -/
def StepOk (p d : Int) (ts : List Tm) (i : Nat) : Prop := ∀ t, ts[i]? = some t → TmOk p d t ∧ ∀ j u, i = j + 1 → ts[j]? = some u → cmpE u.e t.e < 0
theorem cmpE_trans {x y z : Ex} (h1 : cmpE x y < 0) (h2 : cmpE y z < 0) : cmpE x z < 0 := by
  rw [cmpE_key] at *; omega
theorem asc_adj {ts : List Tm} (h : ∀ i t u, ts[i + 1]? = some t → ts[i]? = some u → cmpE u.e t.e < 0) : Asc ts := by
  induction ts with
  | nil => exact List.Pairwise.nil
  | cons x ts ih =>
    have ih := ih fun i t u h1 h2 => h (i + 1) t u (by simpa using h1) (by simpa using h2)
    refine List.pairwise_cons.2 ⟨fun y hy => ?_, ih⟩
    cases ts with
    | nil => cases hy
    | cons z ts =>
      have hz := h 0 z x (by simp) (by simp)
      rcases List.mem_cons.1 hy with rfl | hy
      · exact hz
      · exact cmpE_trans hz ((List.pairwise_cons.1 ih).1 y hy)
theorem asc_get {ts : List Tm} (h : Asc ts) {i j : Nat} {t u : Tm} (ht : ts[i]? = some t) (hu : ts[j]? = some u) (hij : i < j) : cmpE t.e u.e < 0 := by
  obtain ⟨h1, rfl⟩ := List.getElem?_eq_some_iff.1 ht
  obtain ⟨h2, rfl⟩ := List.getElem?_eq_some_iff.1 hu
  exact List.pairwise_iff_getElem.1 h i j h1 h2 hij
theorem goodP_iff {p d : Int} {ts : List Tm} (hp : Pr p) (hd : 1 ≤ d ∧ d ≤ 3) : GoodP p d ts ↔ ∀ i < ts.length, StepOk p d ts i := by
  constructor
  · rintro ⟨_, _, h3, h4⟩ i _ t ht
    refine ⟨h3 t (List.mem_of_getElem? ht), fun j u hj hu => ?_⟩
    exact asc_get h4 hu ht (by omega)
  · intro h
    refine ⟨hp, hd, fun t ht => ?_, asc_adj fun i t u h1 h2 => ?_⟩
    · obtain ⟨i, hi, rfl⟩ := List.getElem_of_mem ht
      exact (h i hi _ (List.getElem?_eq_getElem hi)).1
    · have hi := (List.getElem?_eq_some_iff.1 h1).1
      exact (h (i + 1) hi t h1).2 i u rfl h2
theorem goodP_false {p d : Int} {ts : List Tm} {i : Nat} {t : Tm} (ht : ts[i]? = some t) (h : ¬ TmOk p d t) : ¬ GoodP p d ts := fun hg => h (hg.2.2.1 t (List.mem_of_getElem? ht))
theorem goodP_false2 {p d : Int} {ts : List Tm} {i j : Nat} {t u : Tm} (ht : ts[i]? = some t) (hu : ts[j]? = some u) (hj : i = j + 1) (h : ¬ cmpE u.e t.e < 0) : ¬ GoodP p d ts := fun hg => h (asc_get hg.2.2.2 hu ht (by omega))
theorem goodP_can {p d : Int} {ts : List Tm} (h : GoodP p d ts) : Can p ts := ⟨h.2.2.2, fun t ht => (h.2.2.1 t ht).2⟩

/-- All monomials. -/
def allE : List Ex := (List.range 13).flatMap fun a => (List.range 13).flatMap fun b => ((List.range 13).filter fun c => a + b + c ≤ 12).map fun c => ⟨UInt8.ofNat a, UInt8.ofNat b, UInt8.ofNat c⟩
theorem allE_length : allE.length = 455 := by decide +kernel
theorem allE_mem {d : Int} {e : Ex} (h : InV d e) : e ∈ allE := by
  obtain ⟨_, _, h3⟩ := h
  unfold Ex.deg at h3
  refine List.mem_flatMap.2 ⟨e.a.toNat, List.mem_range.2 (by omega), List.mem_flatMap.2 ⟨e.b.toNat, List.mem_range.2 (by omega), List.mem_map.2 ⟨e.c.toNat, List.mem_filter.2 ⟨List.mem_range.2 (by omega), by simp; omega⟩, ?_⟩⟩⟩
  cases e; simp
theorem nodup_subset {α : Type} [DecidableEq α] : ∀ {xs ys : List α}, xs.Nodup → (∀ x ∈ xs, x ∈ ys) → xs.length ≤ ys.length
  | [], _, _, _ => by simp
  | x :: xs, ys, hn, hs => by
    obtain ⟨h1, h2⟩ := List.nodup_cons.1 hn
    have hx := hs x (List.mem_cons_self ..)
    have := nodup_subset (ys := ys.erase x) h2 fun z hz => (List.mem_erase_of_ne (fun e => h1 (by rw [← e]; exact hz))).2 (hs z (List.mem_cons_of_mem _ hz))
    rw [List.length_erase_of_mem hx] at this
    have hp := List.length_pos_of_mem hx
    simp only [List.length_cons]; omega
theorem goodP_len {p d : Int} {ts : List Tm} (h : GoodP p d ts) : ts.length ≤ 455 := by
  have h1 := nodup_subset (ys := allE) (asc_nodup h.2.2.2) fun e he => by
    obtain ⟨t, ht, rfl⟩ := List.mem_map.1 he
    exact allE_mem (h.2.2.1 t ht).1
  rw [allE_length, List.length_map] at h1
  exact h1

set_option maxHeartbeats 2000000 in
set_option maxRecDepth 4000 in
theorem IsPoly_ok (p d : Int) (ts : List Tm) (hl : ts.length ≤ 1048576) : CallOK Go.Proofs.Try.prog 27 [pv p d ts] (.one (bo (decide (GoodP p d ts)))) := by
  have hF := fnOk 69 [.tmp 2]
  refine callOK hF 60 Go.Proofs.Try.func27 rfl rfl rfl (by decide) (by simp) rfl ?_
  intro w0 hw
  have S := @vc_sound w0 _ hF ⟨(.one (bo (decide (GoodP p d ts)))), []⟩ Go.Proofs.Try.f27 rfl (by simp)
  have c1 := isPrime_ok p
  have c2 := isVars_ok d
  generalize hb : decide (GoodP p d ts) = b at S ⊢
  by_cases hp : Pr p
  · rw [decide_eq_true hp] at c1
    by_cases hd : 1 ≤ d ∧ d ≤ 3
    · rw [decide_eq_true hd] at c2
      simp
      refine CallW.ok (by decide) (by simp) c1 (by simp) (S 60 _ _ ?_)
      simp
      refine CallW.ok (by decide) (by simp) c2 (by simp) (S 60 _ _ ?_)
      simp
      refine J.loop hw (fun i : Nat => ⟨[(1, .c (.ref 64001 0)), (2, .c (.d (bo false))), (17, .c (.d (vTerms ts))), (18, .c (.d (i64 ts.length))), (19, .c (.d (i64 i)))], [(64001, .var [.d (i64 p), .d (i64 d), .d (vTerms ts)])]⟩)
        (fun i => i ≤ ts.length ∧ ∀ j < i, StepOk p d ts j) (fun i => ts.length - i) 0 (by simp) (by simp) ?_
      rintro i ⟨hi, hall⟩
      refine S 8 _ _ ?_
      simp
      refine ⟨fun hlt => ?_, fun hge => ?_⟩
      · obtain ⟨t, ht⟩ : ∃ t, ts[i]? = some t := ⟨ts[i], List.getElem?_eq_getElem hlt⟩
        have c3 := degree_ok t.e
        refine S 6 _ _ ?_
        simp
        refine ⟨hlt, fun x hx => ?_⟩
        obtain rfl : t = x := Option.some.inj (ht.symm.trans hx)
        clear hx
        refine S 60 _ _ ?_
        simp
        refine J.dr hF mixed 29 [[], [0], [0, 1], [0, 1, 2], [0, 1, 2, 3], [0, 1, 2, 3, 4], [0, 1, 2, 3, 4, 5], [0, 1, 2, 3, 4, 5, 6], [0, 1, 2, 3, 4, 5, 6, 7], [0, 1, 2, 3, 4, 5, 6, 7, 8], [0, 1, 2, 3, 4, 5, 6, 7, 8, 9], [0, 1, 2, 3, 4, 5, 6, 7, 8, 9, 10], [0, 1, 2, 3, 4, 5, 6, 7, 8, 9], [0, 1, 2, 3, 4, 5, 6, 7, 8, 9, 12], [0, 1, 2, 3, 4, 5, 6, 7, 8, 9, 10, 11, 12, 13], [0, 1, 2, 3, 4, 5, 6, 7, 8, 9, 10, 11, 12, 13, 14], [0, 1, 2, 3, 4, 5, 6, 7, 8, 9, 10, 11, 12, 13, 14, 15], [0, 1, 2, 3, 4, 5, 6, 7, 8, 9, 10, 11, 12, 13, 14, 15, 16], [0, 1, 2, 3, 4, 5, 6, 7, 8, 9, 10, 11, 12, 13, 14, 15, 16, 17], [0, 1, 2, 3, 4, 5, 6, 7, 8, 9, 10, 11, 12, 13, 14, 15, 16, 17, 18], [0, 1, 2, 3, 4, 5, 6, 7, 8, 9, 10, 11, 12, 13, 14, 15, 16, 17, 18, 19], [0, 1, 2, 3, 4, 5, 6, 7, 8, 9, 10, 11, 12, 13, 14, 15, 16, 17, 18, 19, 20], [0, 1, 2, 3, 4, 5, 6, 7, 8, 9, 10, 11, 12, 13, 14, 15, 16, 17, 18, 19], [0, 1, 2, 3, 4, 5, 6, 7, 8, 9, 10, 11, 12, 13, 14, 15, 16, 17, 18, 19, 22], [0, 1, 2, 3, 4, 5, 6, 7, 8, 9, 10, 11, 12, 13, 14, 15, 16, 17, 18, 19, 20, 21, 22, 23], [0, 1, 2, 3, 4, 5, 6, 7, 8, 9, 10, 11, 12, 13, 14, 15, 16, 17, 18, 19, 20, 21, 22, 23, 24], [0, 1, 2, 3, 4, 5, 6, 7, 8, 9, 10, 11, 12, 13, 14, 15, 16, 17, 18, 19, 20, 21, 22, 23, 24, 25], [0, 1, 2, 3, 4, 5, 6, 7, 8, 9, 10, 11, 12, 13, 14, 15, 16, 17, 18, 19], [0, 1, 2, 3, 4, 5, 6, 7, 8, 9, 10, 11, 12, 13, 14, 15, 16, 17, 18, 19, 27], [0, 1, 2, 3, 4, 5, 6, 7, 8, 9, 10, 11, 12, 13, 14, 15, 16, 17, 18, 19, 20, 21, 22, 23, 24, 25, 26, 27, 28], [0, 1, 2, 3, 4, 5, 6, 7, 8, 9, 10, 11, 12, 13, 14, 15, 16, 17, 18, 19, 20, 21, 22, 23, 24, 25, 26, 27, 28, 29], [0, 1, 2, 3, 4, 5, 6, 7, 8, 9, 10, 11, 12, 13, 14, 15, 16, 17, 18, 19, 20, 21, 22, 23, 24, 25, 26, 27, 28, 29, 30], [0, 1, 2, 3, 4, 5, 6, 7, 8, 9, 10, 11, 12, 13, 14, 15, 16, 17, 18, 19, 20, 21, 22, 23, 24, 25, 26, 27, 28, 29, 30, 31]] [[24, 25, 26, 27, 28, 29, 30, 31, 32, 33, 34, 35, 36, 37, 38, 39, 40, 41, 42, 43, 44, 45, 46, 47, 48, 49, 50, 51, 52], [25, 26, 27, 28, 29, 30, 31, 32, 33, 34, 35, 36, 37, 38, 39, 40, 41, 42, 43, 44, 45, 46, 47, 48, 49, 50, 51, 52], [26, 27, 28, 29, 30, 31, 32, 33, 34, 35, 36, 37, 38, 39, 40, 41, 42, 43, 44, 45, 46, 47, 48, 49, 50, 51, 52], [27, 28, 29, 30, 31, 32, 33, 34, 35, 36, 37, 38, 39, 40, 41, 42, 43, 44, 45, 46, 47, 48, 49, 50, 51, 52], [28, 29, 30, 31, 32, 33, 34, 35, 36, 37, 38, 39, 40, 41, 42, 43, 44, 45, 46, 47, 48, 49, 50, 51, 52], [29, 30, 31, 32, 33, 34, 35, 36, 37, 38, 39, 40, 41, 42, 43, 44, 45, 46, 47, 48, 49, 50, 51, 52], [30, 31, 32, 33, 34, 35, 36, 37, 38, 39, 40, 41, 42, 43, 44, 45, 46, 47, 48, 49, 50, 51, 52], [31, 32, 33, 34, 35, 36, 37, 38, 39, 40, 41, 42, 43, 44, 45, 46, 47, 48, 49, 50, 51, 52], [32, 33, 34, 35, 36, 37, 38, 39, 40, 41, 42, 43, 44, 45, 46, 47, 48, 49, 50, 51, 52], [33, 34, 35, 36, 37, 38, 39, 40, 41, 42, 43, 44, 45, 46, 47, 48, 49, 50, 51, 52], [34, 35, 36, 37, 38, 39, 40, 41, 42, 43, 44, 45, 46, 47, 48, 49, 50, 51, 52], [35, 36, 37, 38, 39, 40, 41, 42, 43, 44, 45, 46, 47, 48, 49, 50, 51, 52], [34, 35, 36, 37, 38, 39, 40, 41, 42, 43, 44, 45, 46, 47, 48, 49, 50, 51, 52], [34, 35, 37, 38, 39, 40, 41, 42, 43, 44, 45, 46, 47, 48, 49, 50, 51, 52], [38, 39, 40, 41, 42, 43, 44, 45, 46, 47, 48, 49, 50, 51, 52], [39, 40, 41, 42, 43, 44, 45, 46, 47, 48, 49, 50, 51, 52], [40, 41, 42, 43, 44, 45, 46, 47, 48, 49, 50, 51, 52], [41, 42, 43, 44, 45, 46, 47, 48, 49, 50, 51, 52], [42, 43, 44, 45, 46, 47, 48, 49, 50, 51, 52], [43, 44, 45, 46, 47, 48, 49, 50, 51, 52], [44, 45, 46, 47, 48, 49, 50, 51, 52], [45, 46, 47, 48, 49, 50, 51, 52], [44, 45, 46, 47, 48, 49, 50, 51, 52], [44, 45, 47, 48, 49, 50, 51, 52], [48, 49, 50, 51, 52], [49, 50, 51, 52], [50, 51, 52], [44, 45, 46, 47, 48, 49, 50, 51, 52], [44, 45, 46, 47, 48, 49, 50, 52]] (by decide) ?_
        simp
        refine DrC.ok hF (by rfl) (by simp) c3 (by simp) (by simp) ?_
        have hb1 : ¬ TmOk p d t → b = false := fun h => by rw [← hb]; simp; exact goodP_false ht h
        by_cases h1 : t.e.deg ≤ 12
        · have k1 : ¬ 12 < t.e.deg := by omega
          by_cases h2 : 1 ≤ t.v
          · have k2 : ¬ t.v < 1 := by omega
            by_cases h3 : t.v < p
            · have k3 : ¬ p ≤ t.v := by omega
              have hstep : (∀ j u, i = j + 1 → ts[j]? = some u → cmpE u.e t.e < 0) → InV d t.e → StepOk p d ts i := fun h h' x hx => by
                obtain rfl : t = x := Option.some.inj (ht.symm.trans hx)
                exact ⟨⟨h', h2, h3⟩, h⟩
              have hnx : StepOk p d ts i → ∀ j < i + 1, StepOk p d ts j := fun h j hj => by
                by_cases e : j = i
                · rw [e]; exact h
                · exact hall j (by omega)
              have hdd : d = 1 ∨ d = 2 ∨ d = 3 := by omega
              have hcase : (i = 0 ∨ ∃ j u, i = j + 1 ∧ ts[j]? = some u ∧ cmpE u.e t.e < 0) ∨ ∃ j u, i = j + 1 ∧ ts[j]? = some u ∧ ¬ cmpE u.e t.e < 0 := by
                by_cases hi0 : i = 0
                · exact .inl (.inl hi0)
                · obtain ⟨j, rfl⟩ : ∃ j, i = j + 1 := ⟨i - 1, by omega⟩
                  obtain ⟨u, hu⟩ : ∃ u, ts[j]? = some u := ⟨ts[j], List.getElem?_eq_getElem (by omega)⟩
                  by_cases h : cmpE u.e t.e < 0
                  · exact .inl (.inr ⟨j, u, rfl, hu, h⟩)
                  · exact .inr ⟨j, u, rfl, hu, h⟩
              rcases hcase with hc | ⟨j, u, rfl, hu, h4⟩
              · have hprev : ∀ j u, i = j + 1 → ts[j]? = some u → cmpE u.e t.e < 0 := by
                  intro j u hj hu
                  rcases hc with rfl | ⟨j', u', rfl, hu', h⟩
                  · omega
                  · have : j' = j := by omega
                    subst this
                    rw [hu] at hu'
                    obtain rfl := Option.some.inj hu'
                    exact h
                rcases hc with rfl | ⟨j, u, rfl, hu, h4⟩
                · simp [k1, k2, k3]
                  refine S 60 _ _ ?_
                  simp
                  refine J.clean hw ⟨[(1, .c (.ref 64001 0)), (2, .c (.d (bo false))), (17, .c (.d (vTerms ts))), (18, .c (.d (i64 ts.length))), (19, .c (.d (i64 (0 : Nat)))), (4, .c (.ref 64004 0)), (5, .c (.d (i64 d)))], [(64001, .var [.d (i64 p), .d (i64 d), .d (vTerms ts)]), (64004, .var [.d (u8 t.e.a), .d (u8 t.e.b), .d (u8 t.e.c), .d (i64 t.v)])]⟩ (by simp) ?_
                  rcases hdd with rfl | rfl | rfl
                  · refine J.rounds 4 (LpW.step (S 60 _ _ ?_))
                    simp
                    refine ⟨fun hz => ?_, fun hz => ?_⟩
                    · have hb2 := hb1 fun h => hz (h.1.1 (by omega))
                      simp [hb2]
                    · refine LpW.inv (LpW.step (S 60 _ _ ?_))
                      simp
                      refine ⟨fun hy => ?_, fun hy => ?_⟩
                      · have hb2 := hb1 fun h => hy (h.1.2.1 (by omega))
                        simp [hb2]
                      · refine LpW.inv (LpW.step (S 60 _ _ ?_))
                        simp
                        exact Nxt.mk (0 + 1) ⟨by omega, hnx (hstep hprev ⟨fun _ => by simp_all, fun _ => by simp_all, h1⟩)⟩ (by simp [wrapS (i := 0) (n := ts.length) hlt (by omega)]) (by omega)
                  · refine J.rounds 4 (LpW.step (S 60 _ _ ?_))
                    simp
                    refine ⟨fun hy => ?_, fun hy => ?_⟩
                    · have hb2 := hb1 fun h => hy (h.1.2.1 (by omega))
                      simp [hb2]
                    · refine LpW.inv (LpW.step (S 60 _ _ ?_))
                      simp
                      exact Nxt.mk (0 + 1) ⟨by omega, hnx (hstep hprev ⟨fun h => absurd h (by omega), fun _ => by simp_all, h1⟩)⟩ (by simp [wrapS (i := 0) (n := ts.length) hlt (by omega)]) (by omega)
                  · refine J.rounds 4 (LpW.step (S 60 _ _ ?_))
                    simp
                    exact Nxt.mk (0 + 1) ⟨by omega, hnx (hstep hprev ⟨fun h => absurd h (by omega), fun h => absurd h (by omega), h1⟩)⟩ (by simp [wrapS (i := 0) (n := ts.length) hlt (by omega)]) (by omega)
                · have c4 := compareExps_ok u.e t.e
                  have hj0 : (0 : Int) < ((j + 1 : Nat) : Int) := by omega
                  have hwj : IntKind.i64.wrap (j : Int) = j := by rw [wrap64] <;> omega
                  have k4 : ¬ 0 ≤ cmpE u.e t.e := by omega
                  simp [k1, k2, k3, hj0, hwj]
                  refine ⟨by omega, fun x hx => ?_⟩
                  obtain rfl : u = x := Option.some.inj (hu.symm.trans hx)
                  refine S 60 _ _ ?_
                  simp
                  refine CallW.ok (by decide) (by simp) c4 (by simp) (S 60 _ _ ?_)
                  simp [k4]
                  refine J.clean hw ⟨[(1, .c (.ref 64001 0)), (2, .c (.d (bo false))), (17, .c (.d (vTerms ts))), (18, .c (.d (i64 ts.length))), (19, .c (.d (i64 (j + 1 : Nat)))), (4, .c (.ref 64004 0)), (5, .c (.d (i64 d)))], [(64001, .var [.d (i64 p), .d (i64 d), .d (vTerms ts)]), (64004, .var [.d (u8 t.e.a), .d (u8 t.e.b), .d (u8 t.e.c), .d (i64 t.v)])]⟩ (by simp) ?_
                  rcases hdd with rfl | rfl | rfl
                  · refine J.rounds 4 (LpW.step (S 60 _ _ ?_))
                    simp
                    refine ⟨fun hz => ?_, fun hz => ?_⟩
                    · have hb2 := hb1 fun h => hz (h.1.1 (by omega))
                      simp [hb2]
                    · refine LpW.inv (LpW.step (S 60 _ _ ?_))
                      simp
                      refine ⟨fun hy => ?_, fun hy => ?_⟩
                      · have hb2 := hb1 fun h => hy (h.1.2.1 (by omega))
                        simp [hb2]
                      · refine LpW.inv (LpW.step (S 60 _ _ ?_))
                        simp
                        exact Nxt.mk ((j + 1) + 1) ⟨by omega, hnx (hstep hprev ⟨fun _ => by simp_all, fun _ => by simp_all, h1⟩)⟩ (by simp; rw [wrap64] <;> omega) (by omega)
                  · refine J.rounds 4 (LpW.step (S 60 _ _ ?_))
                    simp
                    refine ⟨fun hy => ?_, fun hy => ?_⟩
                    · have hb2 := hb1 fun h => hy (h.1.2.1 (by omega))
                      simp [hb2]
                    · refine LpW.inv (LpW.step (S 60 _ _ ?_))
                      simp
                      exact Nxt.mk ((j + 1) + 1) ⟨by omega, hnx (hstep hprev ⟨fun h => absurd h (by omega), fun _ => by simp_all, h1⟩)⟩ (by simp; rw [wrap64] <;> omega) (by omega)
                  · refine J.rounds 4 (LpW.step (S 60 _ _ ?_))
                    simp
                    exact Nxt.mk ((j + 1) + 1) ⟨by omega, hnx (hstep hprev ⟨fun h => absurd h (by omega), fun h => absurd h (by omega), h1⟩)⟩ (by simp; rw [wrap64] <;> omega) (by omega)
              · have c4 := compareExps_ok u.e t.e
                have hj0 : (0 : Int) < ((j + 1 : Nat) : Int) := by omega
                have hwj : IntKind.i64.wrap (j : Int) = j := by rw [wrap64] <;> omega
                have k4 : 0 ≤ cmpE u.e t.e := by omega
                have hb2 : b = false := by rw [← hb]; simp; exact goodP_false2 ht hu rfl h4
                simp [k1, k2, k3, hj0, hwj]
                refine ⟨by omega, fun x hx => ?_⟩
                obtain rfl : u = x := Option.some.inj (hu.symm.trans hx)
                refine S 60 _ _ ?_
                simp
                refine CallW.ok (by decide) (by simp) c4 (by simp) (S 60 _ _ ?_)
                simp [k4, hb2]
            · have k3 : p ≤ t.v := by omega
              have hb2 := hb1 fun h => h3 h.2.2
              simp [k1, k2, k3]
              refine S 60 _ _ ?_
              simp [hb2]
          · have k2 : t.v < 1 := by omega
            have hb2 := hb1 fun h => h2 h.2.1
            simp [k1, k2]
            refine S 60 _ _ ?_
            simp [hb2]
        · have k1 : 12 < t.e.deg := by omega
          have hb2 := hb1 fun h => h1 h.1.2.2
          simp [k1]
          refine S 60 _ _ ?_
          simp [hb2]
      · refine S 60 _ _ ?_
        simp
        rw [← hb]
        have : GoodP p d ts := (goodP_iff hp hd).2 fun j hj => hall j (by omega)
        simpa using this
    · rw [decide_eq_false hd] at c2
      have hb' : b = false := by rw [← hb]; simp; exact fun h => hd h.2.1
      simp
      refine CallW.ok (by decide) (by simp) c1 (by simp) (S 60 _ _ ?_)
      simp
      refine CallW.ok (by decide) (by simp) c2 (by simp) (S 60 _ _ ?_)
      simp [hb']
  · rw [decide_eq_false hp] at c1
    have hb' : b = false := by rw [← hb]; simp; exact fun h => hp h.1
    simp
    refine CallW.ok (by decide) (by simp) c1 (by simp) (S 60 _ _ ?_)
    simp [hb']

set_option maxHeartbeats 2000000 in
set_option maxRecDepth 4000 in
theorem l01Is_ok (p d : Int) (ts : List Tm) (hl : ts.length ≤ 1048576) : CallOK Go.Proofs.Try.prog 23 [pv p d ts] (.one (bo (decide (GoodP p d ts)))) := by
  have hF := fnOk 59 [.tmp 2]
  refine callOK hF 60 Go.Proofs.Try.func23 rfl rfl rfl (by decide) (by simp) rfl ?_
  intro w0 hw
  have S := @vc_sound w0 _ hF ⟨(.one (bo (decide (GoodP p d ts)))), []⟩ Go.Proofs.Try.f23 rfl (by simp)
  have c1 := l01Prime_ok p
  have c2 := l01In_ok d 1 3
  generalize hb : decide (GoodP p d ts) = b at S ⊢
  by_cases hp : Pr p
  · rw [decide_eq_true hp] at c1
    have hpp := hp.pos
    by_cases hd : 1 ≤ d ∧ d ≤ 3
    · rw [decide_eq_true hd] at c2
      have hwp : IntKind.i64.wrap (p - 1) = p - 1 := wrap64 (by omega) (by omega)
      simp
      refine CallW.ok (by decide) (by simp) c1 (by simp) (S 60 _ _ ?_)
      simp
      refine CallW.ok (by decide) (by simp) c2 (by simp) (S 60 _ _ ?_)
      simp
      refine J.loop hw (fun i : Nat => ⟨[(1, .c (.ref 64001 0)), (2, .c (.d (bo false))), (3, .c (.d (i64 i)))], [(64001, .var [.d (i64 p), .d (i64 d), .d (vTerms ts)])]⟩)
        (fun i => i ≤ ts.length ∧ ∀ j < i, StepOk p d ts j) (fun i => ts.length - i) 0 (by simp) (by simp) ?_
      rintro i ⟨hi, hall⟩
      refine S 10 _ _ ?_
      simp
      refine ⟨fun hlt => ?_, fun hge => ?_⟩
      · obtain ⟨t, ht⟩ : ∃ t, ts[i]? = some t := ⟨ts[i], List.getElem?_eq_getElem hlt⟩
        have c3 := l01Exps_ok d t.e hd.1 hd.2
        have c4 := l01In_ok t.v 1 (p - 1)
        have hb1 : ¬ TmOk p d t → b = false := fun h => by rw [← hb]; simp; exact goodP_false ht h
        refine S 9 _ _ ?_
        simp
        refine ⟨hlt, fun x hx => ?_⟩
        obtain rfl : t = x := Option.some.inj (ht.symm.trans hx)
        clear hx
        try (refine S 60 _ _ ?_; simp)
        refine J.dr hF mixed 28 [[], [0], [], [2], [0, 1, 2, 3], [0, 1, 2, 3, 4], [0, 1, 2, 3, 4, 5], [0, 1, 2, 3, 4, 5, 6], [0, 1, 2, 3, 4, 5, 6, 7], [0, 1, 2, 3, 4, 5, 6], [0, 1, 2, 3, 4, 5, 6, 9], [0, 1, 2, 3, 4, 5, 6, 9, 10], [0, 1, 2, 3, 4, 5, 6, 7, 8, 9, 10, 11], [0, 1, 2, 3, 4, 5, 6, 7, 8, 9, 10, 11, 12], [0, 1, 2, 3, 4, 5, 6, 7, 8, 9, 10, 11, 12, 13], [0, 1, 2, 3, 4, 5, 6, 7, 8, 9, 10, 11, 12, 13, 14], [0, 1, 2, 3, 4, 5, 6, 7, 8, 9, 10, 11, 12, 13, 14, 15], [0, 1, 2, 3, 4, 5, 6, 7, 8, 9, 10, 11, 12, 13, 14, 15, 16], [0, 1, 2, 3, 4, 5, 6, 7, 8, 9, 10, 11, 12, 13, 14, 15, 16, 17], [0, 1, 2, 3, 4, 5, 6, 7, 8, 9, 10, 11, 12, 13, 14, 15, 16, 17, 18], [0, 1, 2, 3, 4, 5, 6, 7, 8, 9, 10, 11, 12, 13, 14, 15, 16, 17, 18, 19], [0, 1, 2, 3, 4, 5, 6, 7, 8, 9, 10, 11, 12, 13, 14, 15, 16, 17, 18], [0, 1, 2, 3, 4, 5, 6, 7, 8, 9, 10, 11, 12, 13, 14, 15, 16, 17, 18, 21], [0, 1, 2, 3, 4, 5, 6, 7, 8, 9, 10, 11, 12, 13, 14, 15, 16, 17, 18, 19, 20, 21, 22], [0, 1, 2, 3, 4, 5, 6, 7, 8, 9, 10, 11, 12, 13, 14, 15, 16, 17, 18, 19, 20, 21, 22, 23], [0, 1, 2, 3, 4, 5, 6, 7, 8, 9, 10, 11, 12, 13, 14, 15, 16, 17, 18, 19, 20, 21, 22, 23, 24], [0, 1, 2, 3, 4, 5, 6, 7, 8, 9, 10, 11, 12, 13, 14, 15, 16, 17, 18], [0, 1, 2, 3, 4, 5, 6, 7, 8, 9, 10, 11, 12, 13, 14, 15, 16, 17, 18, 26], [0, 1, 2, 3, 4, 5, 6, 7, 8, 9, 10, 11, 12, 13, 14, 15, 16, 17, 18, 19, 20, 21, 22, 23, 24, 25, 26, 27], [0, 1, 2, 3, 4, 5, 6, 7, 8, 9, 10, 11, 12, 13, 14, 15, 16, 17, 18, 19, 20, 21, 22, 23, 24, 25, 26, 27, 28], [0, 1, 2, 3, 4, 5, 6, 7, 8, 9, 10, 11, 12, 13, 14, 15, 16, 17, 18, 19, 20, 21, 22, 23, 24, 25, 26, 27, 28, 29], [0, 1, 2, 3, 4, 5, 6, 7, 8, 9, 10, 11, 12, 13, 14, 15, 16, 17, 18, 19, 20, 21, 22, 23, 24, 25, 26, 27, 28, 29, 30]] [[27, 28, 29, 30, 31, 32, 33, 34, 35, 36, 37, 38, 39, 40, 41, 42, 43, 44, 45, 46, 47, 48, 49, 50, 51, 52, 53, 54], [28, 29, 30, 31, 32, 33, 34, 35, 36, 37, 38, 39, 40, 41, 42, 43, 44, 45, 46, 47, 48, 49, 50, 51, 52, 53, 54], [27, 28, 29, 30, 31, 32, 33, 34, 35, 36, 37, 38, 39, 40, 41, 42, 43, 44, 45, 46, 47, 48, 49, 50, 51, 52, 53, 54], [27, 28, 30, 31, 32, 33, 34, 35, 36, 37, 38, 39, 40, 41, 42, 43, 44, 45, 46, 47, 48, 49, 50, 51, 52, 53, 54], [31, 32, 33, 34, 35, 36, 37, 38, 39, 40, 41, 42, 43, 44, 45, 46, 47, 48, 49, 50, 51, 52, 53, 54], [32, 33, 34, 35, 36, 37, 38, 39, 40, 41, 42, 43, 44, 45, 46, 47, 48, 49, 50, 51, 52, 53, 54], [33, 34, 35, 36, 37, 38, 39, 40, 41, 42, 43, 44, 45, 46, 47, 48, 49, 50, 51, 52, 53, 54], [34, 35, 36, 37, 38, 39, 40, 41, 42, 43, 44, 45, 46, 47, 48, 49, 50, 51, 52, 53, 54], [35, 36, 37, 38, 39, 40, 41, 42, 43, 44, 45, 46, 47, 48, 49, 50, 51, 52, 53, 54], [34, 35, 36, 37, 38, 39, 40, 41, 42, 43, 44, 45, 46, 47, 48, 49, 50, 51, 52, 53, 54], [34, 35, 37, 38, 39, 40, 41, 42, 43, 44, 45, 46, 47, 48, 49, 50, 51, 52, 53, 54], [34, 35, 38, 39, 40, 41, 42, 43, 44, 45, 46, 47, 48, 49, 50, 51, 52, 53, 54], [39, 40, 41, 42, 43, 44, 45, 46, 47, 48, 49, 50, 51, 52, 53, 54], [40, 41, 42, 43, 44, 45, 46, 47, 48, 49, 50, 51, 52, 53, 54], [41, 42, 43, 44, 45, 46, 47, 48, 49, 50, 51, 52, 53, 54], [42, 43, 44, 45, 46, 47, 48, 49, 50, 51, 52, 53, 54], [43, 44, 45, 46, 47, 48, 49, 50, 51, 52, 53, 54], [44, 45, 46, 47, 48, 49, 50, 51, 52, 53, 54], [45, 46, 47, 48, 49, 50, 51, 52, 53, 54], [46, 47, 48, 49, 50, 51, 52, 53, 54], [47, 48, 49, 50, 51, 52, 53, 54], [46, 47, 48, 49, 50, 51, 52, 53, 54], [46, 47, 49, 50, 51, 52, 53, 54], [50, 51, 52, 53, 54], [51, 52, 53, 54], [52, 53, 54], [46, 47, 48, 49, 50, 51, 52, 53, 54], [46, 47, 48, 49, 50, 51, 52, 54]] (by decide) ?_
        simp
        refine DrC.ok hF (by rfl) (by simp) c3 (by simp) (by simp) ?_
        by_cases h1 : InV d t.e
        · by_cases h2 : 1 ≤ t.v ∧ t.v ≤ p - 1
          · rw [decide_eq_true h2] at c4
            have hstep : (∀ j u, i = j + 1 → ts[j]? = some u → cmpE u.e t.e < 0) → ∀ j < i + 1, StepOk p d ts j := fun h j hj => by
              by_cases e : j = i
              · rw [e]
                intro x hx
                obtain rfl : t = x := Option.some.inj (ht.symm.trans hx)
                exact ⟨⟨h1, h2.1, by omega⟩, h⟩
              · exact hall j (by omega)
            by_cases hi0 : i = 0
            · subst hi0
              simp [h1]
              refine DrC.ok hF (by rfl) (by simp [hwp]) c4 (by simp) (by simp) ?_
              simp
              refine S 60 _ _ ?_
              simp
              exact Nxt.mk (0 + 1) ⟨by omega, hstep fun j u hj => by omega⟩ (by simp) (by omega)
            · obtain ⟨j, rfl⟩ : ∃ j, i = j + 1 := ⟨i - 1, by omega⟩
              obtain ⟨u, hu⟩ : ∃ u, ts[j]? = some u := ⟨ts[j], List.getElem?_eq_getElem (by omega)⟩
              have c5 := l01Before_ok u.e t.e
              have hj0 : (0 : Int) < ((j + 1 : Nat) : Int) := by omega
              have hwj : IntKind.i64.wrap (j : Int) = j := by rw [wrap64] <;> omega
              simp [h1]
              refine DrC.ok hF (by rfl) (by simp [hwp]) c4 (by simp) (by simp) ?_
              simp [hj0, hwj]
              refine ⟨by omega, fun x hx => ?_⟩
              obtain rfl : u = x := Option.some.inj (hu.symm.trans hx)
              refine S 60 _ _ ?_
              simp
              by_cases h4 : cmpE u.e t.e < 0
              · rw [decide_eq_true h4] at c5
                refine CallW.ok (by decide) (by simp) c5 (by simp) (S 60 _ _ ?_)
                simp
                refine Nxt.mk (j + 1 + 1) ⟨by omega, hstep fun j' u' hj hu' => ?_⟩ (by simp; rw [wrap64] <;> omega) (by omega)
                obtain rfl : j = j' := by omega
                obtain rfl : u = u' := Option.some.inj (hu.symm.trans hu')
                exact h4
              · rw [decide_eq_false h4] at c5
                have hb2 : b = false := by rw [← hb]; simp; exact goodP_false2 ht hu rfl h4
                refine CallW.ok (by decide) (by simp) c5 (by simp) (S 60 _ _ ?_)
                simp [hb2]
          · rw [decide_eq_false h2] at c4
            have hb2 := hb1 fun h => h2 ⟨h.2.1, by have := h.2.2; omega⟩
            simp [h1]
            refine DrC.ok hF (by rfl) (by simp [hwp]) c4 (by simp) (by simp) ?_
            simp
            refine S 60 _ _ ?_
            simp [hb2]
        · have hb2 := hb1 fun h => h1 h.1
          simp [h1]
          refine S 60 _ _ ?_
          simp [hb2]
      · refine S 60 _ _ ?_
        simp
        rw [← hb]
        have : GoodP p d ts := (goodP_iff hp hd).2 fun j hj => hall j (by omega)
        simpa using this
    · rw [decide_eq_false hd] at c2
      have hb' : b = false := by rw [← hb]; simp; exact fun h => hd h.2.1
      simp
      refine CallW.ok (by decide) (by simp) c1 (by simp) (S 60 _ _ ?_)
      simp
      refine CallW.ok (by decide) (by simp) c2 (by simp) (S 60 _ _ ?_)
      simp [hb']
  · rw [decide_eq_false hp] at c1
    have hb' : b = false := by rw [← hb]; simp; exact fun h => hp h.1
    simp
    refine CallW.ok (by decide) (by simp) c1 (by simp) (S 60 _ _ ?_)
    simp [hb']

end Go.Sm

namespace Go.Sm
open Go.RowKit

/-- Exponents with those of two letters exchanged. -/
def swE (i k : Nat) (e : Ex) : Ex := if i = 1 ∧ k = 0 then ⟨e.b, e.a, e.c⟩ else if i = 2 ∧ k = 0 then ⟨e.c, e.b, e.a⟩ else if i = 2 ∧ k = 1 then ⟨e.a, e.c, e.b⟩ else e
theorem swE_swE (i k : Nat) (e : Ex) : swE i k (swE i k e) = e := by
  unfold swE
  by_cases h1 : i = 1 ∧ k = 0
  · simp [h1]
  · by_cases h2 : i = 2 ∧ k = 0
    · simp [h2]
    · by_cases h3 : i = 2 ∧ k = 1
      · simp [h3]
      · simp [h1, h2, h3]

theorem sw10 (e : Ex) : swE 1 0 e = ⟨e.b, e.a, e.c⟩ := rfl
theorem sw20 (e : Ex) : swE 2 0 e = ⟨e.c, e.b, e.a⟩ := rfl
theorem sw21 (e : Ex) : swE 2 1 e = ⟨e.a, e.c, e.b⟩ := rfl

/-- Terms with their monomials changed. -/
def exT (p : Int) (f : Ex → Ex) (ts : List Tm) : List Tm := ts.foldl (fun o t => putT p o (f t.e) t.v) []
def exS (f : Ex → Ex) (ts : List Tm) : List (Ex × Int) := ts.foldl (fun o t => sput o (f t.e) t.v) []
theorem exT_snoc (p : Int) (f : Ex → Ex) (ts : List Tm) (t : Tm) : exT p f (ts ++ [t]) = putT p (exT p f ts) (f t.e) t.v := by simp [exT]
theorem exS_snoc (f : Ex → Ex) (ts : List Tm) (t : Tm) : exS f (ts ++ [t]) = sput (exS f ts) (f t.e) t.v := by simp [exS]

theorem exT_ok {p : Int} (hp : 0 < p) {f : Ex → Ex} (hf : ∀ e, f (f e) = e) : ∀ ts : List Tm, (ts.map (·.e)).Nodup → (∀ t ∈ ts, 1 ≤ t.v ∧ t.v < p) →
    Can p (exT p f ts) ∧ (exT p f ts).length ≤ ts.length ∧ ∀ e, coef (exT p f ts) e = coef ts (f e) := by
  intro ts
  induction ts using snocInd with
  | nil => intro _ _; exact ⟨can_nil p, by simp [exT], fun e => by simp [exT, coef]⟩
  | snoc ts t ih =>
    intro hn hv
    have hn' : (ts.map (·.e)).Nodup := by rw [List.map_append, List.nodup_append] at hn; exact hn.1
    obtain ⟨h1, h2, h3⟩ := ih hn' fun u hu => hv u (by simp [hu])
    have ht := hv t (by simp)
    rw [exT_snoc]
    obtain ⟨k1, k2⟩ := putT_can hp h1 (f t.e) t.v
    have := putT_length p (exT p f ts) (f t.e) t.v
    refine ⟨k1, by simp; omega, fun e => ?_⟩
    rw [k2, h3, hf, coef_snoc hn, coef_last_none hn, h3]
    by_cases he : e = f t.e
    · rw [if_pos he, he, hf, if_pos rfl, Int.add_zero]
      exact Int.emod_eq_of_lt (by omega) ht.2
    · rw [if_neg he, if_neg (fun q => he (by rw [← q, hf]))]
theorem exS_ok {f : Ex → Ex} (hf : ∀ e, f (f e) = e) : ∀ ts : List Tm, (ts.map (·.e)).Nodup →
    ((exS f ts).map (·.1)).Nodup ∧ (exS f ts).length ≤ ts.length ∧ ∀ e, sget (exS f ts) e = coef ts (f e) := by
  intro ts
  induction ts using snocInd with
  | nil => intro _; exact ⟨by simp [exS], by simp [exS], fun e => by simp [exS, sget, coef]⟩
  | snoc ts t ih =>
    intro hn
    have hn' : (ts.map (·.e)).Nodup := by rw [List.map_append, List.nodup_append] at hn; exact hn.1
    obtain ⟨h1, h2, h3⟩ := ih hn'
    rw [exS_snoc]
    have := sput_length (exS f ts) (f t.e) t.v
    refine ⟨sput_nodup h1 _ _, by simp; omega, fun e => ?_⟩
    rw [sget_sput, h3, coef_snoc hn]
    by_cases he : e = f t.e
    · rw [if_pos he, he, hf, if_pos rfl]
    · rw [if_neg he, if_neg (fun q => he (by rw [← q, hf]))]
theorem ex_eq {p : Int} (hp : 0 < p) {f : Ex → Ex} (hf : ∀ e, f (f e) = e) {ts : List Tm} (ht : Can p ts) : ofSum p (exS f ts) = exT p f ts := by
  obtain ⟨a1, _, a3⟩ := exS_ok hf ts (asc_nodup ht.1)
  obtain ⟨b1, _, b3⟩ := exT_ok hp hf ts (asc_nodup ht.1) ht.2
  obtain ⟨k1, k2⟩ := ofSum_can hp a1
  refine can_ext k1 b1 fun e => ?_
  have := coef_bound hp ht (f e)
  rw [k2, a3, b3]
  exact Int.emod_eq_of_lt this.1 this.2

set_option maxHeartbeats 1000000 in
set_option maxRecDepth 4000 in
theorem exchanged_ok (p d : Int) (ts : List Tm) (i k : Nat) (hik : k < i ∧ i ≤ 2) (hp : 0 < p) (hp2 : p ≤ 13) (ht : Can p ts) (hl : ts.length ≤ 1000) : CallOK Go.Proofs.Try.prog 83 [pv p d ts, .one (i64 i), .one (i64 k)] (po p d (exT p (swE i k) ts)) := by
  have hF := fnOk 42 [.cell 6 28]
  refine callOK hF 60 Go.Proofs.Try.func83 rfl rfl rfl (by decide) (by simp) rfl ?_
  intro w0 hw
  have S := @vc_sound w0 _ hF ⟨(po p d (exT p (swE i k) ts)), []⟩ Go.Proofs.Try.f83 rfl (by simp)
  obtain ⟨a1, a2, a3⟩ := exS_ok (swE_swE i k) ts (asc_nodup ht.1)
  have hpl := poly_ok p d (exS (swE i k) ts) (by omega) a1 hp (by omega)
  rw [ex_eq hp (swE_swE i k) ht] at hpl
  simp
  refine J.loop hw (fun n : Nat => ⟨[(1, .c (.d (i64 i))), (2, .c (.d (i64 k))), (3, .c (.ref 64003 0)), (6, .c (.ref 64006 0)), (7, .c (.ob 64008)), (13, .c (.d (vTerms ts))), (14, .c (.d (i64 ts.length))), (15, .c (.d (i64 n)))],
      [(64003, .var [.d (i64 p), .d (i64 d), .d (vTerms ts)]), (64006, .var [.d (i64 0), .d (i64 0), .ob 64007]), (64007, .arr 57 4 []), (64008, .mp (sumM (exS (swE i k) (ts.take n))))]⟩)
    (fun n => n ≤ ts.length) (fun n => ts.length - n) 0 (by simp) (by simp [exS]) ?_
  intro n hn
  refine S 8 _ _ ?_
  simp
  refine ⟨fun hlt => ?_, fun hge => ?_⟩
  · refine S 6 _ _ ?_
    simp
    refine ⟨hlt, fun b hb => ?_⟩
    have hb0 := ht.2 b (List.mem_of_getElem? hb)
    have hnext : exS (swE i k) (ts.take (n + 1)) = sput (exS (swE i k) (ts.take n)) (swE i k b.e) b.v := by rw [List.take_add_one, hb]; exact exS_snoc _ _ _
    generalize exS (swE i k) (ts.take n) = l at hnext ⊢
    have hput := mpPut_sum l (swE i k b.e) b.v
    have hc : (i = 1 ∧ k = 0) ∨ (i = 2 ∧ k = 0) ∨ (i = 2 ∧ k = 1) := by omega
    refine S 60 _ _ ?_
    rcases hc with ⟨rfl, rfl⟩ | ⟨rfl, rfl⟩ | ⟨rfl, rfl⟩ <;> simp only [sw10, sw20, sw21, exK] at hput hnext <;> simp
    all_goals
      refine J.dr3 hF mixed 10 [[], [], [], [2], [2, 3], [], [5], [5, 6], [0, 2, 3, 4, 5, 6, 7], [0, 2, 3, 4, 5, 6, 7, 8], [0, 1, 2, 3, 4, 5, 6, 7, 8, 9], [0, 1, 2, 3, 4, 5, 6, 7, 8, 9, 10]] [[21, 22, 23, 24, 25, 26, 27, 28, 29], [21, 22, 23, 24, 25, 26, 27, 28, 29], [21, 22, 23, 24, 25, 26, 27, 28, 29], [21, 22, 24, 25, 26, 27, 28, 29], [21, 22, 25, 26, 27, 28, 29], [21, 22, 23, 24, 25, 26, 27, 28, 29], [21, 22, 23, 24, 25, 27, 28, 29], [21, 22, 23, 24, 25, 28, 29], [22, 29], [22]] [[], [], [], [], [], [], [], [], [], [640]] [[], [640], [], [], [], [], [], [], [], []] [] [] (by decide) ?_
      simp
      refine S 60 _ _ ?_
      simp [hput]
      exact Nxt.mk (n + 1) (by omega) (by simp [hnext, wrapS (i := n) (n := ts.length) hlt (by omega)]) (by omega)
  · have e1 : ts.take n = ts := List.take_of_length_le hge
    rw [e1]
    refine S 60 _ _ ?_
    simp
    refine CallW.ok (by decide) (by simp) hpl (by simp) (S 60 _ _ ?_)
    simp

set_option maxHeartbeats 1000000 in
set_option maxRecDepth 4000 in
theorem l08Exchange_ok (p d : Int) (ts : List Tm) (k : Nat) (hk : k ≤ 1) (hp : 0 < p) (hp2 : p ≤ 13) (ht : Can p ts) (hl : ts.length ≤ 1000) : CallOK Go.Proofs.Try.prog 75 [pv p d ts, .one (i64 k), .one (i64 ((k : Int) + 1))] (po p d (exT p (swE (k + 1) k) ts)) := by
  have hF := fnOk 52 [.cell 6 28]
  refine callOK hF 60 Go.Proofs.Try.func75 rfl rfl rfl (by decide) (by simp) rfl ?_
  intro w0 hw
  have S := @vc_sound w0 _ hF ⟨(po p d (exT p (swE (k + 1) k) ts)), []⟩ Go.Proofs.Try.f75 rfl (by simp)
  have c1 := l01Empty_ok p d
  simp
  refine CallW.ok (by decide) (by simp) c1 (by simp) (S 60 _ _ ?_)
  simp
  refine J.loop hw (fun n : Nat => ⟨[(1, .c (.d (i64 k))), (2, .c (.d (i64 ((k : Int) + 1)))), (3, .c (.ref 64003 0)), (6, .c (.ref 64006 0)), (7, .c (.ref 64008 0)), (8, .c (.d (i64 n)))],
      [(64003, .var [.d (i64 p), .d (i64 d), .d (vTerms ts)]), (64006, .var [.d (i64 0), .d (i64 0), .ob 64007]), (64007, .arr 57 4 []), (64008, .var [.d (i64 p), .d (i64 d), .ob 64009]), (64009, .arr 57 4 (terms (exT p (swE (k + 1) k) (ts.take n))))]⟩)
    (fun n => n ≤ ts.length) (fun n => ts.length - n) 0 (by simp) (by simp [exT]) ?_
  intro n hn
  refine S 12 _ _ ?_
  simp
  refine ⟨fun hlt => ?_, fun hge => ?_⟩
  · obtain ⟨b, hb⟩ : ∃ b, ts[n]? = some b := ⟨ts[n], List.getElem?_eq_getElem hlt⟩
    have hb0 := ht.2 b (List.mem_of_getElem? hb)
    obtain ⟨q1, q2, _⟩ := exT_ok hp (swE_swE (k + 1) k) (ts.take n) (by rw [List.map_take]; exact (asc_nodup ht.1).sublist (List.take_sublist _ _)) fun t h => ht.2 t (List.mem_of_mem_take h)
    have hnext : exT p (swE (k + 1) k) (ts.take (n + 1)) = putT p (exT p (swE (k + 1) k) (ts.take n)) (swE (k + 1) k b.e) b.v := by rw [List.take_add_one, hb]; exact exT_snoc _ _ _ _
    rw [List.length_take] at q2
    generalize exT p (swE (k + 1) k) (ts.take n) = r at q1 q2 hnext ⊢
    have hcb := coef_bound hp q1 (swE (k + 1) k b.e)
    have c2 := l01Put_ok p d r (swE (k + 1) k b.e) b.v (by omega) hp (by omega) (by omega) (by omega)
    refine S 60 _ _ ?_
    simp
    refine J.dr3 hF mixed 14 [[], [0], [], [0, 1, 2], [0, 1, 2, 3], [0, 1, 2, 3, 4], [], [6], [], [6, 7, 8], [6, 7, 8, 9], [], [], [0, 1, 2, 3, 4, 5, 11, 12], [0, 1, 2, 3, 4, 5, 6, 7, 8, 9, 10, 11, 12, 13]] [[23, 24, 25, 26, 27, 28, 29, 30, 31, 32, 33, 9, 10], [24, 25, 26, 27, 28, 29, 30, 31, 32, 33, 9, 10], [23, 24, 25, 26, 27, 28, 29, 30, 31, 32, 33, 9, 10], [26, 27, 28, 29, 30, 31, 32, 33, 9, 10], [27, 28, 29, 30, 31, 32, 33, 9, 10], [28, 29, 30, 31, 32, 33, 9, 10], [23, 24, 25, 26, 27, 28, 29, 30, 31, 32, 33, 9, 10], [23, 24, 25, 26, 27, 28, 30, 31, 32, 33, 9, 10], [23, 24, 25, 26, 27, 28, 29, 30, 31, 32, 33, 9, 10], [23, 24, 25, 26, 27, 28, 32, 33, 9, 10], [23, 24, 25, 26, 27, 28, 33, 9, 10], [23, 24, 25, 26, 27, 28, 29, 30, 31, 32, 33, 9, 10], [23, 24, 25, 26, 27, 28, 29, 30, 31, 32, 33, 9, 10], [29, 30, 31, 32, 33]] [[], [], [], [], [], [], [], [], [], [], [], [], [], [576]] [[], [], [], [], [], [], [576], [576], [576], [576], [576], [], [], []] [] [] (by decide) ?_
    rw [← List.take_append_drop 5 (List.take _ _)]
    generalize htl : List.drop 5 (List.take _ _) = tl
    simp
    refine ⟨hlt, fun x hx => ?_⟩
    obtain rfl : b = x := Option.some.inj (hb.symm.trans hx)
    subst htl
    rw [← List.take_append_drop 5 (List.drop 5 _)]
    generalize htl : List.drop 5 (List.drop 5 _) = tl
    simp
    refine ⟨hlt, fun x hx => ?_⟩
    obtain rfl : b = x := Option.some.inj (hb.symm.trans hx)
    subst htl
    simp
    refine S 60 _ _ ?_
    have hk' : k = 0 ∨ k = 1 := by omega
    rcases hk' with rfl | rfl <;> simp only [Nat.zero_add, Nat.reduceAdd, sw10, sw20, sw21] at c2 hnext <;> simp
    all_goals
      refine CallW.ok (by decide) (by simp) c2 (by simp) (S 60 _ _ ?_)
      simp
      exact Nxt.mk (n + 1) (by omega) (by simp [hnext, wrapS (i := n) (n := ts.length) hlt (by omega)]) (by omega)
  · have e1 : ts.take n = ts := List.take_of_length_le hge
    rw [e1]
    refine S 60 _ _ ?_
    simp

theorem alike_ok (p d p' d' : Int) (ts us : List Tm) : CallOK Go.Proofs.Try.prog 101 [pv p d ts, pv p' d' us] (.one (bo (decide (p = p' ∧ d = d')))) := by
  have hF := fnOk 17 [.tmp 4]
  refine callOK hF 60 Go.Proofs.Try.func101 rfl rfl rfl (by decide) (by simp) rfl ?_
  intro w0 hw
  have S := @vc_sound w0 _ hF ⟨(.one (bo (decide (p = p' ∧ d = d')))), []⟩ Go.Proofs.Try.f101 rfl (by simp)
  by_cases h : p = p'
  · by_cases h2 : d = d'
    · simp [h, h2]
    · simp [h, h2]
  · simp [h]

theorem sameTerms_ok (xs ys : List Tm) (hl : xs.length ≤ 2000000) : CallOK Go.Proofs.Try.prog 102 [.one (vTerms xs), .one (vTerms ys)] (.one (bo (decide (xs = ys)))) := by
  have hF := fnOk 26 [.tmp 4]
  refine callOK hF 60 Go.Proofs.Try.func102 rfl rfl rfl (by decide) (by simp) rfl ?_
  intro w0 hw
  have S := @vc_sound w0 _ hF ⟨(.one (bo (decide (xs = ys)))), []⟩ Go.Proofs.Try.f102 rfl (by simp)
  simp
  refine ⟨fun hne e => hne (by rw [e]), fun he => ?_⟩
  refine J.loop hw (fun i : Nat => ⟨[(0, .c (.d (vTerms xs))), (1, .c (.d (vTerms ys))), (12, .c (.d (i64 xs.length))), (13, .c (.d (i64 i)))], []⟩)
    (fun i => i ≤ xs.length ∧ xs.take i = ys.take i) (fun i => xs.length - i) 0 (by simp) (by simp) ?_
  rintro i ⟨hi, ht⟩
  refine S 8 _ _ ?_
  simp
  refine ⟨fun hlt => ?_, fun hge => ?_⟩
  · refine S 60 _ _ ?_
    simp
    refine J.dr hF mixed 8 [[], [], [0, 1], [0, 1, 2], [], [], [4, 5], [4, 5, 6], [0, 1, 2, 3, 4, 5, 6, 7]] [[16, 17, 18, 19, 20, 21, 22, 23], [16, 17, 18, 19, 20, 21, 22, 23], [18, 19, 20, 21, 22, 23], [19, 20, 21, 22, 23], [16, 17, 18, 19, 20, 21, 22, 23], [16, 17, 18, 19, 20, 21, 22, 23], [16, 17, 18, 19, 22, 23], [16, 17, 18, 19, 23]] (by decide) ?_
    simp
    refine ⟨hlt, fun a ha => ⟨by omega, fun b hb => ?_⟩⟩
    refine S 60 _ _ ?_
    simp
    refine ⟨fun hne e => ?_, fun h1 h2 h3 h4 => ?_⟩
    · subst e
      rw [ha] at hb
      obtain rfl := Option.some.inj hb
      simp at hne
    · have hab : a = b := by
        obtain ⟨⟨_, _, _⟩, _⟩ := a
        obtain ⟨⟨_, _, _⟩, _⟩ := b
        simp_all
      subst hab
      refine Nxt.mk (i + 1) ⟨hlt, ?_⟩ (by simp [wrapS (i := i) (n := xs.length) hlt (by omega)]) (by omega)
      rw [List.take_add_one, List.take_add_one, ht, ha, hb]
  · refine S 60 _ _ ?_
    simp
    have h1 : xs = xs.take i := by rw [List.take_of_length_le (by omega)]
    have h2 : ys = ys.take i := by rw [List.take_of_length_le (by omega)]
    rw [h1, h2, ht]

theorem samePoly_ok (p d p' d' : Int) (ts us : List Tm) (hl : ts.length ≤ 2000000) : CallOK Go.Proofs.Try.prog 82 [pv p d ts, pv p' d' us] (.one (bo (decide ((p = p' ∧ d = d') ∧ ts = us)))) := by
  have hF := fnOk 15 [.tmp 4]
  refine callOK hF 60 Go.Proofs.Try.func82 rfl rfl rfl (by decide) (by simp) rfl ?_
  intro w0 hw
  have S := @vc_sound w0 _ hF ⟨(.one (bo (decide ((p = p' ∧ d = d') ∧ ts = us)))), []⟩ Go.Proofs.Try.f82 rfl (by simp)
  have c1 := alike_ok p d p' d' ts us
  have c2 := sameTerms_ok ts us hl
  by_cases h : p = p' ∧ d = d'
  · rw [decide_eq_true h] at c1
    have e : decide ((p = p' ∧ d = d') ∧ ts = us) = decide (ts = us) := by simp [h]
    rw [e] at S ⊢
    simp
    refine CallW.ok (by decide) (by simp) c1 (by simp) (S 60 _ _ ?_)
    simp
    refine CallW.ok (by decide) (by simp) c2 (by simp) (S 60 _ _ ?_)
    simp
  · rw [decide_eq_false h] at c1
    have e : decide ((p = p' ∧ d = d') ∧ ts = us) = false := by simp [h]
    rw [e] at S ⊢
    simp
    refine CallW.ok (by decide) (by simp) c1 (by simp) (S 60 _ _ ?_)
    simp

theorem l01Scale_ok (p d k : Int) (ts : List Tm) (hp : 0 < p) (hp2 : p ≤ 13) (ht : Can p ts) (hl : ts.length ≤ 1000) (hk : -13 ≤ k) (hk2 : k ≤ 13) : CallOK Go.Proofs.Try.prog 76 [pv p d ts, .one (i64 k)] (po p d (plusT p [] ts k)) := by
  have hF := fnOk 13 [.cell 4 28]
  refine callOK hF 60 Go.Proofs.Try.func76 rfl rfl rfl (by decide) (by simp) rfl ?_
  intro w0 hw
  have S := @vc_sound w0 _ hF ⟨(po p d (plusT p [] ts k)), []⟩ Go.Proofs.Try.f76 rfl (by simp)
  have c1 := l01Empty_ok p d
  have c2 := l01Plus_ok p d p d k [] ts hp hp2 (can_nil p) ht (by simp) hl hk hk2
  simp
  refine J.dr hF mixed 7 [[], [0], [], [2], [0, 1, 2, 3], [], [], [0, 1, 2, 3, 4, 5, 6], [0, 1, 2, 3, 4, 5, 6, 7]] [[5, 6, 7, 8, 9, 10, 11], [6, 7, 8, 9, 10, 11], [5, 6, 7, 8, 9, 10, 11], [5, 6, 8, 9, 10, 11], [9, 10, 11], [5, 6, 7, 8, 9, 10, 11], [5, 6, 7, 8, 9, 10, 11]] (by decide) ?_
  simp
  refine DrC.ok hF (by rfl) (by simp) c1 (by simp) (by simp) ?_
  simp
  refine S 60 _ _ ?_
  simp
  refine CallW.ok (by decide) (by simp) c2 (by simp) (S 60 _ _ ?_)
  simp

theorem l01Same_ok (p d p' d' : Int) (xs ys : List Tm) (hl : xs.length ≤ 2000000) : CallOK Go.Proofs.Try.prog 74 [pv p d xs, pv p' d' ys] (.one (bo (decide (xs = ys)))) := by
  have hF := fnOk 31 [.tmp 4]
  refine callOK hF 60 Go.Proofs.Try.func74 rfl rfl rfl (by decide) (by simp) rfl ?_
  intro w0 hw
  have S := @vc_sound w0 _ hF ⟨(.one (bo (decide (xs = ys)))), []⟩ Go.Proofs.Try.f74 rfl (by simp)
  simp
  refine ⟨fun hne e => hne (by rw [e]), fun he => ?_⟩
  refine J.loop hw (fun i : Nat => ⟨[(2, .c (.ref 64002 0)), (3, .c (.ref 64003 0)), (5, .c (.d (i64 i)))], [(64002, .var [.d (i64 p), .d (i64 d), .d (vTerms xs)]), (64003, .var [.d (i64 p'), .d (i64 d'), .d (vTerms ys)])]⟩)
    (fun i => i ≤ xs.length ∧ xs.take i = ys.take i) (fun i => xs.length - i) 0 (by simp) (by simp) ?_
  rintro i ⟨hi, ht⟩
  refine S 12 _ _ ?_
  simp
  refine ⟨fun hlt => ?_, fun hge => ?_⟩
  · refine S 60 _ _ ?_
    simp
    refine J.dr hF mixed 10 [[], [0], [], [0, 1, 2], [0, 1, 2, 3], [], [5], [], [5, 6, 7], [5, 6, 7, 8], [0, 1, 2, 3, 4, 5, 6, 7, 8, 9]] [[20, 21, 22, 23, 24, 25, 26, 27, 28, 29], [21, 22, 23, 24, 25, 26, 27, 28, 29], [20, 21, 22, 23, 24, 25, 26, 27, 28, 29], [23, 24, 25, 26, 27, 28, 29], [24, 25, 26, 27, 28, 29], [20, 21, 22, 23, 24, 25, 26, 27, 28, 29], [20, 21, 22, 23, 24, 26, 27, 28, 29], [20, 21, 22, 23, 24, 25, 26, 27, 28, 29], [20, 21, 22, 23, 24, 28, 29], [20, 21, 22, 23, 24, 29]] (by decide) ?_
    simp
    refine ⟨hlt, fun a ha => ⟨by omega, fun b hb => ?_⟩⟩
    refine S 60 _ _ ?_
    simp
    refine ⟨fun hne e => ?_, fun h1 h2 h3 h4 => ?_⟩
    · subst e
      rw [ha] at hb
      obtain rfl := Option.some.inj hb
      simp at hne
    · have hab : a = b := by
        obtain ⟨⟨_, _, _⟩, _⟩ := a
        obtain ⟨⟨_, _, _⟩, _⟩ := b
        simp_all
      subst hab
      refine Nxt.mk (i + 1) ⟨hlt, ?_⟩ (by simp [wrapS (i := i) (n := xs.length) hlt (by omega)]) (by omega)
      rw [List.take_add_one, List.take_add_one, ht, ha, hb]
  · refine S 60 _ _ ?_
    simp
    have h1 : xs = xs.take i := by rw [List.take_of_length_le (by omega)]
    have h2 : ys = ys.take i := by rw [List.take_of_length_le (by omega)]
    rw [h1, h2, ht]

/-! ### each exchange makes a multiple -/
def Sgn (p n : Int) (ts : List Tm) (i k : Nat) : Prop := exT p (swE i k) ts = plusT p [] ts n
def SymP (p d n : Int) (ts : List Tm) : Prop := ∀ i k : Nat, k < i → (i : Int) < d → Sgn p n ts i k
noncomputable instance (p d n : Int) (ts : List Tm) : Decidable (SymP p d n ts) := Classical.propDecidable _
theorem scale_coef {p : Int} (hp : 0 < p) {ts : List Tm} (ht : Can p ts) (n : Int) : Can p (plusT p [] ts n) ∧ (plusT p [] ts n).length ≤ ts.length ∧ ∀ e, coef (plusT p [] ts n) e = n * coef ts e % p := by
  obtain ⟨h1, h2, h3⟩ := plusT_ok hp (can_nil p) n ts (asc_nodup ht.1)
  refine ⟨h1, by simpa using h2, fun e => ?_⟩
  rw [h3]; simp [coef]
theorem sgn_iff {p : Int} (hp : 0 < p) {ts : List Tm} (ht : Can p ts) (n : Int) (i k : Nat) : Sgn p n ts i k ↔ ∀ e, coef ts (swE i k e) = n * coef ts e % p := by
  obtain ⟨a1, _, a3⟩ := exT_ok hp (swE_swE i k) ts (asc_nodup ht.1) ht.2
  obtain ⟨b1, _, b3⟩ := scale_coef hp ht n
  constructor
  · intro h e
    rw [← a3, h, b3]
  · intro h
    exact can_ext a1 b1 fun e => by rw [a3, b3, h]
theorem sgn_20 {p : Int} (hp : 0 < p) {ts : List Tm} (ht : Can p ts) {n : Int} (hn : n = 1 ∨ n = p - 1) (h1 : Sgn p n ts 1 0) (h2 : Sgn p n ts 2 1) : Sgn p n ts 2 0 := by
  rw [sgn_iff hp ht] at *
  intro e
  have e1 : swE 2 0 e = swE 1 0 (swE 2 1 (swE 1 0 e)) := rfl
  rw [e1, h1, h2, h1]
  have hc := coef_bound hp ht e
  generalize coef ts e = c at *
  rcases hn with rfl | rfl
  · simp [Int.emod_emod_of_dvd]
  · have h3 : ∀ x : Int, (p - 1) * x % p = (-x) % p := fun x => by
      rw [Int.sub_mul, Int.one_mul, show p * x - x = -x + p * x by omega, Int.add_mul_emod_self_left]
    have h4 : ∀ c : Int, 0 ≤ c → c < p → (-c) % p = if c = 0 then 0 else p - c := fun c h0 h1 => by
      split
      · rename_i h; subst h; simp
      · rw [← Int.add_emod_right, Int.emod_eq_of_lt (by omega) (by omega)]; omega
    rw [h3, h3, h3, h4 c hc.1 hc.2]
    by_cases h0 : c = 0
    · simp [h0]
    · rw [if_neg h0, h4 (p - c) (by omega) (by omega), if_neg (by omega), show p - (p - c) = c by omega, h4 c hc.1 hc.2, if_neg h0]

set_option maxHeartbeats 1000000 in
set_option maxRecDepth 4000 in
theorem exchanges_ok (p d n : Int) (ts : List Tm) (hg : GoodP p d ts) (hn : n = 1 ∨ n = p - 1) : CallOK Go.Proofs.Try.prog 39 [pv p d ts, .one (i64 n)] (.one (bo (decide (SymP p d n ts)))) := by
  have hF := fnOk 34 [.tmp 4]
  refine callOK hF 60 Go.Proofs.Try.func39 rfl rfl rfl (by decide) (by simp) rfl ?_
  intro w0 hw
  have S := @vc_sound w0 _ hF ⟨(.one (bo (decide (SymP p d n ts)))), []⟩ Go.Proofs.Try.f39 rfl (by simp)
  have hp := hg.1.pos
  have hl := goodP_len hg
  have hcan := goodP_can hg
  obtain ⟨w1, w2, w3⟩ := scale_coef (p := p) (by omega) hcan n
  have c0 := zeroPoly_ok p d
  have c1 := add_ok p d p d n [] ts (by omega) (by omega) (can_nil p) hcan (by simp) (by omega) (by omega) (by omega)
  have hd := hg.2.1
  generalize hb : decide (SymP p d n ts) = b at S ⊢
  simp
  refine J.dr hF mixed 9 [[], [0], [], [2], [0, 1, 2, 3], [], [], [0, 1, 2, 3, 4, 5, 6], [], [0, 1, 2, 3, 4, 5, 6, 7, 8]] [[8, 9, 10, 11, 12, 13, 14, 15, 5], [9, 10, 11, 12, 13, 14, 15, 5], [8, 9, 10, 11, 12, 13, 14, 15, 5], [8, 9, 11, 12, 13, 14, 15, 5], [12, 13, 14, 15, 5], [8, 9, 10, 11, 12, 13, 14, 15, 5], [8, 9, 10, 11, 12, 13, 14, 15, 5], [15, 5], [8, 9, 10, 11, 12, 13, 14, 15, 5]] (by decide) ?_
  simp
  refine DrC.ok hF (by rfl) (by simp) c0 (by simp) (by simp) ?_
  simp
  refine DrC.ok hF (by rfl) (by simp) c1 (by simp) (by simp) ?_
  simp
  refine S 60 _ _ ?_
  simp
  obtain ⟨dn, rfl⟩ : ∃ m : Nat, d = m := ⟨d.toNat, by omega⟩
  have hSym : (∀ i k : Nat, k < i → i < dn → Sgn p n ts i k) → b = true := fun h => by
    rw [← hb]; simp
    exact fun i k h1 h2 => h i k h1 (by omega)
  have hNot : ∀ i k : Nat, k < i → i < dn → ¬ Sgn p n ts i k → b = false := fun i k h1 h2 h => by
    rw [← hb]; simp
    exact fun h' => h (h' i k h1 (by omega))
  clear hb
  have hunf : ∀ i k, Sgn p n ts i k ↔ exT p (swE i k) ts = plusT p [] ts n := fun _ _ => Iff.rfl
  generalize plusT p [] ts n = W at *
  refine J.loop hw (fun i : Nat => ⟨[(2, .c (.ref 64002 0)), (4, .c (.d (bo false))), (5, .c (.ref 64005 0)), (17, .c (.d (i64 dn))), (18, .c (.d (i64 i)))],
      [(64002, .var [.d (i64 p), .d (i64 dn), .d (vTerms ts)]), (64005, .var [.d (i64 p), .d (i64 dn), .ob 64006]), (64006, .arr 57 4 (terms W))]⟩)
    (fun i => i ≤ dn ∧ ∀ i' k : Nat, k < i' → i' < i → Sgn p n ts i' k) (fun i => dn - i) 0 (by simp) (by simp) ?_
  rintro i ⟨hi, hdone⟩
  refine S 8 _ _ ?_
  simp
  refine ⟨fun hlt => ?_, fun hge => ?_⟩
  · refine S 60 _ _ ?_
    simp
    refine J.loop hw (fun k : Nat => ⟨[(2, .c (.ref 64002 0)), (4, .c (.d (bo false))), (5, .c (.ref 64005 0)), (17, .c (.d (i64 dn))), (18, .c (.d (i64 i))), (6, .c (.d (i64 i))), (21, .c (.d (i64 i))), (22, .c (.d (i64 k)))],
        [(64002, .var [.d (i64 p), .d (i64 dn), .d (vTerms ts)]), (64005, .var [.d (i64 p), .d (i64 dn), .ob 64006]), (64006, .arr 57 4 (terms W))]⟩)
      (fun k => k ≤ i ∧ ∀ k' < k, Sgn p n ts i k') (fun k => i - k) 0 (by simp) (by simp) ?_
    rintro k ⟨hk, hkd⟩
    refine S 8 _ _ ?_
    simp
    refine ⟨fun hlt2 => ?_, fun hge2 => ?_⟩
    · have c2 := exchanged_ok p dn ts i k (by omega) (by omega) (by omega) hcan (by omega)
      obtain ⟨x1, x2, _⟩ := exT_ok (p := p) (by omega) (swE_swE i k) ts (asc_nodup hcan.1) hcan.2
      have c3 := samePoly_ok p dn p dn (exT p (swE i k) ts) W (by omega)
      refine S 60 _ _ ?_
      simp
      refine J.dr hF mixed 5 [[], [], [], [0, 1, 2], [], [0, 1, 2, 3, 4], [0, 1, 2, 3, 4, 5]] [[25, 26, 27, 28, 29], [25, 26, 27, 28, 29], [25, 26, 27, 28, 29], [28, 29], [25, 26, 27, 28, 29]] (by decide) ?_
      simp
      refine DrC.ok hF (by rfl) (by simp) c2 (by simp) (by simp) ?_
      simp
      by_cases hs : Sgn p n ts i k
      · have hs' := (hunf i k).1 hs
        rw [decide_eq_true ⟨⟨rfl, rfl⟩, hs'⟩] at c3
        refine S 60 _ _ ?_
        simp
        refine CallW.ok (by decide) (by simp) c3 (by simp) (S 60 _ _ ?_)
        simp
        refine Nxt.mk (k + 1) ⟨by omega, fun k' h => ?_⟩ (by simp; rw [wrap64] <;> omega) (by omega)
        by_cases e : k' = k
        · rw [e]; exact hs
        · exact hkd k' (by omega)
      · have hs' : ¬ ((p = p ∧ (dn : Int) = dn) ∧ exT p (swE i k) ts = W) := fun h => hs ((hunf i k).2 h.2)
        have hb2 := hNot i k hlt2 (by omega) hs
        rw [decide_eq_false hs'] at c3
        refine S 60 _ _ ?_
        simp
        refine CallW.ok (by decide) (by simp) c3 (by simp) (S 60 _ _ ?_)
        simp [hb2]
    · refine S 60 _ _ ?_
      simp
      refine Nxt.mk (i + 1) ⟨by omega, fun i' k' h1 h2 => ?_⟩ (by simp; rw [wrap64] <;> omega) (by omega)
      by_cases e : i' = i
      · rw [e] at h1 ⊢; exact hkd k' (by omega)
      · exact hdone i' k' h1 (by omega)
  · have hb2 := hSym fun i' k' h1 h2 => hdone i' k' h1 (by omega)
    refine S 60 _ _ ?_
    simp [hb2]

set_option maxHeartbeats 1000000 in
set_option maxRecDepth 4000 in
theorem l08Signed_ok (p d n : Int) (ts : List Tm) (hg : GoodP p d ts) (hn : n = 1 ∨ n = p - 1) : CallOK Go.Proofs.Try.prog 33 [pv p d ts, .one (i64 n)] (.one (bo (decide (SymP p d n ts)))) := by
  have hF := fnOk 23 [.tmp 4]
  refine callOK hF 60 Go.Proofs.Try.func33 rfl rfl rfl (by decide) (by simp) rfl ?_
  intro w0 hw
  have S := @vc_sound w0 _ hF ⟨(.one (bo (decide (SymP p d n ts)))), []⟩ Go.Proofs.Try.f33 rfl (by simp)
  have hp := hg.1.pos
  have hl := goodP_len hg
  have hcan := goodP_can hg
  obtain ⟨w1, w2, w3⟩ := scale_coef (p := p) (by omega) hcan n
  have c1 := l01Scale_ok p d n ts (by omega) (by omega) hcan (by omega) (by omega) (by omega)
  have hd := hg.2.1
  generalize hb : decide (SymP p d n ts) = b at S ⊢
  obtain ⟨dn, rfl⟩ : ∃ m : Nat, d = m := ⟨d.toNat, by omega⟩
  have hSym : (∀ k : Nat, k + 1 < dn → Sgn p n ts (k + 1) k) → b = true := fun h => by
    rw [← hb]; simp
    intro i k h1 h2
    have hc : (i = 1 ∧ k = 0) ∨ (i = 2 ∧ k = 0) ∨ (i = 2 ∧ k = 1) := by omega
    rcases hc with ⟨rfl, rfl⟩ | ⟨rfl, rfl⟩ | ⟨rfl, rfl⟩
    · exact h 0 (by omega)
    · exact sgn_20 (by omega) hcan hn (h 0 (by omega)) (h 1 (by omega))
    · exact h 1 (by omega)
  have hNot : ∀ k : Nat, k + 1 < dn → ¬ Sgn p n ts (k + 1) k → b = false := fun k h1 h => by
    rw [← hb]; simp
    exact fun h' => h (h' (k + 1) k (by omega) (by omega))
  clear hb
  have hunf : ∀ i k, Sgn p n ts i k ↔ exT p (swE i k) ts = plusT p [] ts n := fun _ _ => Iff.rfl
  generalize plusT p [] ts n = W at *
  simp
  refine J.loop hw (fun k : Nat => ⟨[(1, .c (.d (i64 n))), (2, .c (.ref 64002 0)), (4, .c (.d (bo false))), (5, .c (.d (i64 k)))], [(64002, .var [.d (i64 p), .d (i64 dn), .d (vTerms ts)])]⟩)
    (fun k => k + 1 ≤ dn ∧ ∀ k' < k, Sgn p n ts (k' + 1) k') (fun k => dn - k) 0 ⟨by omega, by simp⟩ (by simp) ?_
  rintro k ⟨hk, hdone⟩
  have hwk : IntKind.i64.wrap ((k : Int) + 1) = (k : Int) + 1 := wrap64 (by omega) (by omega)
  refine S 12 _ _ ?_
  simp [hwk]
  refine ⟨fun hlt => ?_, fun hge => ?_⟩
  · have c2 := l08Exchange_ok p dn ts k (by omega) (by omega) (by omega) hcan (by omega)
    obtain ⟨x1, x2, _⟩ := exT_ok (p := p) (by omega) (swE_swE (k + 1) k) ts (asc_nodup hcan.1) hcan.2
    have c3 := l01Same_ok p dn p dn (exT p (swE (k + 1) k) ts) W (by omega)
    refine S 60 _ _ ?_
    simp
    refine J.dr hF mixed 7 [[], [], [], [2], [0, 1, 2, 3], [], [], [0, 1, 2, 3, 4, 5, 6], [0, 1, 2, 3, 4, 5, 6, 7], [0, 1, 2, 3, 4, 5, 6, 7, 8]] [[13, 14, 15, 16, 17, 18, 19], [13, 14, 15, 16, 17, 18, 19], [13, 14, 15, 16, 17, 18, 19], [13, 14, 16, 17, 18, 19], [17, 18, 19], [13, 14, 15, 16, 17, 18, 19], [13, 14, 15, 16, 17, 18, 19]] (by decide) ?_
    simp [hwk]
    refine DrC.ok hF (by rfl) (by simp) c2 (by simp) (by simp) ?_
    simp
    refine S 60 _ _ ?_
    simp
    refine CallW.ok (by decide) (by simp) c1 (by simp) (S 60 _ _ ?_)
    simp
    by_cases hs : Sgn p n ts (k + 1) k
    · have hs' := (hunf (k + 1) k).1 hs
      rw [decide_eq_true hs'] at c3
      refine CallW.ok (by decide) (by simp) c3 (by simp) (S 60 _ _ ?_)
      simp
      refine Nxt.mk (k + 1) ⟨by omega, fun k' h => ?_⟩ (by simp [hwk]) (by omega)
      by_cases e : k' = k
      · rw [e]; exact hs
      · exact hdone k' (by omega)
    · have hs' : ¬ exT p (swE (k + 1) k) ts = W := fun h => hs ((hunf (k + 1) k).2 h)
      have hb2 := hNot k (by omega) hs
      rw [decide_eq_false hs'] at c3
      refine CallW.ok (by decide) (by simp) c3 (by simp) (S 60 _ _ ?_)
      simp [hb2]
  · have hb2 := hSym fun k' h1 => hdone k' (by omega)
    refine S 60 _ _ ?_
    simp [hb2]

/-! ### symmetric -/
noncomputable def symR (p d : Int) (ts : List Tm) : Bool × Int := if GoodP p d ts then (decide (SymP p d 1 ts), 0) else (false, 1)
theorem len_big {p d : Int} {ts : List Tm} (h : GoodP p d ts) : ts.length ≤ 1048576 := by have := goodP_len h; omega

end Go.Sm

namespace Go.Sm
open Go.RowKit

/-- An exponent, by its place. -/
def exAt (e : Ex) (i : Nat) : UInt8 := if i = 0 then e.a else if i = 1 then e.b else e.c
/-- No two exponents of the first letters are equal. -/
def DiffE (d : Int) (e : Ex) : Prop := ∀ i k : Nat, k < i → (i : Int) < d → exAt e i ≠ exAt e k
noncomputable instance (d : Int) (e : Ex) : Decidable (DiffE d e) := Classical.propDecidable _
def AltP (p d : Int) (ts : List Tm) : Prop := (∀ t ∈ ts, DiffE d t.e) ∧ SymP p d (p - 1) ts
noncomputable instance (p d : Int) (ts : List Tm) : Decidable (AltP p d ts) := Classical.propDecidable _
theorem alt_false {p d : Int} {ts : List Tm} {n : Nat} {t : Tm} (ht : ts[n]? = some t) (h : ¬ DiffE d t.e) : ¬ AltP p d ts := fun ha => h (ha.1 t (List.mem_of_getElem? ht))

set_option maxHeartbeats 1000000 in
set_option maxRecDepth 4000 in
theorem alternating_ok (p d : Int) (ts : List Tm) (hg : GoodP p d ts) : CallOK Go.Proofs.Try.prog 28 [pv p d ts] (.one (bo (decide (AltP p d ts)))) := by
  have hF := fnOk 40 [.tmp 2]
  refine callOK hF 60 Go.Proofs.Try.func28 rfl rfl rfl (by decide) (by simp) rfl ?_
  intro w0 hw
  have S := @vc_sound w0 _ hF ⟨(.one (bo (decide (AltP p d ts)))), []⟩ Go.Proofs.Try.f28 rfl (by simp)
  have hp := hg.1.pos
  have hl := goodP_len hg
  have hd := hg.2.1
  have c1 := exchanges_ok p d (p - 1) ts hg (.inr rfl)
  have hwp : IntKind.i64.wrap (p - 1) = p - 1 := wrap64 (by omega) (by omega)
  generalize hb : decide (AltP p d ts) = b at S ⊢
  obtain ⟨dn, rfl⟩ : ∃ m : Nat, d = m := ⟨d.toNat, by omega⟩
  simp
  refine J.loop hw (fun n : Nat => ⟨[(1, .c (.ref 64001 0)), (2, .c (.d (bo false))), (8, .c (.d (vTerms ts))), (9, .c (.d (i64 ts.length))), (10, .c (.d (i64 n)))], [(64001, .var [.d (i64 p), .d (i64 dn), .d (vTerms ts)])]⟩)
    (fun n => n ≤ ts.length ∧ ∀ m < n, ∀ t, ts[m]? = some t → DiffE dn t.e) (fun n => ts.length - n) 0 (by simp) (by simp) ?_
  rintro n ⟨hn, hall⟩
  refine S 8 _ _ ?_
  simp
  refine ⟨fun hlt => ?_, fun hge => ?_⟩
  · obtain ⟨t, ht⟩ : ∃ t, ts[n]? = some t := ⟨ts[n], List.getElem?_eq_getElem hlt⟩
    have hb1 : ∀ i k : Nat, k < i → i < dn → exAt t.e i = exAt t.e k → b = false := fun i k h1 h2 h3 => by
      rw [← hb]; simp
      exact alt_false ht fun h => h i k h1 (by omega) h3
    refine S 6 _ _ ?_
    simp
    refine ⟨hlt, fun x hx => ?_⟩
    obtain rfl : t = x := Option.some.inj (ht.symm.trans hx)
    clear hx
    refine S 60 _ _ ?_
    simp
    refine J.loop hw (fun i : Nat => ⟨[(1, .c (.ref 64001 0)), (2, .c (.d (bo false))), (8, .c (.d (vTerms ts))), (9, .c (.d (i64 ts.length))), (10, .c (.d (i64 n))), (4, .c (.ref 64004 0)), (15, .c (.d (i64 dn))), (16, .c (.d (i64 i)))], [(64001, .var [.d (i64 p), .d (i64 dn), .d (vTerms ts)]), (64004, .var [.d (u8 t.e.a), .d (u8 t.e.b), .d (u8 t.e.c), .d (i64 t.v)])]⟩)
      (fun i => i ≤ dn ∧ ∀ i' k : Nat, k < i' → i' < i → exAt t.e i' ≠ exAt t.e k) (fun i => dn - i) 0 (by simp) (by simp) ?_
    rintro i ⟨hi, hdi⟩
    refine S 8 _ _ ?_
    simp
    refine ⟨fun hlt1 => ?_, fun hge1 => ?_⟩
    · refine S 60 _ _ ?_
      simp
      refine J.loop hw (fun k : Nat => ⟨[(1, .c (.ref 64001 0)), (2, .c (.d (bo false))), (8, .c (.d (vTerms ts))), (9, .c (.d (i64 ts.length))), (10, .c (.d (i64 n))), (4, .c (.ref 64004 0)), (15, .c (.d (i64 dn))), (16, .c (.d (i64 i))), (5, .c (.d (i64 i))), (19, .c (.d (i64 i))), (20, .c (.d (i64 k)))], [(64001, .var [.d (i64 p), .d (i64 dn), .d (vTerms ts)]), (64004, .var [.d (u8 t.e.a), .d (u8 t.e.b), .d (u8 t.e.c), .d (i64 t.v)])]⟩)
        (fun k => k ≤ i ∧ ∀ k' < k, exAt t.e i ≠ exAt t.e k') (fun k => i - k) 0 (by simp) (by simp) ?_
      rintro k ⟨hk, hdk⟩
      refine S 8 _ _ ?_
      simp
      refine ⟨fun hlt2 => ?_, fun hge2 => ?_⟩
      · have hb2 := hb1 i k hlt2 hlt1
        refine S 60 _ _ ?_
        have hnx : exAt t.e i ≠ exAt t.e k → ∀ k' < k + 1, exAt t.e i ≠ exAt t.e k' := fun h k' hk' => by
          by_cases e : k' = k
          · rw [e]; exact h
          · exact hdk k' (by omega)
        have hc : (i = 1 ∧ k = 0) ∨ (i = 2 ∧ k = 0) ∨ (i = 2 ∧ k = 1) := by omega
        rcases hc with ⟨rfl, rfl⟩ | ⟨rfl, rfl⟩ | ⟨rfl, rfl⟩ <;> simp only [exAt] at hb2 <;> simp at hb2 <;> simp
        all_goals
          refine J.dr hF mixed 8 [[], [], [0, 1], [0, 1, 2], [], [], [4, 5], [4, 5, 6], [0, 1, 2, 3, 4, 5, 6, 7]] [[23, 24, 25, 26, 27, 28, 29, 30], [23, 24, 25, 26, 27, 28, 29, 30], [25, 26, 27, 28, 29, 30], [26, 27, 28, 29, 30], [23, 24, 25, 26, 27, 28, 29, 30], [23, 24, 25, 26, 27, 28, 29, 30], [23, 24, 25, 26, 29, 30], [23, 24, 25, 26, 30]] (by decide) ?_
          simp
          refine S 60 _ _ ?_
          simp
          refine ⟨hb2, fun h => Nxt.mk _ ⟨by omega, hnx h⟩ (by simp) (by omega)⟩
      · refine S 60 _ _ ?_
        simp
        refine Nxt.mk (i + 1) ⟨by omega, fun i' k' h1 h2 => ?_⟩ (by simp; rw [wrap64] <;> omega) (by omega)
        by_cases e : i' = i
        · rw [e] at h1 ⊢; exact hdk k' (by omega)
        · exact hdi i' k' h1 (by omega)
    · refine S 60 _ _ ?_
      simp
      refine Nxt.mk (n + 1) ⟨by omega, fun m hm x hx => ?_⟩ (by simp; rw [wrap64] <;> omega) (by omega)
      by_cases e : m = n
      · subst e
        obtain rfl : t = x := Option.some.inj (ht.symm.trans hx)
        exact fun i' k' h1 h2 => hdi i' k' h1 (by omega)
      · exact hall m (by omega) x hx
  · have hd1 : ∀ t ∈ ts, DiffE dn t.e := fun t ht => by
      obtain ⟨m, hm, rfl⟩ := List.getElem_of_mem ht
      exact hall m (by omega) _ (List.getElem?_eq_getElem hm)
    have hb2 : decide (SymP p dn (p - 1) ts) = b := by
      rw [← hb]
      exact decide_eq_decide.2 ⟨fun h => ⟨hd1, h⟩, fun h => h.2⟩
    rw [hb2] at c1
    refine S 60 _ _ ?_
    simp [hwp]
    refine CallW.ok (by decide) (by simp) c1 (by simp) (S 60 _ _ ?_)
    simp

theorem exAt_cases {e : Ex} {i : Nat} (hi : i ≤ 2) : (i = 0 ∧ exAt e i = e.a) ∨ (i = 1 ∧ exAt e i = e.b) ∨ (i = 2 ∧ exAt e i = e.c) := by
  have : i = 0 ∨ i = 1 ∨ i = 2 := by omega
  rcases this with rfl | rfl | rfl <;> simp [exAt]

set_option maxHeartbeats 1000000 in
set_option maxRecDepth 4000 in
theorem l08Alternates_ok (p d : Int) (ts : List Tm) (hg : GoodP p d ts) : CallOK Go.Proofs.Try.prog 24 [pv p d ts] (.one (bo (decide (AltP p d ts)))) := by
  have hF := fnOk 49 [.tmp 2]
  refine callOK hF 60 Go.Proofs.Try.func24 rfl rfl rfl (by decide) (by simp) rfl ?_
  intro w0 hw
  have S := @vc_sound w0 _ hF ⟨(.one (bo (decide (AltP p d ts)))), []⟩ Go.Proofs.Try.f24 rfl (by simp)
  have hp := hg.1.pos
  have hl := goodP_len hg
  have hd := hg.2.1
  have c1 := l08Signed_ok p d (p - 1) ts hg (.inr rfl)
  have hwp : IntKind.i64.wrap (p - 1) = p - 1 := wrap64 (by omega) (by omega)
  generalize hb : decide (AltP p d ts) = b at S ⊢
  obtain ⟨dn, rfl⟩ : ∃ m : Nat, d = m := ⟨d.toNat, by omega⟩
  simp
  refine J.loop hw (fun n : Nat => ⟨[(1, .c (.ref 64001 0)), (2, .c (.d (bo false))), (3, .c (.d (i64 n)))], [(64001, .var [.d (i64 p), .d (i64 dn), .d (vTerms ts)])]⟩)
    (fun n => n ≤ ts.length ∧ ∀ m < n, ∀ t, ts[m]? = some t → DiffE dn t.e) (fun n => ts.length - n) 0 (by simp) (by simp) ?_
  rintro n ⟨hn, hall⟩
  refine S 12 _ _ ?_
  simp
  refine ⟨fun hlt => ?_, fun hge => ?_⟩
  · obtain ⟨t, ht⟩ : ∃ t, ts[n]? = some t := ⟨ts[n], List.getElem?_eq_getElem hlt⟩
    have hb1 : ∀ i k : Nat, k < i → i < dn → exAt t.e k = exAt t.e i → b = false := fun i k h1 h2 h3 => by
      rw [← hb]; simp
      exact alt_false ht fun h => h i k h1 (by omega) h3.symm
    refine S 60 _ _ ?_
    simp
    refine J.loop hw (fun i : Nat => ⟨[(1, .c (.ref 64001 0)), (2, .c (.d (bo false))), (3, .c (.d (i64 n))), (4, .c (.d (i64 i)))], [(64001, .var [.d (i64 p), .d (i64 dn), .d (vTerms ts)])]⟩)
      (fun i => i ≤ dn ∧ ∀ i' < i, ∀ k : Nat, i' < k → k < dn → exAt t.e i' ≠ exAt t.e k) (fun i => dn - i) 0 (by simp) (by simp) ?_
    rintro i ⟨hi, hdi⟩
    have hwi : IntKind.i64.wrap ((i : Int) + 1) = ((i + 1 : Nat) : Int) := by rw [wrap64] <;> omega
    refine S 12 _ _ ?_
    simp
    refine ⟨fun hlt1 => ?_, fun hge1 => ?_⟩
    · refine S 60 _ _ ?_
      simp [hwi]
      refine J.loop hw (fun k : Nat => ⟨[(1, .c (.ref 64001 0)), (2, .c (.d (bo false))), (3, .c (.d (i64 n))), (4, .c (.d (i64 i))), (5, .c (.d (i64 k)))], [(64001, .var [.d (i64 p), .d (i64 dn), .d (vTerms ts)])]⟩)
        (fun k => i + 1 ≤ k ∧ k ≤ dn ∧ ∀ k', i < k' → k' < k → exAt t.e i ≠ exAt t.e k') (fun k => dn - k) (i + 1) ⟨by omega, by omega, fun _ _ _ => by omega⟩ (by simp) ?_
      rintro k ⟨hk0, hk, hdk⟩
      refine S 12 _ _ ?_
      simp
      refine ⟨fun hlt2 => ?_, fun hge2 => ?_⟩
      · have hb2 := hb1 k i (by omega) hlt2
        refine S 60 _ _ ?_
        have hnx : exAt t.e i ≠ exAt t.e k → ∀ k', i < k' → k' < k + 1 → exAt t.e i ≠ exAt t.e k' := fun h k' h1 hk' => by
          by_cases e : k' = k
          · rw [e]; exact h
          · exact hdk k' h1 (by omega)
        have hc : (i = 0 ∧ k = 1) ∨ (i = 0 ∧ k = 2) ∨ (i = 1 ∧ k = 2) := by omega
        clear hdi hdk
        rcases hc with ⟨rfl, rfl⟩ | ⟨rfl, rfl⟩ | ⟨rfl, rfl⟩ <;> simp only [exAt] at hb2 <;> simp at hb2 <;> simp
        all_goals
          refine J.dr hF mixed 16 [[], [0], [], [], [0, 1, 2], [0, 1, 2, 4], [0, 1, 2, 3, 4, 5], [0, 1, 2, 3, 4, 5, 6], [], [8], [], [], [8, 9, 10], [8, 9, 10, 12], [8, 9, 10, 11, 12, 13], [8, 9, 10, 11, 12, 13, 14], [0, 1, 2, 3, 4, 5, 6, 7, 8, 9, 10, 11, 12, 13, 14, 15]] [[27, 28, 29, 30, 31, 32, 33, 34, 35, 36, 37, 38, 39, 40, 41, 42], [28, 29, 30, 31, 32, 33, 34, 35, 36, 37, 38, 39, 40, 41, 42], [27, 28, 29, 30, 31, 32, 33, 34, 35, 36, 37, 38, 39, 40, 41, 42], [27, 28, 29, 30, 31, 32, 33, 34, 35, 36, 37, 38, 39, 40, 41, 42], [30, 31, 32, 33, 34, 35, 36, 37, 38, 39, 40, 41, 42], [30, 32, 33, 34, 35, 36, 37, 38, 39, 40, 41, 42], [33, 34, 35, 36, 37, 38, 39, 40, 41, 42], [34, 35, 36, 37, 38, 39, 40, 41, 42], [27, 28, 29, 30, 31, 32, 33, 34, 35, 36, 37, 38, 39, 40, 41, 42], [27, 28, 29, 30, 31, 32, 33, 34, 36, 37, 38, 39, 40, 41, 42], [27, 28, 29, 30, 31, 32, 33, 34, 35, 36, 37, 38, 39, 40, 41, 42], [27, 28, 29, 30, 31, 32, 33, 34, 35, 36, 37, 38, 39, 40, 41, 42], [27, 28, 29, 30, 31, 32, 33, 34, 38, 39, 40, 41, 42], [27, 28, 29, 30, 31, 32, 33, 34, 38, 40, 41, 42], [27, 28, 29, 30, 31, 32, 33, 34, 41, 42], [27, 28, 29, 30, 31, 32, 33, 34, 42]] (by decide) ?_
          rw [← List.take_append_drop 7 (List.take _ _)]
          generalize htl : List.drop 7 (List.take _ _) = tl
          simp
          refine ⟨hlt, fun x hx => ?_⟩
          obtain rfl : t = x := Option.some.inj (ht.symm.trans hx)
          subst htl
          simp
          refine ⟨hlt, fun x hx => ?_⟩
          obtain rfl : t = x := Option.some.inj (ht.symm.trans hx)
          refine S 60 _ _ ?_
          simp
          refine ⟨hb2, fun h => Nxt.mk _ ⟨by omega, by omega, hnx h⟩ (by simp) (by omega)⟩
      · refine S 60 _ _ ?_
        simp
        refine Nxt.mk (i + 1) ⟨by omega, fun i' h1 k' h2 h3 => ?_⟩ (by simp [hwi]) (by omega)
        by_cases e : i' = i
        · rw [e] at h2 ⊢; exact hdk k' h2 (by omega)
        · exact hdi i' (by omega) k' h2 h3
    · refine S 60 _ _ ?_
      simp
      refine Nxt.mk (n + 1) ⟨by omega, fun m hm x hx => ?_⟩ (by simp; rw [wrap64] <;> omega) (by omega)
      by_cases e : m = n
      · subst e
        obtain rfl : t = x := Option.some.inj (ht.symm.trans hx)
        exact fun i' k' h1 h2 h3 => hdi k' (by omega) i' h1 (by omega) h3.symm
      · exact hall m (by omega) x hx
  · have hd1 : ∀ t ∈ ts, DiffE dn t.e := fun t ht => by
      obtain ⟨m, hm, rfl⟩ := List.getElem_of_mem ht
      exact hall m (by omega) _ (List.getElem?_eq_getElem hm)
    have hb2 : decide (SymP p dn (p - 1) ts) = b := by
      rw [← hb]
      exact decide_eq_decide.2 ⟨fun h => ⟨hd1, h⟩, fun h => h.2⟩
    rw [hb2] at c1
    refine S 60 _ _ ?_
    simp [hwp]
    refine CallW.ok (by decide) (by simp) c1 (by simp) (S 60 _ _ ?_)
    simp

noncomputable def altR (p d : Int) (ts : List Tm) : Bool × Int := if GoodP p d ts then (decide (AltP p d ts), 0) else (false, 1)

end Go.Sm

namespace Go.Sm
open Go.RowKit

/-- A polynomial as a triple. -/
structure Pl where
  p : Int
  d : Int
  ts : List Tm
abbrev vPolys (xs : List Pl) : D := .vw true 3 (xs.map fun x => [i64 x.p, i64 x.d, vTerms x.ts])
abbrev oPolys (xs : List Pl) : D := .own 28 3 (xs.map fun x => [i64 x.p, i64 x.d, oTerms x.ts])

end Go.Sm

namespace Go.Sm
open Go.RowKit

theorem toExps_ok (e : Ex) : CallOK Go.Proofs.Try.prog 97 [.agg e.ds] (.agg e.ds) := by
  have hF := fnOk 15 [.cell 2 55]
  refine callOK hF 60 Go.Proofs.Try.func97 rfl rfl rfl (by decide) (by simp) rfl ?_
  intro w0 hw
  have S := @vc_sound w0 _ hF ⟨(.agg e.ds), []⟩ Go.Proofs.Try.f97 rfl (by simp)
  simp
  refine J.rounds 5 (LpW.step (S 60 _ _ ?_))
  simp
  refine LpW.inv (LpW.step (S 60 _ _ ?_))
  simp
  refine LpW.inv (LpW.step (S 60 _ _ ?_))
  simp
  refine LpW.inv (LpW.step (S 60 _ _ ?_))
  simp

theorem toTerm_ok (t : Tm) : CallOK Go.Proofs.Try.prog 65 [.agg [u8 t.e.a, u8 t.e.b, u8 t.e.c, i64 t.v]] (.agg [u8 t.e.a, u8 t.e.b, u8 t.e.c, i64 t.v]) := by
  have hF := fnOk 12 [.cell 2 57]
  refine callOK hF 60 Go.Proofs.Try.func65 rfl rfl rfl (by decide) (by simp) rfl ?_
  intro w0 hw
  have S := @vc_sound w0 _ hF ⟨(.agg [u8 t.e.a, u8 t.e.b, u8 t.e.c, i64 t.v]), []⟩ Go.Proofs.Try.f65 rfl (by simp)
  have c1 := toExps_ok t.e
  simp
  refine CallW.ok (by decide) (by simp) c1 (by simp) (S 60 _ _ ?_)
  simp

theorem toTermS_ok (ts : List Tm) (hl : ts.length ≤ 1048576) : CallOK Go.Proofs.Try.prog 26 [.one (vTerms ts)] (.one (oTerms ts)) := by
  have hF := fnOk 23 [.tmp 2]
  refine callOK hF 60 Go.Proofs.Try.func26 rfl rfl rfl (by decide) (by simp) rfl ?_
  intro w0 hw
  have S := @vc_sound w0 _ hF ⟨(.one (oTerms ts)), []⟩ Go.Proofs.Try.f26 rfl (by simp)
  simp
  refine ⟨by omega, ?_⟩
  refine J.loop hw (fun p : Nat × List Tm => ⟨[(0, .c (.d (vTerms ts))), (3, .c (.ob 64003)), (4, .c (.d (i64 p.1)))], [(64003, .arr 57 4 (terms p.2))]⟩)
    (fun p => p.1 ≤ ts.length ∧ p.2.length = ts.length ∧ p.2.take p.1 = ts.take p.1) (fun p => ts.length - p.1) (0, List.replicate ts.length ⟨⟨0, 0, 0⟩, 0⟩) (by simp) (by simp) ?_
  rintro ⟨i, zs⟩ ⟨hi, hlen, htk⟩
  simp only at hi hlen htk
  refine S 12 _ _ ?_
  simp
  refine ⟨fun hlt => ?_, fun hge => ?_⟩
  · obtain ⟨t, ht⟩ : ∃ t, ts[i]? = some t := ⟨ts[i], List.getElem?_eq_getElem hlt⟩
    obtain ⟨u, hu⟩ : ∃ u, zs[i]? = some u := ⟨zs[i], List.getElem?_eq_getElem (by omega)⟩
    have c1 := toTerm_ok t
    refine S 9 _ _ ?_
    simp
    refine ⟨hlt, fun x hx => ?_⟩
    obtain rfl : t = x := Option.some.inj (ht.symm.trans hx)
    refine CallW.ok (by decide) (by simp) c1 (by simp) (S 60 _ _ ?_)
    simp [hlen, hu]
    refine ⟨hlt, ?_⟩
    refine Nxt.mk (i + 1, zs.set i t) ⟨by show i + 1 ≤ _; omega, by simpa using hlen, ?_⟩ (by simp [wrapS (i := i) (n := ts.length) hlt (by omega), List.map_set]) (by show ts.length - (i + 1) < ts.length - i; omega)
    show (zs.set i t).take (i + 1) = ts.take (i + 1)
    rw [List.take_add_one, List.take_set_of_le (Nat.le_refl i), htk, List.take_add_one, ht]
    simp [show i < zs.length by omega]
  · have e : zs = ts := by
      have h1 : zs.take i = zs := List.take_of_length_le (by omega)
      have h2 : ts.take i = ts := List.take_of_length_le (by omega)
      rw [← h1, htk, h2]
    refine S 60 _ _ ?_
    simp [e]

theorem szTermS_ok (ts : List Tm) (n : Int) (hn : 0 ≤ n) (hn2 : n ≤ 4611686018427387904) (hl : ts.length ≤ maxLen) : CallOK Go.Proofs.Try.prog 22 [.one (vTerms ts), .one (i64 n)] (.one (i64 (if n - ts.length < 0 then -1 else n - ts.length))) := by
  have hF := fnOk 12 [.tmp 4]
  refine callOK hF 60 Go.Proofs.Try.func22 rfl rfl rfl (by decide) (by simp) rfl ?_
  intro w0 hw
  have S := @vc_sound w0 _ hF ⟨(.one (i64 (if n - ts.length < 0 then -1 else n - ts.length))), []⟩ Go.Proofs.Try.f22 rfl (by simp)
  have hm : maxLen = 9223372036854775807 := rfl
  have hw1 : IntKind.i64.wrap (n - ts.length) = n - ts.length := wrap64 (by omega) (by omega)
  by_cases h : n - ts.length < 0
  · rw [if_pos h] at S ⊢
    simp [hw1, h]
  · rw [if_neg h] at S ⊢
    simp [hw1, h]

theorem toPoly_ok (p d : Int) (ts : List Tm) (hl : ts.length ≤ 1048576) : CallOK Go.Proofs.Try.prog 8 [pv p d ts] (po p d ts) := by
  have hF := fnOk 15 [.cell 2 28]
  refine callOK hF 60 Go.Proofs.Try.func8 rfl rfl rfl (by decide) (by simp) rfl ?_
  intro w0 hw
  have S := @vc_sound w0 _ hF ⟨(po p d ts), []⟩ Go.Proofs.Try.f8 rfl (by simp)
  have c1 := toTermS_ok ts hl
  simp
  refine CallW.ok (by decide) (by simp) c1 (by simp) (S 60 _ _ ?_)
  simp

theorem szPoly_ok (p d : Int) (ts : List Tm) (n : Int) (hn : 0 ≤ n) (hn2 : n ≤ 4611686018427387904) (hl : ts.length ≤ maxLen) : CallOK Go.Proofs.Try.prog 6 [pv p d ts, .one (i64 n)] (.one (i64 (if n - ts.length < 0 then -1 else n - ts.length))) := by
  have hF := fnOk 12 [.tmp 4]
  refine callOK hF 60 Go.Proofs.Try.func6 rfl rfl rfl (by decide) (by simp) rfl ?_
  intro w0 hw
  have S := @vc_sound w0 _ hF ⟨(.one (i64 (if n - ts.length < 0 then -1 else n - ts.length))), []⟩ Go.Proofs.Try.f6 rfl (by simp)
  have c1 := szTermS_ok ts n hn hn2 hl
  by_cases h : n - ts.length < 0
  · rw [if_pos h] at S c1 ⊢
    simp
    refine CallW.ok (by decide) (by simp) c1 (by simp) (S 60 _ _ ?_)
    simp
  · rw [if_neg h] at S c1 ⊢
    simp
    refine CallW.ok (by decide) (by simp) c1 (by simp) (S 60 _ _ ?_)
    simp [h]

end Go.Sm
