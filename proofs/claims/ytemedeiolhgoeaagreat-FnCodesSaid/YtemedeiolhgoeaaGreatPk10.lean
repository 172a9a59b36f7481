/- Towards the rows of this seat: what the functions do, as contracts over plain data. -/
import Derived.Test.YtemedeiolhgoeaaGreatPk6
namespace Go.Sm
open Go.RowKit

abbrev u64 (n : Int) : D := .v (.int .u64 n)

theorem wrapU {n : Int} (h0 : 0 ≤ n) (h : n < 18446744073709551616) : IntKind.u64.wrap n = n := by
  simp [IntKind.wrap, IntKind.bits, IntKind.signed]
  omega

theorem and32' {x : Nat} (h : x < 4294967296) : IntKind.u64.wrap ((x % 2 ^ IntKind.u64.bits &&& 4294967295 % 2 ^ IntKind.u64.bits : Nat) : Int) = x := by
  have e : x % 2 ^ IntKind.u64.bits &&& 4294967295 % 2 ^ IntKind.u64.bits = x := by
    have h1 : x % 2 ^ IntKind.u64.bits = x := Nat.mod_eq_of_lt (by simp [IntKind.bits]; omega)
    have h2 : 4294967295 % 2 ^ IntKind.u64.bits = 2 ^ 32 - 1 := by decide
    rw [h1, h2, Nat.and_two_pow_sub_one_eq_mod]
    exact Nat.mod_eq_of_lt h
  rw [e]
  exact wrapU (by omega) (by omega)
theorem shr32 {x : Nat} (h : x < 4294967296) : ((x : Int)).fdiv (2 ^ min 32 IntKind.u64.bits) = 0 := by
  rw [show min 32 IntKind.u64.bits = 32 by decide, Int.fdiv_eq_ediv_of_nonneg _ (by decide)]
  exact Int.ediv_eq_zero_of_lt (by omega) (by omega)

set_option maxRecDepth 8000 in
theorem Mul64_ok (x y : Nat) (hx : x ≤ 1000) (hy : y ≤ 1000) : CallOK Go.Proofs.Tryz.prog 252 [.one (u64 x), .one (u64 y)] (.tup [(false, [u64 0]), (false, [u64 ((x * y : Nat) : Int)])]) := by
  have hF := fnOk 51 [.tmp 4, .tmp 5]
  refine callOK hF 0 Go.Proofs.Tryz.func252 rfl rfl rfl (by decide) (by simp) rfl ?_
  intro w0 hw
  have S := @vc_sound w0 _ hF ⟨(.tup [(false, [u64 0]), (false, [u64 ((x * y : Nat) : Int)])]), []⟩ Go.Proofs.Tryz.f252 rfl (by simp)
  have a1 := and32' (x := x) (by omega)
  have a2 := and32' (x := y) (by omega)
  have b1 := shr32 (x := x) (by omega)
  have b2 := shr32 (x := y) (by omega)
  have b3 := shr32 (x := 0) (by omega)
  have hxy : x * y ≤ 1000 * 1000 := Nat.mul_le_mul hx hy
  have a3 : IntKind.u64.wrap ((x : Int) * (y : Int)) = ((x * y : Nat) : Int) := by rw [Int.natCast_mul]; exact wrapU (by rw [← Int.natCast_mul]; omega) (by rw [← Int.natCast_mul]; omega)
  have w0' : IntKind.u64.wrap 0 = 0 := by decide
  generalize x * y = z at hxy a3 S ⊢
  have b4 := shr32 (x := z) (by omega)
  simp only [Int.natCast_zero] at b3
  refine S 60 _ _ ?_
  simp [a1, a2, b1, b2, a3, b4, w0', b3]
  refine S 60 _ _ ?_
  simp [a3, w0', b3]

theorem wrapU' {n : Nat} (h : n < 18446744073709551616) : IntKind.u64.wrap (n : Int) = n := wrapU (by omega) (by omega)

theorem bitsMul_ok (x y : Nat) (hx : x ≤ 1000) (hy : y ≤ 1000) : CallOK Go.Proofs.Tryz.prog 207 [.one (u64 x), .one (u64 y)] (.tup [(false, [u64 0]), (false, [u64 ((x * y : Nat) : Int)])]) := by
  have hF := fnOk 30 [.tmp 4, .tmp 5]
  refine callOK hF 60 Go.Proofs.Tryz.func207 rfl rfl rfl (by decide) (by simp) rfl ?_
  intro w0 hw
  have S := @vc_sound w0 _ hF ⟨(.tup [(false, [u64 0]), (false, [u64 ((x * y : Nat) : Int)])]), []⟩ Go.Proofs.Tryz.f207 rfl (by simp)
  have c1 := Mul64_ok x y hx hy
  simp
  refine CallW.ok (by decide) (by simp) c1 (by simp) (S 60 _ _ ?_)
  simp

theorem okNo_take : ∀ (xs : List (List D)) (i : Nat), okNo xs = true → okNo (xs.take i) = true
  | [], i, h => by simp [okNo]
  | x :: xs, 0, h => by simp [okNo]
  | x :: xs, i + 1, h => by
    simp only [okNo, Bool.and_eq_true, List.take_succ_cons] at h ⊢
    exact ⟨h.1, okNo_take xs i h.2⟩

@[simp] theorem okNo_zeros (n : Nat) : okNo (List.replicate n [i64 0]) = true := by
  rw [okNo_all, List.all_eq_true]
  intro q hq
  rw [List.eq_of_mem_replicate hq]
  rfl

/-- A repeated number in the making. -/
def repM (x : Int) (n c : Nat) : List Int := List.replicate c x ++ List.replicate (n - c) 0
theorem repM_length {x : Int} {n c : Nat} (h : c ≤ n) : (repM x n c).length = n := by simp [repM]; omega
theorem repM_end (x : Int) (n : Nat) : repM x n n = List.replicate n x := by simp [repM]
theorem repM_step {x : Int} {n c k : Nat} (hk : k ≤ c) (_ : c + k ≤ n) : (repM x n c).take c ++ ((repM x n c).take c).take k ++ (repM x n c).drop (c + k) = repM x n (c + k) := by
  have h1 : (repM x n c).take c = List.replicate c x := by unfold repM; rw [List.take_append_of_le_length (by simp), List.take_of_length_le (by simp)]
  have h2 : (repM x n c).drop (c + k) = List.replicate (n - (c + k)) 0 := by
    unfold repM
    rw [List.drop_append, List.drop_of_length_le (by simp), List.nil_append, List.drop_replicate]
    congr 1; simp; omega
  rw [h1, h2, List.take_replicate, Nat.min_eq_left hk]
  unfold repM
  rw [← List.replicate_append_replicate]

set_option maxHeartbeats 1000000 in
theorem repeat1_ok (x : Int) (n : Nat) (hn : n ≤ 1000) : CallOK Go.Proofs.Tryz.prog 119 [.one (vInts [x]), .one (i64 n)] (.one (oInts (List.replicate n x))) := by
  have hF := fnOk 48 [.tmp 4]
  refine callOK hF 60 Go.Proofs.Tryz.func119 rfl rfl rfl (by decide) (by simp) rfl ?_
  intro w0 hw
  have S := @vc_sound w0 _ hF ⟨(.one (oInts (List.replicate n x))), []⟩ Go.Proofs.Tryz.f119 rfl (by simp)
  have c1 := bitsMul_ok 1 n (by omega) hn
  rw [Nat.one_mul] at c1
  have he := repM_end x n
  generalize List.replicate n x = L at he S ⊢
  have hneg : ¬ (n : Int) < 0 := by omega
  have hw1 := wrapU' (n := n) (by omega)
  have hw2 : IntKind.u64.wrap 1 = 1 := by decide
  have hw3 : IntKind.i64.wrap (n : Int) = n := wrap64 (by omega) (by omega)
  have hmx : ¬ (9223372036854775807 : Int) < n := by omega
  simp [hneg, hw1, hw2]
  refine CallW.ok (by decide) (by simp) c1 (by simp) (S 60 _ _ ?_)
  have h0 : List.take (min 1 n) [[i64 x]] ++ List.replicate (n - min 1 n) [i64 0] = ints (repM x n (min 1 n)) := by
    by_cases h : n = 0
    · subst h; simp [repM]
    · rw [Nat.min_eq_left (by omega)]; simp [repM]
  have hc0 : min 1 n ≤ n ∧ (0 < n → 0 < min 1 n) := by omega
  simp [hmx, hw3, h0]
  refine ⟨⟨by omega, by omega⟩, ?_⟩
  generalize min 1 n = c0 at hc0
  refine J.loop hw (fun c : Nat => ⟨[(7, .c (.ob 64007)), (8, .c (.d (i64 c)))], [(64007, .arr 2 1 (ints (repM x n c)))]⟩)
    (fun c => c ≤ n ∧ (0 < n → 0 < c)) (fun c => n - c) c0 hc0 (by simp) ?_
  rintro c ⟨hc1, hc2⟩
  have hrl := repM_length (x := x) hc1
  refine S 12 _ _ ?_
  simp [hrl]
  refine ⟨fun hlt => ?_, fun hge => ?_⟩
  · have hst := repM_step (x := x) (n := n) (c := c) (k := min c (n - c)) (by omega) (by omega)
    have hwc : IntKind.i64.wrap ((c : Int) + ((min c (n - c) : Nat) : Int)) = ((c + min c (n - c) : Nat) : Int) := by rw [wrap64] <;> omega
    generalize hcur : repM x n c = cur at hrl hst
    refine S 60 _ _ ?_
    simp
    refine J.dr3 hF mixed 8 [[], [], [], [1, 2], [], [], [4, 5], [1, 2, 3, 4, 5, 6], [0, 1, 2, 3, 4, 5, 6, 7], [0, 1, 2, 3, 4, 5, 6, 7, 8]] [[38, 39, 40, 41, 42, 43, 44, 45], [38, 39, 40, 41, 42, 43, 44, 45], [38, 39, 40, 41, 42, 43, 44, 45], [38, 41, 42, 43, 44, 45], [38, 39, 40, 41, 42, 43, 44, 45], [38, 39, 40, 41, 42, 43, 44, 45], [38, 39, 40, 41, 44, 45], [38, 45]] [[], [], [], [], [], [], [], [64007]] [[64007], [], [], [], [], [], [], []] [] [] (by decide) ?_
    have hok : okNo (List.take c (ints cur)) = true := okNo_take _ _ (by simp)
    simp [hrl, hok]
    refine ⟨by omega, by omega, ?_⟩
    refine S 60 _ _ ?_
    simp [hwc]
    have hs2 : ints (repM x n (c + min c (n - c))) = List.take c (ints cur) ++ (List.take (min c (n - c)) (List.take c (ints cur)) ++ List.drop (c + min c (n - c)) (ints cur)) := by
      rw [← hst]; simp [List.map_take, List.map_drop]
    exact Nxt.mk (c + min c (n - c)) ⟨by omega, by omega⟩ (by simp [hs2]) (by omega)
  · have e : c = n := by omega
    subst e
    rw [he]
    refine S 60 _ _ ?_
    simp

end Go.Sm

namespace Go.Sm
open Go.RowKit

theorem ArgOK.nilK {N : Nat} {w0 : Base} {s : St} {b : Bool} {z z' : Nat} : ArgOK N w0 s (.c (.d (.vw b z []))) (.one (.vw true z' [])) := by
  intro a w β R v hv
  simp only [FVRel, CRel, Rd] at hv
  refine ⟨[v], rfl, rfl, v, [], rfl, ?_, rfl⟩
  simp only [Rd]
  rcases hv.2.2 with ⟨_, ad, cap, rfl, h⟩ | ⟨g, off, cap, rfl, _, _, h3, _⟩
  · exact .inl ⟨trivial, ad, cap, rfl, h⟩
  · exact .inl ⟨trivial, _, cap, rfl, fun h => nomatch h⟩

abbrev st (s : ByteArray) : D := .v (.string s)
def sRepeat : ByteArray := ⟨#[114, 101, 112, 101, 97, 116]⟩
def sEven : ByteArray := ⟨#[101, 118, 101, 110]⟩
def sAll : ByteArray := ⟨#[97, 108, 108]⟩
def sZero : ByteArray := ⟨#[122, 101, 114, 111]⟩

def unitsL (n : Nat) : List (List Int) := (List.range n).map (unitR n)
theorem unitsL_take {n i : Nat} (h : i < n) : (unitsL n).take (i + 1) = (unitsL n).take i ++ [unitR n i] := by
  rw [List.take_add_one, List.getElem?_eq_getElem (by simpa [unitsL] using h)]
  simp [unitsL]
theorem unitsL_row {p : Int} (hp : 2 ≤ p) (n : Nat) : ∀ r ∈ unitsL n, RowOk p n r := by
  intro r hr
  obtain ⟨i, -, rfl⟩ := List.mem_map.1 hr
  exact unitR_row hp n i

theorem kGo_units (p : Int) (m : Nat) : ∀ (k i : Nat) (O : List (List Int)), kGo p 0 m i (List.replicate k []) [] O = ([], O ++ (List.range' i k).map (unitR m))
  | 0, i, O => by simp [kGo]
  | k + 1, i, O => by
    rw [List.replicate_succ]
    simp only [kGo, Nat.zero_le, if_true]
    rw [kGo_units p m k (i + 1)]
    simp [lessL, longR, List.range'_succ]

theorem dual_all {p : Int} (hp : Pr p) (n : Nat) : dualL p n [] = echL p (unitsL n) := by
  have hd := (dual_rows (n := n) hp (rows := []) (fun _ h => nomatch h)).2.2
  rw [hd]
  congr 1
  unfold kerI
  have hc : colsR n [] = List.replicate n [] := by
    unfold colsR
    apply List.ext_getElem
    · simp
    · intro i h1 h2; simp
  rw [hc, List.length_nil, List.length_replicate, kGo_units]
  simp [unitsL, List.range_eq_range', Function.comp_def]

def onesL (n : Nat) : List Int := List.replicate n 1
theorem onesL_row {p : Int} (hp : 2 ≤ p) (n : Nat) : RowOk p n (onesL n) := ⟨by simp [onesL], fun x hx => by have := List.eq_of_mem_replicate hx; omega⟩

/-- What stands behind a name. -/
def namE (p : Int) (n : Nat) (s : ByteArray) : Option (List (List Int)) :=
  if s == sRepeat then some (echL p [onesL n]) else if s == sEven then some (dualL p n (echL p [onesL n])) else if s == sAll then some (echL p (unitsL n)) else if s == sZero then some [] else none
/-- The code with a name. -/
def namR (s : ByteArray) (p l : Int) : (Int × Int × List (List Int)) × Int :=
  if Pr p ∧ 1 ≤ l ∧ l ≤ 10 then (match namE p l.toNat s with
    | some E => ((p, l, E), 0)
    | none => ((0, 0, []), 4)) else ((0, 0, []), 2)

theorem one_rows {p : Int} (hp : 2 ≤ p) (n : Nat) : ∀ r ∈ [onesL n], RowOk p n r := fun r hr => by simp at hr; subst hr; exact onesL_row hp n

theorem namE_small {p : Int} {n : Nat} (hp : Pr p) (h1 : 1 ≤ n) (h2 : n ≤ 10) {s : ByteArray} {E : List (List Int)} (h : namE p n s = some E) : (E.length ≤ 100 ∧ total E ≤ 1000 ∧ ∀ r ∈ E, r.length ≤ 10) := by
  have hpp := prPos hp
  have hg := goodRows_of (l := n) hp rfl h1 h2 (one_rows hpp.1 n)
  have he := (ech_facts hp (one_rows hpp.1 n)).2
  unfold namE at h
  split at h
  · cases h; exact small_ech hg (by simp)
  · split at h
    · cases h; exact dual_small hp h1 h2 he
    · split at h
      · cases h
        exact small_ech (goodRows_of (l := n) hp rfl h1 h2 (unitsL_row hpp.1 n)) (by simp [unitsL]; omega)
      · split at h
        · cases h; exact small_none
        · cases h

theorem namR_small (s : ByteArray) (p l : Int) : ∃ p' l' E e, namR s p l = ((p', l', E), e) ∧ E.length ≤ 100 ∧ total E ≤ 1000 ∧ ∀ r ∈ E, r.length ≤ 10 := by
  unfold namR
  split
  · rename_i h
    split
    · rename_i E hE
      exact ⟨_, _, _, _, rfl, namE_small h.1 (by omega) (by omega) hE⟩
    · exact ⟨_, _, _, _, rfl, small_none⟩
  · exact ⟨_, _, _, _, rfl, small_none⟩

theorem NamedCode_ok (s : ByteArray) (p l : Int) (_ : s.size ≤ 1048576) : CallOK Go.Proofs.Tryz.prog 29 [.one (st s), .one (i64 p), .one (i64 l)] (cres (namR s p l)) := by
  have hF := fnOk 48 [.cell 6 26, .tmp 7]
  refine callOK hF 60 Go.Proofs.Tryz.func29 rfl rfl rfl (by decide) (by simp) rfl ?_
  intro w0 hw
  have S := @vc_sound w0 _ hF ⟨(cres (namR s p l)), []⟩ Go.Proofs.Tryz.f29 rfl (by simp)
  have c1 := isPrime_ok p
  have c2 := isLength_ok l
  by_cases hp : Pr p
  · rw [decide_eq_true hp] at c1
    by_cases hl : 1 ≤ l ∧ l ≤ 10
    · rw [decide_eq_true hl] at c2
      obtain ⟨n, rfl⟩ : ∃ n : Nat, l = n := ⟨l.toNat, by omega⟩
      have hpp := prPos hp
      have h1 : 1 ≤ n := by omega
      have h2 : n ≤ 10 := by omega
      have hwl : IntKind.i64.wrap (n : Int) = n := wrap64 (by omega) (by omega)
      have c3 := repeat1_ok 1 n (by omega)
      have hg := goodRows_of (l := n) hp rfl h1 h2 (one_rows hpp.1 n)
      have c4 := code_ok p n [onesL n] hg (by simp)
      have c4e := code_ok p n [] (goodRows_of (l := n) (n := n) hp rfl h1 h2 (fun _ h => nomatch h)) (by simp)
      have he := (ech_facts hp (one_rows hpp.1 n))
      have c5 := dual_ok p n (echL p [onesL n]) hp h1 h2 (by have := he.1; simp at this; omega) he.2
      have c5e := dual_ok p n [] hp h1 h2 (by simp) (fun _ h => nomatch h)
      rw [dual_all hp] at c5e
      have e0 : echL p [] = [] := rfl
      rw [e0] at c4e
      change CallOK _ _ _ (.one (oInts (onesL n))) at c3
      have e : namR s p n = match namE p n s with
        | some E => ((p, (n : Int), E), 0)
        | none => ((0, 0, []), 4) := by unfold namR; rw [if_pos ⟨hp, hl⟩, Int.toNat_natCast]
      rw [e] at S ⊢
      unfold namE at S ⊢
      unfold sRepeat sEven sAll sZero at S ⊢
      generalize hE1 : echL p [onesL n] = E1 at c4 c5 S ⊢
      generalize hE2 : dualL p n E1 = E2 at c5 S ⊢
      generalize hE3 : echL p (unitsL n) = E3 at c5e S ⊢
      generalize onesL n = on at c3 c4
      cases b1 : (s == ⟨#[114, 101, 112, 101, 97, 116]⟩)
      · cases b2 : (s == ⟨#[101, 118, 101, 110]⟩)
        · cases b3 : (s == ⟨#[97, 108, 108]⟩)
          · cases b4 : (s == ⟨#[122, 101, 114, 111]⟩)
            · simp only [b1, b2, b3, b4] at S ⊢
              simp
              refine CallW.ok (by decide) (by simp) c1 (by simp) (S 60 _ _ ?_)
              simp
              refine CallW.ok (by decide) (by simp) c2 (by simp) (S 60 _ _ ?_)
              simp
              refine CallW.ok (by decide) (by simp) c3 (by simp) (S 60 _ _ ?_)
              simp
              refine BsW.move hF (e := 43) (es := [[oInts on]]) (ks := [1408]) (by decide) rfl rfl rfl (by simp) (by simp) rfl (by decide) (by decide) (by simp) ?_
              refine S 60 _ _ ?_
              simp [b1, b2, b3, b4]
            · simp only [b1, b2, b3, b4] at S ⊢
              simp
              refine CallW.ok (by decide) (by simp) c1 (by simp) (S 60 _ _ ?_)
              simp
              refine CallW.ok (by decide) (by simp) c2 (by simp) (S 60 _ _ ?_)
              simp
              refine CallW.ok (by decide) (by simp) c3 (by simp) (S 60 _ _ ?_)
              simp
              refine BsW.move hF (e := 43) (es := [[oInts on]]) (ks := [1408]) (by decide) rfl rfl rfl (by simp) (by simp) rfl (by decide) (by decide) (by simp) ?_
              refine S 60 _ _ ?_
              simp [b1, b2, b3, b4]
              refine CallW.ok (by decide) (by simp) c4e (by simp) (S 60 _ _ ?_)
              simp
          · simp only [b1, b2, b3] at S ⊢
            simp
            refine CallW.ok (by decide) (by simp) c1 (by simp) (S 60 _ _ ?_)
            simp
            refine CallW.ok (by decide) (by simp) c2 (by simp) (S 60 _ _ ?_)
            simp
            refine CallW.ok (by decide) (by simp) c3 (by simp) (S 60 _ _ ?_)
            simp
            refine BsW.move hF (e := 43) (es := [[oInts on]]) (ks := [1408]) (by decide) rfl rfl rfl (by simp) (by simp) rfl (by decide) (by decide) (by simp) ?_
            refine S 60 _ _ ?_
            simp [b1, b2, b3]
            refine CallW.okA (q := oCode p n []) (by decide) (ArgsOK.cons (ArgOK.of (r := .one (i64 p)) (by simp)) (ArgsOK.cons (ArgOK.of (r := .one (i64 n)) (by simp)) (ArgsOK.cons (ArgOK.nilK (z' := 1)) ArgsOK.nil))) c4e (by simp) (S 60 _ _ ?_)
            simp
            refine CallW.ok (by decide) (by simp) c5e (by simp) (S 60 _ _ ?_)
            simp
        · simp only [b1, b2] at S ⊢
          simp
          refine CallW.ok (by decide) (by simp) c1 (by simp) (S 60 _ _ ?_)
          simp
          refine CallW.ok (by decide) (by simp) c2 (by simp) (S 60 _ _ ?_)
          simp
          refine CallW.ok (by decide) (by simp) c3 (by simp) (S 60 _ _ ?_)
          simp
          refine BsW.move hF (e := 43) (es := [[oInts on]]) (ks := [1408]) (by decide) rfl rfl rfl (by simp) (by simp) rfl (by decide) (by decide) (by simp) ?_
          refine S 60 _ _ ?_
          simp [b1, b2]
          refine CallW.ok (by decide) (by simp) c4 (by simp) (S 60 _ _ ?_)
          simp
          refine CallW.ok (by decide) (by simp) c5 (by simp) (S 60 _ _ ?_)
          simp
      · simp only [b1] at S ⊢
        simp
        refine CallW.ok (by decide) (by simp) c1 (by simp) (S 60 _ _ ?_)
        simp
        refine CallW.ok (by decide) (by simp) c2 (by simp) (S 60 _ _ ?_)
        simp
        refine CallW.ok (by decide) (by simp) c3 (by simp) (S 60 _ _ ?_)
        simp
        refine BsW.move hF (e := 43) (es := [[oInts on]]) (ks := [1408]) (by decide) rfl rfl rfl (by simp) (by simp) rfl (by decide) (by decide) (by simp) ?_
        refine S 60 _ _ ?_
        simp [b1]
        refine CallW.ok (by decide) (by simp) c4 (by simp) (S 60 _ _ ?_)
        simp
    · rw [decide_eq_false hl] at c2
      have e : namR s p l = ((0, 0, []), 2) := by unfold namR; rw [if_neg fun h => hl h.2]
      rw [e] at S ⊢
      simp
      refine CallW.ok (by decide) (by simp) c1 (by simp) (S 60 _ _ ?_)
      simp
      refine CallW.ok (by decide) (by simp) c2 (by simp) (S 60 _ _ ?_)
      simp
  · rw [decide_eq_false hp] at c1
    have e : namR s p l = ((0, 0, []), 2) := by unfold namR; rw [if_neg fun h => hp h.1]
    rw [e] at S ⊢
    simp
    refine CallW.ok (by decide) (by simp) c1 (by simp) (S 60 _ _ ?_)
    simp

theorem ones_take {n i : Nat} (h : i < n) : (onesL n).take (i + 1) = (onesL n).take i ++ [1] := by
  rw [List.take_add_one, List.getElem?_eq_getElem (by simpa [onesL] using h)]
  simp [onesL]

/-- What the reference finds behind a name. -/
def namB (p l : Int) : Option (List (List Int)) → RV
  | some E => .tup [(true, [i64 p, i64 l, oIntss E]), (false, [bo true])]
  | none => .tup [(true, [i64 0, i64 0, oIntss []]), (false, [bo false])]

set_option maxHeartbeats 1000000 in
theorem l10Named_ok (s : ByteArray) (p : Int) (n : Nat) (hp : Pr p) (h1 : 1 ≤ n) (h2 : n ≤ 11) : CallOK Go.Proofs.Tryz.prog 121 [.one (st s), .one (i64 p), .one (i64 n)] (namB p n (namE p n s)) := by
  have hF := fnOk 60 [.cell 6 26, .tmp 7]
  refine callOK hF 60 Go.Proofs.Tryz.func121 rfl rfl rfl (by decide) (by simp) rfl ?_
  intro w0 hw
  have S := @vc_sound w0 _ hF ⟨(namB p n (namE p n s)), []⟩ Go.Proofs.Tryz.f121 rfl (by simp)
  have hpp := prPos hp
  have c4 := l10OfN_ok p n [onesL n] hp (by omega) (by simp) (one_rows hpp.1 n)
  have c4e := l10OfN_ok p n [] hp (by omega) (by simp) (fun _ h => nomatch h)
  have c4u := l10OfN_ok p n (unitsL n) hp (by omega) (by simp [unitsL]; omega) (unitsL_row hpp.1 n)
  have he := (ech_facts hp (one_rows hpp.1 n))
  have c5 := l10Dual_ok p n (echL p [onesL n]) hp h1 h2 (by have := he.1; simp at this; omega) he.2
  have e0 : echL p [] = [] := rfl
  rw [e0] at c4e
  unfold namE at S ⊢
  unfold sRepeat sEven sAll sZero at S ⊢
  generalize hE1 : echL p [onesL n] = E1 at c4 c5 S ⊢
  generalize hE2 : dualL p n E1 = E2 at c5 S ⊢
  generalize hE3 : echL p (unitsL n) = E3 at c4u S ⊢
  have hul : (unitsL n).length = n := by simp [unitsL]
  have hol : (onesL n).length = n := by simp [onesL]
  simp
  refine J.loop hw (fun i : Nat => ⟨[(0, .c (.d (st s))), (1, .c (.d (i64 p))), (2, .c (.d (i64 n))), (6, .c (.ref 64006 0)), (8, .c (.ob 64008)), (9, .c (.ob 64009)), (10, .c (.d (i64 i)))],
      [(64006, .var [.d (i64 0), .d (i64 0), .ob 64007]), (64007, .arr 43 1 []), (64008, .arr 2 1 (ints ((onesL n).take i))), (64009, .arr 43 1 (((unitsL n).take i).map fun xs => [oInts xs]))]⟩)
    (fun i => i ≤ n) (fun i => n - i) 0 (by simp) (by simp) ?_
  intro i hi
  have ha1 : ((onesL n).take i).length = i := by rw [List.length_take, hol]; omega
  have ha2 : ((unitsL n).take i).length = i := by rw [List.length_take, hul]; omega
  have hs1 := fun h : i < n => ones_take h
  have hs2 := fun h : i < n => unitsL_take h
  have hn1 : n ≤ i → (onesL n).take i = onesL n := fun h => List.take_of_length_le (by omega)
  have hn2 : n ≤ i → (unitsL n).take i = unitsL n := fun h => List.take_of_length_le (by omega)
  generalize ho1 : (onesL n).take i = o1 at ha1 hs1 hn1
  generalize ho2 : (unitsL n).take i = o2 at ha2 hs2 hn2
  refine S 12 _ _ ?_
  simp
  refine ⟨fun hlt => ?_, fun hge => ?_⟩
  · have hs1 := hs1 hlt
    have hs2 := hs2 hlt
    refine S 60 _ _ ?_
    simp [ints_set_unit]
    refine ⟨⟨by omega, by omega⟩, hlt, ⟨by omega, by omega⟩, ?_⟩
    refine BsW.move hF (e := 43) (es := [[oInts (unitR n i)]]) (ks := [1280]) (by decide) rfl rfl rfl (by simp) (by simp) rfl (by decide) (by decide) (by simp) ?_
    refine S 60 _ _ ?_
    simp [ha2]
    have hs1' : List.take (i + 1) (List.map (fun i => [D.v (Value.int IntKind.i64 i)]) (onesL n)) = ints o1 ++ [[i64 1]] := by rw [← List.map_take, hs1]; simp
    have hs2' : List.take (i + 1) (List.map (fun xs => [oInts xs]) (unitsL n)) = o2.map (fun xs => [oInts xs]) ++ [[oInts (unitR n i)]] := by rw [← List.map_take, hs2]; simp
    exact ⟨⟨by omega, by omega⟩, Nxt.mk (i + 1) hlt (by simp [wrapS (i := i) (n := n) hlt (by omega), hs1', hs2']) (by omega)⟩
  · have hn1 := hn1 hge
    have hn2 := hn2 hge
    rw [← hn1] at c4
    rw [← hn2] at c4u
    clear hs1 hs2
    cases b1 : (s == ⟨#[114, 101, 112, 101, 97, 116]⟩)
    · cases b2 : (s == ⟨#[101, 118, 101, 110]⟩)
      · cases b3 : (s == ⟨#[97, 108, 108]⟩)
        · cases b4 : (s == ⟨#[122, 101, 114, 111]⟩)
          · simp only [b1, b2, b3, b4, namB] at S ⊢
            refine S 60 _ _ ?_
            simp [b1, b2, b3, b4]
          · simp only [b1, b2, b3, b4, namB] at S ⊢
            refine S 60 _ _ ?_
            simp [b1, b2, b3, b4]
            refine CallW.ok (by decide) (by simp) c4e (by simp) (S 60 _ _ ?_)
            simp
        · simp only [b1, b2, b3, namB] at S ⊢
          refine S 60 _ _ ?_
          simp [b1, b2, b3]
          refine CallW.ok (by decide) (by simp) c4u (by simp) (S 60 _ _ ?_)
          simp
      · simp only [b1, b2, namB] at S ⊢
        refine S 60 _ _ ?_
        simp [b1, b2]
        refine BsW.move hF (e := 43) (es := [[oInts o1]]) (ks := [64008]) (by decide) rfl rfl rfl (by simp) (by simp) rfl (by decide) (by decide) (by simp) ?_
        refine S 60 _ _ ?_
        simp
        refine CallW.ok (by decide) (by simp) c4 (by simp) (S 60 _ _ ?_)
        simp
        refine CallW.ok (by decide) (by simp) c5 (by simp) (S 60 _ _ ?_)
        simp
    · simp only [b1, namB] at S ⊢
      refine S 60 _ _ ?_
      simp [b1]
      refine BsW.move hF (e := 43) (es := [[oInts o1]]) (ks := [64008]) (by decide) rfl rfl rfl (by simp) (by simp) rfl (by decide) (by decide) (by simp) ?_
      refine S 60 _ _ ?_
      simp
      refine CallW.ok (by decide) (by simp) c4 (by simp) (S 60 _ _ ?_)
      simp

theorem specNamedCode_ok (s : ByteArray) (p l : Int) (_ : s.size ≤ 1048576) : CallOK Go.Proofs.Tryz.prog 30 [.one (st s), .one (i64 p), .one (i64 l)] (cres (namR s p l)) := by
  have hF := fnOk 30 [.cell 6 26, .tmp 7]
  refine callOK hF 60 Go.Proofs.Tryz.func30 rfl rfl rfl (by decide) (by simp) rfl ?_
  intro w0 hw
  have S := @vc_sound w0 _ hF ⟨(cres (namR s p l)), []⟩ Go.Proofs.Tryz.f30 rfl (by simp)
  have c1 := l01Prime_ok p
  have c2 := l01In_ok l 1 10
  by_cases hp : Pr p
  · rw [decide_eq_true hp] at c1
    by_cases hl : 1 ≤ l ∧ l ≤ 10
    · rw [decide_eq_true hl] at c2
      obtain ⟨n, rfl⟩ : ∃ n : Nat, l = n := ⟨l.toNat, by omega⟩
      have c3 := l10Named_ok s p n hp (by omega) (by omega)
      have e : namR s p n = match namE p n s with
        | some E => ((p, (n : Int), E), 0)
        | none => ((0, 0, []), 4) := by unfold namR; rw [if_pos ⟨hp, hl⟩, Int.toNat_natCast]
      rw [e] at S ⊢
      cases hE : namE p n s with
      | none =>
        rw [hE] at c3
        simp only [hE, namB] at c3 S ⊢
        simp
        refine CallW.ok (by decide) (by simp) c1 (by simp) (S 60 _ _ ?_)
        simp
        refine CallW.ok (by decide) (by simp) c2 (by simp) (S 60 _ _ ?_)
        simp
        refine CallW.ok (by decide) (by simp) c3 (by simp) (S 60 _ _ ?_)
        simp
      | some E =>
        rw [hE] at c3
        simp only [hE, namB] at c3 S ⊢
        simp
        refine CallW.ok (by decide) (by simp) c1 (by simp) (S 60 _ _ ?_)
        simp
        refine CallW.ok (by decide) (by simp) c2 (by simp) (S 60 _ _ ?_)
        simp
        refine CallW.ok (by decide) (by simp) c3 (by simp) (S 60 _ _ ?_)
        simp
    · rw [decide_eq_false hl] at c2
      have e : namR s p l = ((0, 0, []), 2) := by unfold namR; rw [if_neg fun h => hl h.2]
      rw [e] at S ⊢
      simp
      refine CallW.ok (by decide) (by simp) c1 (by simp) (S 60 _ _ ?_)
      simp
      refine CallW.ok (by decide) (by simp) c2 (by simp) (S 60 _ _ ?_)
      simp
  · rw [decide_eq_false hp] at c1
    have e : namR s p l = ((0, 0, []), 2) := by unfold namR; rw [if_neg fun h => hp h.1]
    rw [e] at S ⊢
    simp
    refine CallW.ok (by decide) (by simp) c1 (by simp) (S 60 _ _ ?_)
    simp

end Go.Sm
