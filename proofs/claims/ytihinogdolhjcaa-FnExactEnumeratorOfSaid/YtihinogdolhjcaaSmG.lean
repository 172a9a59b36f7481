/- Elements and their values; literals of slices; make; append. -/
import Derived.Test.YtihinogdolhjcaaSmF
namespace Go.Sm
open Go.RowKit

variable {P : Program} {N : Nat} {w0 : Base} {s : St} {a : Act} {w : World} {β : Nat → Value}

def DsV (Q : D → Value → Prop) : List D → List Value → Prop
  | [], vs => vs = []
  | x :: xs, vs => ∃ v r, vs = v :: r ∧ Q x v ∧ DsV Q xs r
def EsV (Q : D → Value → Prop) (k : Nat) : List (List D) → List Value → Prop
  | [], vs => vs = []
  | e :: es, vs => ∃ u r, vs = u ++ r ∧ e.length = k ∧ DsV Q e u ∧ EsV Q k es r

theorem DsV.length {Q : D → Value → Prop} : ∀ {xs : List D} {vs : List Value}, DsV Q xs vs → vs.length = xs.length
  | [], vs, h => by simp only [DsV] at h; subst h; rfl
  | x :: xs, vs, h => by obtain ⟨v, r, rfl, _, h⟩ := h; simp [h.length]
theorem EsV.length {Q : D → Value → Prop} {k : Nat} : ∀ {xs : List (List D)} {vs : List Value}, EsV Q k xs vs → vs.length = xs.length * k
  | [], vs, h => by simp only [EsV] at h; subst h; simp
  | x :: xs, vs, h => by obtain ⟨u, r, rfl, hk, hu, h⟩ := h; simp [h.length, hu.length, hk, Nat.add_mul]; omega
theorem DsV.mono {Q Q' : D → Value → Prop} (hq : ∀ x v, Q x v → Q' x v) : ∀ {xs : List D} {vs : List Value}, DsV Q xs vs → DsV Q' xs vs
  | [], vs, h => h
  | x :: xs, vs, h => by obtain ⟨v, r, rfl, h1, h⟩ := h; exact ⟨v, r, rfl, hq _ _ h1, h.mono hq⟩
theorem EsV.mono {Q Q' : D → Value → Prop} {k : Nat} (hq : ∀ x v, Q x v → Q' x v) : ∀ {xs : List (List D)} {vs : List Value}, EsV Q k xs vs → EsV Q' k xs vs
  | [], vs, h => h
  | x :: xs, vs, h => by obtain ⟨u, r, rfl, h0, h1, h⟩ := h; exact ⟨u, r, rfl, h0, h1.mono hq, h.mono hq⟩
theorem EsV.append {Q : D → Value → Prop} {k : Nat} : ∀ {xs ys : List (List D)} {vs us : List Value}, EsV Q k xs vs → EsV Q k ys us → EsV Q k (xs ++ ys) (vs ++ us)
  | [], ys, vs, us, h, h' => by simp only [EsV] at h; subst h; simpa using h'
  | x :: xs, ys, vs, us, h, h' => by
    obtain ⟨u, r, rfl, h0, h1, h⟩ := h
    exact ⟨u, r ++ us, by simp, h0, h1, h.append h'⟩

theorem RdCs.vals {w : World} {B : Nat → Prop} {M : Nat → Prop} {b : Nat} : ∀ {xs : List D} {off : Nat}, RdCs w B M xs b off →
    ∃ vs, DsV (Rd w B M) xs vs ∧ ∀ (j : Nat) (u : Value), vs[j]? = some u → w.cell? ⟨b, off + j, none⟩ = some u
  | [], off, _ => ⟨[], rfl, fun _ _ h => by simp at h⟩
  | x :: xs, off, h => by
    simp only [RdCs] at h
    obtain ⟨⟨c, hc, hr⟩, h2⟩ := h
    obtain ⟨vs, h3, h4⟩ := RdCs.vals h2
    refine ⟨c :: vs, ⟨c, vs, rfl, hr, h3⟩, fun j u hj => ?_⟩
    cases j with
    | zero => simp at hj; subst hj; simpa using hc
    | succ j => rw [← h4 j u (by simpa using hj)]; congr 2; omega

theorem RdCs.ofV {w : World} {B : Nat → Prop} {M : Nat → Prop} {b : Nat} : ∀ {xs : List D} {vs : List Value} {off : Nat}, DsV (Rd w B M) xs vs →
    (∀ (j : Nat) (u : Value), vs[j]? = some u → w.cell? ⟨b, off + j, none⟩ = some u) → RdCs w B M xs b off
  | [], vs, off, _, _ => by simp only [RdCs]
  | x :: xs, vs, off, h, hc => by
    obtain ⟨v, r, rfl, h1, h⟩ := h
    simp only [RdCs]
    refine ⟨⟨v, by simpa using hc 0 v rfl, h1⟩, RdCs.ofV h fun j u hj => ?_⟩
    rw [← hc (j + 1) u (by simpa using hj)]; congr 2; omega

theorem RdEs.vals {w : World} {B : Nat → Prop} {M : Nat → Prop} {b k : Nat} : ∀ {xs : List (List D)} {off : Nat}, RdEs w B M k xs b off →
    ∃ vs, EsV (Rd w B M) k xs vs ∧ ∀ (j : Nat) (u : Value), vs[j]? = some u → w.cell? ⟨b, off + j, none⟩ = some u
  | [], off, _ => ⟨[], rfl, fun _ _ h => by simp at h⟩
  | e :: es, off, h => by
    simp only [RdEs] at h
    obtain ⟨hk, h1, h2⟩ := h
    obtain ⟨us, h3, h4⟩ := RdCs.vals h1
    obtain ⟨vs, h5, h6⟩ := RdEs.vals h2
    have hl : us.length = k := by rw [h3.length, hk]
    refine ⟨us ++ vs, ⟨us, vs, rfl, hk, h3, h5⟩, fun j u hj => ?_⟩
    rw [List.getElem?_append] at hj
    split at hj
    · exact h4 j u hj
    · rw [← h6 _ u hj]; congr 2; omega

theorem RdEs.ofV {w : World} {B : Nat → Prop} {M : Nat → Prop} {b k : Nat} : ∀ {xs : List (List D)} {vs : List Value} {off : Nat}, EsV (Rd w B M) k xs vs →
    (∀ (j : Nat) (u : Value), vs[j]? = some u → w.cell? ⟨b, off + j, none⟩ = some u) → RdEs w B M k xs b off
  | [], vs, off, _, _ => by simp only [RdEs]
  | x :: xs, vs, off, h, hc => by
    obtain ⟨u, r, rfl, h0, h1, h⟩ := h
    have hl := h1.length
    simp only [RdEs]
    refine ⟨h0, RdCs.ofV h1 fun j y hj => hc j y ?_, RdEs.ofV h fun j y hj => ?_⟩
    · rw [List.getElem?_append_left (by have := (List.getElem?_eq_some_iff.1 hj).1; omega)]; exact hj
    · rw [← hc (k + j) y ?_]
      · congr 2; omega
      · rw [List.getElem?_append_right (by omega), ← hj]; congr 1; omega

/-! The blocks of one's own in elements, off their values. -/
def fpDs (w : World) : List D → List Value → List Nat
  | [], _ => []
  | x :: xs, vs => fp w x (vs.headD undef) ++ fpDs w xs vs.tail
def fpVs (w : World) (k : Nat) : List (List D) → List Value → List Nat
  | [], _ => []
  | e :: es, vs => fpDs w e vs ++ fpVs w k es (vs.drop k)

theorem fpCs_vals {w : World} {b : Nat} : ∀ (xs : List D) (vs : List Value) (off : Nat), vs.length ≥ xs.length →
    (∀ (j : Nat) (u : Value), j < xs.length → vs[j]? = some u → w.cell? ⟨b, off + j, none⟩ = some u) → fpCs w xs b off = fpDs w xs vs
  | [], _, _, _, _ => by simp only [fpCs, fpDs]
  | x :: xs, [], off, h, _ => by simp at h
  | x :: xs, v :: vs, off, h, hc => by
    simp only [fpCs, fpDs, List.headD_cons, List.tail_cons]
    rw [show w.cell? ⟨b, off, none⟩ = some v by simpa using hc 0 v (by simp) rfl]
    rw [fpCs_vals xs vs (off + 1) (by simpa using h) fun j u hj hu => by
      have := hc (j + 1) u (by simpa using hj) (by simpa using hu)
      rw [← this]; congr 2; omega]
    rfl

theorem fpEs_vals {w : World} {Q : D → Value → Prop} {b k : Nat} : ∀ (xs : List (List D)) (vs : List Value) (off : Nat), EsV Q k xs vs →
    (∀ (j : Nat) (u : Value), vs[j]? = some u → w.cell? ⟨b, off + j, none⟩ = some u) → fpEs w k xs b off = fpVs w k xs vs
  | [], _, _, _, _ => by simp only [fpEs, fpVs]
  | e :: es, vs, off, h, hc => by
    obtain ⟨u, r, rfl, h0, h1, h⟩ := h
    have hl := h1.length
    simp only [fpEs, fpVs]
    rw [fpCs_vals e (u ++ r) off (by simp; omega) fun j y _ hy => hc j y hy]
    rw [show (u ++ r).drop k = r by rw [← h0, ← hl]; simp]
    rw [fpEs_vals es r (off + k) h fun j y hj => by
      rw [← hc (k + j) y (by rw [List.getElem?_append_right (by omega), ← hj]; congr 1; omega)]; congr 2; omega]

theorem fpDs_keep {w w' : World} {B : Nat → Prop} {M M' : Nat → Prop} (K : Keeps w w' M M') : ∀ {xs : List D} {vs : List Value}, DsV (Rd w B M) xs vs → fpDs w' xs vs = fpDs w xs vs
  | [], _, _ => by simp only [fpDs]
  | x :: xs, vs, h => by
    obtain ⟨v, r, rfl, h1, h⟩ := h
    simp only [fpDs, List.headD_cons, List.tail_cons]
    rw [fp.keep K x v h1, fpDs_keep K h]
theorem fpDs_append (w : World) : ∀ (xs : List D) (vs us : List Value), xs.length ≤ vs.length → fpDs w xs (vs ++ us) = fpDs w xs vs
  | [], _, _, _ => by simp only [fpDs]
  | x :: xs, [], us, h => by simp at h
  | x :: xs, v :: vs, us, h => by
    simp only [fpDs, List.cons_append, List.headD_cons, List.tail_cons]
    rw [fpDs_append w xs vs us (by simpa using h)]
theorem fpVs_keep {w w' : World} {B : Nat → Prop} {M M' : Nat → Prop} (K : Keeps w w' M M') {k : Nat} : ∀ {xs : List (List D)} {vs : List Value}, EsV (Rd w B M) k xs vs → fpVs w' k xs vs = fpVs w k xs vs
  | [], _, _ => by simp only [fpVs]
  | x :: xs, vs, h => by
    obtain ⟨u, r, rfl, h0, h1, h⟩ := h
    have hl := h1.length
    simp only [fpVs]
    rw [show (u ++ r).drop k = r by rw [← h0, ← hl]; simp, fpVs_keep K h, fpDs_append w' x u r (by omega), fpDs_append w x u r (by omega), fpDs_keep K h1]
theorem fpVs_append {w : World} {Q : D → Value → Prop} {k : Nat} : ∀ {xs ys : List (List D)} {vs us : List Value}, EsV Q k xs vs → fpVs w k (xs ++ ys) (vs ++ us) = fpVs w k xs vs ++ fpVs w k ys us
  | [], ys, vs, us, h => by simp only [EsV] at h; subst h; simp [fpVs]
  | x :: xs, ys, vs, us, h => by
    obtain ⟨u, r, rfl, h0, h1, h⟩ := h
    have hl := h1.length
    simp only [List.cons_append, fpVs]
    rw [List.append_assoc, show (u ++ (r ++ us)).drop k = r ++ us by rw [← h0, ← hl]; simp, show (u ++ r).drop k = r by rw [← h0, ← hl]; simp, fpVs_append h,
      fpDs_append w x u (r ++ us) (by omega), fpDs_append w x u r (by omega), List.append_assoc]

def noOwn : D → Bool := fun x => !x.isOwn
theorem fp_noOwn {w : World} {x : D} (h : noOwn x = true) (c : Value) : fp w x c = [] := by
  cases x <;> simp [noOwn, D.isOwn] at h <;> simp only [fp]
theorem fpDs_noOwn {w : World} : ∀ {xs : List D} (vs : List Value), xs.all noOwn = true → fpDs w xs vs = []
  | [], _, _ => by simp only [fpDs]
  | x :: xs, vs, h => by
    simp only [List.all_cons, Bool.and_eq_true] at h
    simp only [fpDs]
    rw [fp_noOwn h.1, fpDs_noOwn _ h.2]; rfl
theorem fpVs_noOwn {w : World} {k : Nat} : ∀ {xs : List (List D)} (vs : List Value), xs.all (fun e => e.all noOwn) = true → fpVs w k xs vs = []
  | [], _, _ => by simp only [fpVs]
  | x :: xs, vs, h => by
    simp only [List.all_cons, Bool.and_eq_true] at h
    simp only [fpVs]
    rw [fpDs_noOwn _ h.1, fpVs_noOwn _ h.2]; rfl

/-- What an array of one's own holds, by values. -/
theorem OwnRel.vals {w : World} {B : Nat → Prop} {M : Nat → Prop} {e k : Nat} {xs : List (List D)} {c : Value} (h : OwnRel w B M e k xs c) :
    (xs = [] ∧ c = nilV) ∨ ∃ g cap cur vs, c = .slice (some ⟨g, 0, none⟩) xs.length cap ∧ xs.length ≤ cap ∧ w.heap[g]? = some (.cells cur e (0, 0)) ∧ cap ≤ maxLen ∧ cur.size = cap * k ∧
      EsV (Rd w B M) k xs vs ∧ cur.toList.take (xs.length * k) = vs := by
  rcases h with h | ⟨g, cap, cur, h1, h2, h3, h4, h5, h6⟩
  · exact .inl h
  · obtain ⟨vs, hv, hc⟩ := h6.vals
    refine .inr ⟨g, cap, cur, vs, h1, h2, h3, h4, h5, hv, ?_⟩
    have hl := hv.length
    have hle : xs.length * k ≤ cap * k := Nat.mul_le_mul_right k h2
    apply List.ext_getElem?
    intro j
    rw [List.getElem?_take]
    split
    · rename_i hj
      have hj' : j < vs.length := by omega
      have := hc j vs[j] (by simp [hj'])
      rw [cell_of_row w g (0 + j) cur e (0, 0) h3] at this
      simp only [Nat.zero_add] at this
      simp [this, hj']
    · rename_i hj
      rw [List.getElem?_eq_none (by omega)]

/-- Back: a block whose first cells are the elements' values. -/
theorem OwnRel.ofV {w : World} {B : Nat → Prop} {M : Nat → Prop} {e k : Nat} {xs : List (List D)} {g cap : Nat} {cur : Array Value} {vs : List Value} (h2 : xs.length ≤ cap)
    (h3 : w.heap[g]? = some (.cells cur e (0, 0))) (h4 : cap ≤ maxLen) (h5 : cur.size = cap * k) (hv : EsV (Rd w B M) k xs vs) (hc : cur.toList.take (xs.length * k) = vs) :
    OwnRel w B M e k xs (.slice (some ⟨g, 0, none⟩) xs.length cap) ∧ fp w (.own e k xs) (.slice (some ⟨g, 0, none⟩) xs.length cap) = g :: fpVs w k xs vs := by
  have hcell : ∀ (j : Nat) (u : Value), vs[j]? = some u → w.cell? ⟨g, 0 + j, none⟩ = some u := by
    intro j u hj
    rw [cell_of_row w g (0 + j) cur e (0, 0) h3, Nat.zero_add]
    rw [← hc, List.getElem?_take] at hj
    split at hj
    · simpa using hj
    · cases hj
  exact ⟨.inr ⟨g, cap, cur, rfl, h2, h3, h4, h5, RdEs.ofV hv hcell⟩, by rw [fp_own_some, fpEs_vals xs vs 0 hv hcell]⟩

theorem OwnRel.fp_vals {w : World} {B : Nat → Prop} {M : Nat → Prop} {e k : Nat} {xs : List (List D)} {g cap : Nat} {cur : Array Value} {vs : List Value}
    (h2 : xs.length ≤ cap) (h3 : w.heap[g]? = some (.cells cur e (0, 0))) (h4 : cap ≤ maxLen) (h5 : cur.size = cap * k) (hv : EsV (Rd w B M) k xs vs) (hc : cur.toList.take (xs.length * k) = vs) :
    fp w (.own e k xs) (.slice (some ⟨g, 0, none⟩) xs.length cap) = g :: fpVs w k xs vs := (OwnRel.ofV h2 h3 h4 h5 hv hc).2

/-! ### append -/

/-- What append gives: nothing has turned (nil and nothing), the row was long enough, or a new row. -/
theorem run_append_cases {t ty e : TypeId} {i : TypeInfo} {z : Value} {size bytes : Nat} (ht : P.underlying t = some (.slice e)) (hi : P.info? e = some i) (hz : i.zero = some z)
    (hsize : i.size = size) (hby : i.bytes = bytes) (hzs : z.cells.size = size) {v : Value} {n : Nat} {xs : List Value} (hxs : xs.length = n * size)
    (hown : (v = nilV ∧ n = 0) ∨ ∃ g cap cur, v = .slice (some ⟨g, 0, none⟩) n cap ∧ n ≤ cap ∧ w.heap[g]? = some (.cells cur e (0, 0)) ∧ cap ≤ maxLen ∧ cur.size = cap * size ∧ cur.toList.take (n * size) = xs)
    {x : Value} {m : Nat} {news : List Value} (hl : news.length = m * size)
    (hx : (x = nilV ∧ m = 0) ∨ ∃ ad c, x = .slice (some ad) m c ∧ ∀ j u, news[j]? = some u → w.cell? (ad.add j) = some u) (h1 : ∀ u ∈ news, u.oneCell' = true)
    (h63 : n + m ≤ maxLen) (hbytes : (n + m) * bytes ≤ 140737488355328) :
    ∃ v' w', (Builtin.append_ #[t, t] ty #[v, x]).run P w = .ok v' w' ∧
      ((v' = nilV ∧ v = nilV ∧ n + m = 0 ∧ w' = w) ∨
       (∃ g cap cur, v = .slice (some ⟨g, 0, none⟩) n cap ∧ v' = .slice (some ⟨g, 0, none⟩) (n + m) cap ∧ w.heap[g]? = some (.cells cur e (0, 0)) ∧ n + m ≤ cap ∧ cap ≤ maxLen ∧
          ∃ cur', cur'.size = cap * size ∧ cur'.toList.take ((n + m) * size) = xs ++ news ∧ w' = w.setRow g cur') ∨
       (∃ cap cur', v' = .slice (some ⟨w.heap.size, 0, none⟩) (n + m) cap ∧ n + m ≤ cap ∧ cap ≤ maxLen ∧ cur'.size = cap * size ∧ cur'.toList.take ((n + m) * size) = xs ++ news ∧
          w' = w.drew.alloc (.cells cur' e))) := by
  subst hsize
  subst hby
  have hsmall : n + m ≤ 9223372036854775807 := by simp only [maxLen] at h63; omega
  have hlen : (xs ++ news).length = (n + m) * i.size := by rw [List.length_append, hxs, hl, Nat.add_mul]
  rcases hx with ⟨rfl, rfl⟩ | ⟨ad, c, rfl, hnews⟩
  · have hn : news = [] := List.eq_nil_of_length_eq_zero (by simpa using hl)
    subst hn
    rcases hown with ⟨rfl, rfl⟩ | ⟨g, cap, cur, rfl, hnc, hg, hcm, hcs, htake⟩
    · refine ⟨nilV, w, ?_, .inl ⟨rfl, rfl, rfl, rfl⟩⟩
      simp [nilV, Builtin.append_, run_underlying ht, sizeOf, typeInfo, hi, Builtin.lenOf, Builtin.firstCells]
    · refine ⟨.slice (some ⟨g, 0, none⟩) n cap, w, ?_, .inr (.inl ⟨g, cap, cur, rfl, by simp, hg, by simpa using hnc, hcm, cur, hcs, by simpa using htake, (setRow_self w g cur e (0, 0) hg).symm⟩)⟩
      simp [nilV, Builtin.append_, run_underlying ht, sizeOf, typeInfo, hi, Builtin.lenOf, Builtin.firstCells, hnc, storeCells]
  have grown : ∀ (old : Nat), ∀ cur', cur' = xs.toArray ++ news.toArray ++ Builtin.zeroCells z.cells (grownCap w (n + m) old e - (n + m)) →
      n + m ≤ grownCap w (n + m) old e ∧ grownCap w (n + m) old e ≤ maxLen ∧ cur'.size = grownCap w (n + m) old e * i.size ∧ cur'.toList.take ((n + m) * i.size) = xs ++ news := by
    intro old cur' hcur
    have hge := grownCap_ge w (n + m) old e
    refine ⟨hge, grownCap_le_maxLen w (n + m) old e h63, ?_, ?_⟩
    · subst hcur
      simp only [Array.size_append, List.size_toArray, size_zeroCells, hzs, hxs, hl, ← Nat.add_mul]
      congr 1
      omega
    · subst hcur
      simp only [Array.toList_append, List.append_assoc]
      rw [← List.append_assoc, ← hlen]
      exact List.take_left
  rcases hown with ⟨rfl, rfl⟩ | ⟨g, cap, cur, rfl, hnc, hg, hcm, hcs, htake⟩
  · have hx : xs = [] := List.eq_nil_of_length_eq_zero (by simpa using hxs)
    subst hx
    by_cases hm : m = 0
    · subst hm
      have hn : news = [] := List.eq_nil_of_length_eq_zero (by simpa using hl)
      subst hn
      refine ⟨nilV, w, ?_, .inl ⟨rfl, rfl, rfl, rfl⟩⟩
      simp [nilV, Builtin.append_, run_underlying ht, sizeOf, typeInfo, hi, Builtin.lenOf, Builtin.firstCells, loadCells, loadCellsFrom]
    · have hr := run_append_nil (P := P) w t ty e i z ht hi hz ad m c news hl hnews (by omega) (by omega) (by have hb := hbytes; simp only [Nat.zero_add] at hb; omega)
      have hgr := grown 0 _ rfl
      simp only [Nat.zero_add, List.nil_append] at hgr hr ⊢
      exact ⟨_, _, hr, .inr (.inr ⟨_, _, rfl, hgr.1, hgr.2.1, by simpa using hgr.2.2.1, by simpa using hgr.2.2.2, rfl⟩)⟩
  · by_cases hroom : n + m ≤ cap
    · have hfit : n * i.size + news.length ≤ cur.size := by rw [hl, hcs, ← Nat.add_mul]; exact Nat.mul_le_mul_right _ hroom
      have hr := run_append_room (P := P) w t ty e i ht hi g n cap cur hg ad m c news hl hnews h1 hroom hfit
      refine ⟨_, _, hr, .inr (.inl ⟨g, cap, cur, rfl, rfl, hg, hroom, hcm, _, ?_, ?_, rfl⟩)⟩
      · simp only [List.size_toArray, List.length_append, List.length_take, List.length_drop, Array.length_toList]
        omega
      · show List.take _ (cur.toList.take (n * i.size) ++ news ++ cur.toList.drop (n * i.size + news.length)) = _
        rw [htake, ← hlen]
        exact List.take_left
    · have holds : ∀ j u, xs[j]? = some u → w.cell? ((⟨g, 0, none⟩ : Addr).add j) = some u := by
        intro j u hu
        rw [Addr.add_lit, cell_of_row w g (0 + j) cur e (0, 0) hg, Nat.zero_add]
        rw [← htake, List.getElem?_take] at hu
        split at hu
        · simpa using hu
        · cases hu
      have hr := run_append_grow (P := P) w t ty e i z ht hi hz ⟨g, 0, none⟩ n cap xs hxs holds ad m c news hl hnews (by omega) (by omega) (growslice_fits (by omega) hbytes)
      have hgr := grown cap _ rfl
      exact ⟨_, _, hr, .inr (.inr ⟨_, _, rfl, hgr.1, hgr.2.1, hgr.2.2.1, hgr.2.2.2, rfl⟩)⟩

end Go.Sm
