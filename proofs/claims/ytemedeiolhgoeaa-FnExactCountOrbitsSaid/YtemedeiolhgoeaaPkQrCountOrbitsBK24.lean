/- Towards FnExactCountOrbitsSaid: the program's function returns what the reference's returns. Towards it. -/
import Derived.WalkKit
import Derived.ProofKit
import Derived.OpenShut
import Derived.ShutString
import Derived.ChangeOld
import Derived.Below
import Derived.SizedLaws
import Derived.Test.YtemedeiolhgoeaaRows
import Derived.Test.YtemedeiolhgoeaaPkQrCountOrbitsBK2
import Derived.Test.YtemedeiolhgoeaaPkQrCountOrbitsBK7
import Derived.Test.YtemedeiolhgoeaaPkQrCountOrbitsBK23
namespace Go.Sm
open Go.RowKit Go.WideShapes Go.ChangeShapes Go.ChangeAt

/-- The cells of a type. -/
inductive Sh where
  | ki (k : IntKind)
  | kb
  | kt
  | ka (es : List Sh)

mutual
def DSh : Sh → D → Prop
  | .ki k, d => ∃ n, d = .v (.int k n) ∧ (Lit.int k n).wf = true
  | .kb, d => ∃ x, d = .v (.bool x)
  | .kt, d => ∃ x, d = .v (.string x)
  | .ka es, d => ∃ xs, d = .vw true es.length xs ∧ xs.length ≤ maxLen ∧ ∀ e ∈ xs, DShs es e
def DShs : List Sh → List D → Prop
  | [], ds => ds = []
  | s :: ss, ds => ∃ d r, ds = d :: r ∧ DSh s d ∧ DShs ss r
end
theorem DShs.length : ∀ {ss : List Sh} {ds : List D}, DShs ss ds → ds.length = ss.length
  | [], ds, h => by simp only [DShs] at h; subst h; rfl
  | s :: ss, ds, h => by
    simp only [DShs] at h
    obtain ⟨d, r, rfl, _, h⟩ := h
    simp [h.length]
theorem DShs.append : ∀ {ss tt : List Sh} {ds es : List D}, DShs ss ds → DShs tt es → DShs (ss ++ tt) (ds ++ es)
  | [], _, ds, _, h, h' => by simp only [DShs] at h; subst h; exact h'
  | s :: ss, tt, ds, es, h, h' => by
    simp only [DShs] at h
    obtain ⟨d, r, rfl, h1, h2⟩ := h
    simp only [List.cons_append, DShs]
    exact ⟨d, _, rfl, h1, h2.append h'⟩
theorem DSh.noOwn : ∀ {s : Sh} {d : D}, DSh s d → noOwn d = true
  | .ki k, d, h => by simp only [DSh] at h; obtain ⟨n, rfl, _⟩ := h; rfl
  | .kb, d, h => by simp only [DSh] at h; obtain ⟨n, rfl⟩ := h; rfl
  | .kt, d, h => by simp only [DSh] at h; obtain ⟨n, rfl⟩ := h; rfl
  | .ka es, d, h => by simp only [DSh] at h; obtain ⟨n, rfl, _⟩ := h; rfl
theorem DShs.noOwn : ∀ {ss : List Sh} {ds : List D}, DShs ss ds → ds.all noOwn = true
  | [], ds, h => by simp only [DShs] at h; subst h; rfl
  | s :: ss, ds, h => by
    simp only [DShs] at h
    obtain ⟨d, r, rfl, h1, h⟩ := h
    rw [List.all_cons, h1.noOwn, h.noOwn]; rfl

/-- The parts of a struct, one behind the other. -/
def flatFs (f : TypeId → Option (List Sh)) (sz : TypeId → Nat) : List Field → List Sh → Option (List Sh)
  | [], acc => some acc
  | x :: xs, acc => match f x.type with
    | some ss => if x.offset = acc.length ∧ sz x.type = ss.length then flatFs f sz xs (acc ++ ss) else none
    | none => none
def flatT (P : Program) : Nat → TypeId → Option (List Sh)
  | 0, _ => none
  | n + 1, t => match P.underlying t with
    | some (.int k) => some [.ki k]
    | some .bool => some [.kb]
    | some .string => some [.kt]
    | some (.slice e) => match flatT P n e with
      | some es => if es.length ≠ 0 ∧ P.cellsOf e = es.length then some [.ka es] else none
      | none => none
    | some (.struct fs) => match flatFs (flatT P n) P.cellsOf fs.toList [] with
      | some ss => if P.cellsOf t = ss.length then some ss else none
      | none => none
    | some (.array m e) => match flatT P n e with
      | some es => if P.cellsOf e = es.length ∧ P.cellsOf t = m * es.length then some (List.replicate m es).flatten else none
      | none => none
    | _ => none

variable {H : Type} {enc : TypeId × Value → H} {P : Program} {W : World} {base : Nat} {spare : Nat → Bool} {held : Bool}

def Good (_ : Program) (W : World) (ss : List Sh) (cs : List Value) : Prop := ∃ ds, DShs ss ds ∧ DsV (Rd W (Old W) fun _ => False) ds cs

theorem Good.append {ss tt : List Sh} {cs cs' : List Value} (h : Good P W ss cs) (h' : Good P W tt cs') : Good P W (ss ++ tt) (cs ++ cs') := by
  obtain ⟨ds, h1, h2⟩ := h
  obtain ⟨es, h3, h4⟩ := h'
  exact ⟨ds ++ es, h1.append h3, h2.append h4⟩

theorem good_fields {f : TypeId → Option (List Sh)} {sz : TypeId → Nat} {cs : List Value} : ∀ {fs : List Field} {acc ss : List Sh}, flatFs f sz fs acc = some ss → Good P W acc (cs.take acc.length) → acc.length ≤ cs.length → ss.length ≤ cs.length →
    (∀ x ∈ fs, ∀ s, f x.type = some s → Good P W s ((cs.drop x.offset).take (sz x.type))) → Good P W ss (cs.take ss.length)
  | [], acc, ss, h, hg, _, _, _ => by simp only [flatFs, Option.some.injEq] at h; subst h; exact hg
  | x :: fs, acc, ss, h, hg, hl, hl2, hx => by
    simp only [flatFs] at h
    split at h
    · rename_i s hs
      split at h
      · rename_i hc
        have g := hx x (List.mem_cons_self ..) s hs
        rw [hc.1, hc.2] at g
        have hmono : ∀ {fs : List Field} {acc ss : List Sh}, flatFs f sz fs acc = some ss → acc.length ≤ ss.length := by
          intro fs
          induction fs with
          | nil => intro acc ss h; simp only [flatFs, Option.some.injEq] at h; subst h; exact Nat.le_refl _
          | cons y fs ih =>
            intro acc ss h
            simp only [flatFs] at h
            split at h
            · split at h
              · have := ih h; simp at this; omega
              · cases h
            · cases h
        have hm := hmono h
        simp only [List.length_append] at hm
        refine good_fields h ?_ (by simp; omega) hl2 fun y hy => hx y (List.mem_cons_of_mem _ hy)
        have := hg.append g
        rw [List.length_append, List.take_add]
        exact this
      · cases h
    · cases h

theorem good_reps {es : List Sh} {cs : List Value} : ∀ (m : Nat), cs.length = m * es.length → (∀ i, i < m → Good P W es ((cs.drop (i * es.length)).take es.length)) → Good P W (List.replicate m es).flatten cs
  | 0, h, _ => by
    have : cs = [] := List.length_eq_zero_iff.1 (by simpa using h)
    subst this
    exact ⟨[], by simp [DShs], rfl⟩
  | m + 1, h, hx => by
    have h0 := hx 0 (by omega)
    have hs : (m + 1) * es.length = es.length + m * es.length := by rw [Nat.add_mul]; omega
    have h1 := good_reps (es := es) (cs := cs.drop es.length) m (by rw [List.length_drop, h, hs]; omega) fun i hi => by
      have := hx (i + 1) (by omega)
      rw [List.drop_drop]
      rw [show es.length + i * es.length = (i + 1) * es.length by rw [Nat.add_mul]; omega]
      exact this
    simp only [Nat.zero_mul, List.drop_zero] at h0
    have := h0.append h1
    rw [List.take_append_drop] at this
    simpa [List.replicate_succ] using this

/-- Elements in a row. -/
theorem elems_rd {es : List Sh} {b off k : Nat} (hk : k = es.length) : ∀ {n : Nat} (i0 : Nat), (∀ i, i0 ≤ i → i < i0 + n → ∃ cs, Good P W es cs ∧ cs.length = k ∧ ∀ j, j < k → W.cell? ⟨b, off + i * k + j, none⟩ = cs[j]?) →
    ∃ xs : List (List D), xs.length = n ∧ (∀ e ∈ xs, DShs es e) ∧ RdEs W (Old W) (fun _ => False) k xs b (off + i0 * k)
  | 0, i0, _ => ⟨[], rfl, fun _ h => (nomatch h), by simp [RdEs]⟩
  | n + 1, i0, h => by
    obtain ⟨xs, h1, h2, h3⟩ := elems_rd hk (n := n) (i0 + 1) fun i a c => h i (by omega) (by omega)
    obtain ⟨cs, ⟨ds, g1, g2⟩, g3, g4⟩ := h i0 (by omega) (by omega)
    refine ⟨ds :: xs, by simp [h1], ?_, ?_⟩
    · intro e he
      rcases List.mem_cons.1 he with rfl | he
      · exact g1
      · exact h2 e he
    · simp only [RdEs]
      refine ⟨by rw [g1.length, hk], ?_, by rw [show off + i0 * k + k = off + (i0 + 1) * k by rw [Nat.add_mul]; omega]; exact h3⟩
      have hcs : ∀ {ds : List D} {cs : List Value} {o : Nat}, DsV (Rd W (Old W) fun _ => False) ds cs → (∀ j, j < cs.length → W.cell? ⟨b, o + j, none⟩ = cs[j]?) → RdCs W (Old W) (fun _ => False) ds b o := by
        intro ds
        induction ds with
        | nil => intro cs o _ _; simp only [RdCs]
        | cons d ds ih =>
          intro cs o hd hc
          obtain ⟨v, r, rfl, hv, hr⟩ := hd
          simp only [RdCs]
          refine ⟨⟨v, by simpa using hc 0 (by simp), hv⟩, ih hr fun j hj => ?_⟩
          have := hc (j + 1) (by simp; omega)
          rw [show o + 1 + j = o + (j + 1) by omega, this]; simp
      exact hcs g2 fun j hj => g4 j (by omega)

theorem good_trod : ∀ (n : Nat) {t : TypeId} {ss : List Sh} {fuel : Nat} {cs : List Value} {x : DataW H × List MemPlace}, flatT P n t = some ss → DataW.trod enc P W base spare held fuel t cs = some x → Good P W ss cs
  | 0, _, _, _, _, _, h, _ => by simp [flatT] at h
  | n + 1, t, ss, fuel, cs, x, h, ht => by
    simp only [flatT] at h
    split at h
    · rename_i k hu
      simp only [Option.some.injEq] at h; subst h
      obtain ⟨m, rfl, _, hw⟩ := DataW.trod_int hu ht
      exact ⟨[.v (.int k m)], by simp only [DShs, DSh]; exact ⟨_, _, rfl, ⟨m, rfl, hw⟩, rfl⟩, ⟨_, _, rfl, by simp [Rd, Value.oneCell'], rfl⟩⟩
    · rename_i hu
      simp only [Option.some.injEq] at h; subst h
      obtain ⟨m, rfl, _⟩ := DataW.trod_bool hu ht
      exact ⟨[.v (.bool m)], by simp only [DShs, DSh]; exact ⟨_, _, rfl, ⟨m, rfl⟩, rfl⟩, ⟨_, _, rfl, by simp [Rd, Value.oneCell'], rfl⟩⟩
    · rename_i hu
      simp only [Option.some.injEq] at h; subst h
      obtain ⟨m, rfl, _⟩ := DataW.trod_string hu ht
      exact ⟨[.v (.string m)], by simp only [DShs, DSh]; exact ⟨_, _, rfl, ⟨m, rfl⟩, rfl⟩, ⟨_, _, rfl, by simp [Rd, Value.oneCell'], rfl⟩⟩
    · rename_i e hu
      split at h
      · rename_i es he
        split at h
        · rename_i hc
          simp only [Option.some.injEq] at h; subst h
          rcases DataW.trod_slice hu ht with ⟨rfl, _⟩ | ⟨a, len, cap, elems, rest, m, _, rfl, _, hb, hl, hcap, hlen, hel, _, _⟩
          · exact ⟨[.vw true es.length []], by simp only [DShs, DSh]; exact ⟨_, _, rfl, ⟨[], rfl, Nat.zero_le _, fun _ h => (nomatch h)⟩, rfl⟩, ⟨_, _, rfl, by simp only [Rd]; exact .inl ⟨by simp, none, 0, rfl, fun _ => rfl⟩, rfl⟩⟩
          · by_cases h0 : len = 0
            · subst h0
              exact ⟨[.vw true es.length []], by simp only [DShs, DSh]; exact ⟨_, _, rfl, ⟨[], rfl, Nat.zero_le _, fun _ h => (nomatch h)⟩, rfl⟩, ⟨_, _, rfl, by simp only [Rd]; exact .inl ⟨by simp, some a, cap, rfl, fun h => (nomatch h)⟩, rfl⟩⟩
            · have each : ∀ i, i < len → ∃ ci, Good P W es ci ∧ ci.length = es.length ∧ ∀ j, j < es.length → W.cell? ((a.add (i * es.length)).add j) = ci[j]? := by
                intro i hi
                have hq := hel i hi
                rw [hc.2] at hq
                cases hce : W.cells? base (a.add (i * es.length)) es.length with
                | none =>
                  rw [hce] at hq
                  have := (List.getElem?_eq_some_iff (i := i) (l := elems)).2 ⟨by omega, rfl⟩
                  rw [← hq] at this; cases this
                | some ci =>
                  rw [hce] at hq
                  simp only [Option.bind_some] at hq
                  have hx : elems[i]? = some elems[i] := List.getElem?_eq_getElem (by omega)
                  rw [hx] at hq
                  have hcs := World.cells?_some hce
                  exact ⟨ci, good_trod n he hq, hcs.2.1, fun j hj => hcs.2.2 j hj⟩
              obtain ⟨c0, _, g3, g4⟩ := each 0 (by omega)
              have hcell := g4 0 (by omega)
              simp only [Nat.zero_mul, Addr.add, if_true] at hcell
              obtain ⟨b, off, spot⟩ := a
              have hsp : spot = none := by
                cases spot with
                | none => rfl
                | some q =>
                  simp only [World.cell?] at hcell
                  have : c0[0]? = some (c0[0]'(by omega)) := List.getElem?_eq_getElem (by omega)
                  rw [this] at hcell
                  split at hcell <;> simp at hcell
              subst hsp
              have hblt : b < W.heap.size := by
                apply Decidable.byContradiction
                intro hn
                have : c0[0]? = some (c0[0]'(by omega)) := List.getElem?_eq_getElem (by omega)
                rw [this] at hcell
                simp only [World.cell?] at hcell
                rw [Array.getElem?_eq_none (by omega)] at hcell
                cases hcell
              obtain ⟨xs, x1, x2, x3⟩ := elems_rd (P := P) (W := W) (es := es) (b := b) (off := off) rfl (n := len) 0 fun i _ hi => by
                obtain ⟨ci, q1, q2, q3⟩ := each i (by omega)
                refine ⟨ci, q1, q2, fun j hj => ?_⟩
                have := q3 j hj
                rw [Addr.add_lit, Addr.add_lit] at this
                exact this
              refine ⟨[.vw true es.length xs], by simp only [DShs, DSh]; exact ⟨_, _, rfl, ⟨xs, rfl, by omega, x2⟩, rfl⟩, ⟨_, _, rfl, ?_, rfl⟩⟩
              simp only [Rd]
              refine .inr ⟨b, off, cap, by rw [x1], by omega, not_false, hblt, fun _ => hblt, ?_⟩
              simpa using x3
        · cases h
      · cases h
    · rename_i fs hu
      split at h
      · rename_i ss' hf
        split at h
        · rename_i hc
          simp only [Option.some.injEq] at h; subst h
          obtain ⟨xs, m, _, _, hl, hlen, hx⟩ := DataW.trod_struct hu ht
          have := good_fields (P := P) (W := W) (cs := cs) hf ⟨[], by simp [DShs], rfl⟩ (by simp) (by omega) fun y hy s hs => by
            obtain ⟨i, hi, rfl⟩ := List.getElem_of_mem hy
            have hi' : i < fs.size := by simpa using hi
            have hq := hx i fs[i] (by simp [hi'])
            have hxi : xs[i]? = some (xs[i]'(by omega)) := List.getElem?_eq_getElem (by omega)
            rw [hxi] at hq
            simp only [Array.getElem_toList] at hs ⊢
            exact good_trod n hs hq
          rw [← hc, ← hl, List.take_length] at this
          exact this
        · cases h
      · cases h
    · rename_i m e hu
      split at h
      · rename_i es he
        split at h
        · rename_i hc
          simp only [Option.some.injEq] at h; subst h
          obtain ⟨xs, q, _, _, hl, hlen, hx⟩ := DataW.trod_array hu ht
          refine good_reps m (by rw [hl, hc.2]) fun i hi => ?_
          have hq := hx i hi
          have hxi : xs[i]? = some (xs[i]'(by omega)) := List.getElem?_eq_getElem (by omega)
          rw [hxi, hc.1] at hq
          exact good_trod n he hq
        · cases h
      · cases h
    · cases h

/-! ### arguments of a row -/
theorem av_struct {t : TypeId} {fs : Array Field} {n : Nat} {ss : List Sh} {v : Value} {d : DataW H} {p : List MemPlace} (ht : P.underlying t = some (.struct fs)) (hf : flatT P n t = some ss)
    (hv : Value.okWide P W .any base t v) (h : DataW.Trod enc P W 0 (fun _ => true) true t v d p) : ∃ ds, DShs ss ds ∧ AV W (.agg ds) v := by
  simp only [Value.okWide, ht] at hv
  obtain ⟨cs, rfl, _, _⟩ := hv
  obtain ⟨fuel, hfu⟩ := h
  obtain ⟨ds, h1, h2⟩ := good_trod n hf hfu
  refine ⟨ds, h1, cs.toList, by simp [RShape], h1.noOwn, ?_⟩
  simpa [cellsR, Value.cells] using h2

end Go.Sm

namespace Go.Sm
open Go.RowKit

theorem u8_shM {n : Int} (h : (Lit.int .u8 n).wf = true) : ∃ x : UInt8, n = x.toNat := by
  have : 0 ≤ n ∧ n < 256 := by
    simp [Lit.wf, IntKind.min, IntKind.max, IntKind.signed, IntKind.bits] at h
    omega
  exact ⟨UInt8.ofNat n.toNat, by rw [UInt8.toNat_ofNat']; omega⟩
abbrev mxSh : List Sh := [.ki .u8, .ki .u8, .ki .u8, .ki .u8, .ki .u8, .ki .u8, .ki .u8, .ki .u8, .ki .u8]
abbrev groupSh : List Sh := [.ki .i64, .ki .i64, .ka mxSh]
theorem mats_sh : ∀ {xs : List (List D)}, (∀ e ∈ xs, DShs mxSh e) → ∃ G : List Mx, xs = G.map Mx.ds
  | [], _ => ⟨[], rfl⟩
  | x :: xs, h => by
    obtain ⟨G, rfl⟩ := mats_sh fun e he => h e (List.mem_cons_of_mem _ he)
    have := h x (List.mem_cons_self ..)
    simp only [DShs, DSh] at this
    obtain ⟨_, _, rfl, ⟨a, rfl, ha⟩, _, _, rfl, ⟨b, rfl, hb⟩, _, _, rfl, ⟨c, rfl, hc⟩, _, _, rfl, ⟨d, rfl, hd⟩, _, _, rfl, ⟨e, rfl, he⟩, _, _, rfl, ⟨f, rfl, hf⟩, _, _, rfl, ⟨g, rfl, hg⟩, _, _, rfl, ⟨i, rfl, hi⟩, _, _, rfl, ⟨j, rfl, hj⟩, rfl⟩ := this
    obtain ⟨a, rfl⟩ := u8_shM ha
    obtain ⟨b, rfl⟩ := u8_shM hb
    obtain ⟨c, rfl⟩ := u8_shM hc
    obtain ⟨d, rfl⟩ := u8_shM hd
    obtain ⟨e, rfl⟩ := u8_shM he
    obtain ⟨f, rfl⟩ := u8_shM hf
    obtain ⟨g, rfl⟩ := u8_shM hg
    obtain ⟨i, rfl⟩ := u8_shM hi
    obtain ⟨j, rfl⟩ := u8_shM hj
    exact ⟨⟨a, b, c, d, e, f, g, i, j⟩ :: G, rfl⟩
theorem group_of {ds : List D} (h : DShs groupSh ds) : ∃ (p d : Int) (G : List Mx), ds = [i64 p, i64 d, vMats G] ∧ G.length ≤ maxLen := by
  simp only [DShs, DSh] at h
  obtain ⟨_, _, rfl, ⟨p, rfl, _⟩, _, _, rfl, ⟨d, rfl, _⟩, _, _, rfl, ⟨xs, rfl, hl, h⟩, rfl⟩ := h
  obtain ⟨G, rfl⟩ := mats_sh h
  exact ⟨p, d, G, rfl, by simpa using hl⟩

end Go.Sm

namespace Go.Proofs.Ytemedeiolhgoeaa.fnExactCountOrbits
open Go.ChangeShapes Go.WideShapes Go.ChangeAt Go.RowKit
open Go.ChangeMaps (open_string shut_string)
theorem own : ownKnob Try.prog.godebug = none := by kernel_rfl
theorem laidOut : laidOutB Try.prog = true := by kernel_rfl

set_option maxRecDepth 100000 in
theorem lifted (os : Os) (started : os.Started) (H : Type) (enc : TypeId × Value → H) :
    ReturnsInHanded {} Try.checked os 4 .any (Rows.fnExactCountOrbitsSpec.pre6 enc Try.prog Try.f4 Rows.fnExactCountOrbitsRow.domain false) (Rows.fnExactCountOrbitsSpec.post enc Try.prog Try.f4 false true false false) := by
  refine returnsInHanded_of_change_sized (C := Try.checked) own started (by kernel_rfl) Try.func4
    (ChangeSpec.witness6 (enc := enc) (C := Try.checked) false ⟨#[], #[.agg #[.int .i64 0, .int .i64 0, .slice none 0 0]], []⟩ 8 (by kernel_rfl) (by kernel_rfl) (by kernel_rfl) (by kernel_rfl)) ?_
  intro W base args ds gs before hval0 hW hcnd hsz0 _
  have hval : ∀ (j : Nat) t v, Try.f4.params[j]? = some t → args[j]? = some v → Value.okWide Try.prog W .any base t v := hval0
  have hW' := hW
  obtain ⟨p, q, hA0, hV, rfl, hfz, hnd⟩ := hW
  have hA : DataW.TrodAll enc Try.prog W 0 (fun _ => true) true Try.f4.params.toList args.toList ds p := hA0
  rw [Try.params4] at hA hval
  obtain ⟨v0, vs0, d0, ds0, p0, q0, hargs, rfl, rfl, h0, r0⟩ := trodAll_cons hA
  obtain ⟨rfl, rfl, rfl⟩ := trodAll_nil r0
  obtain rfl : args = #[v0] := by cases args; simp_all
  obtain ⟨rfl, rfl⟩ := trodVars_none hV
  have hv0 := hval 0 24 v0 rfl rfl
  have k0 := h0
  have lt0 : ∀ x ∈ p0, x.block < W.heap.size := by obtain ⟨m, hm⟩ := k0; exact DataW.trod_lt m _ _ _ hm
  obtain ⟨x0, sh0, y0⟩ := Sm.av_struct (n := 9) (ss := Sm.groupSh) Try.underlying24 (by kernel_rfl) hv0 h0
  obtain ⟨za0, zb0, zc0, rfl, hz0⟩ := Sm.group_of sh0
  clear hA0 hval0 hsz0
  have hc := (Sm.FnExactCountOrbits_ok za0 zb0 zc0 hz0).2 W [v0] ⟨_, _, rfl, y0, rfl⟩
  refine hc.mono fun e W' ⟨v, he, ⟨vs, hs, _, hd, _, _⟩, bel0⟩ => ?_
  have bel := bel0.toBelow
  subst he
  simp only [Sm.RShape] at hs
  subst hs
  obtain ⟨u, r, hu, hr, _⟩ := hd
  simp only [List.cons.injEq] at hu
  obtain ⟨rfl, _⟩ := hu
  simp only [Sm.Rd] at hr
  obtain ⟨rfl, _⟩ := hr
  exact ⟨_, rfl, _, _, _, [], _, [], hW', trodAll_mk1 (shut_bool Try.underlying4 _), (trodAll_cons_mk (Below.trod laidOut (by kernel_rfl) (of_decide_eq_true (by kernel_rfl)) k0 bel lt0) trodAll_mk0), rfl, bel.frame _, fun h => by cases h⟩

theorem named : Try.pinned.checked.prog.funcNamed Rows.fnExactCountOrbitsRow.func = some 4 := by kernel_rfl
theorem cl1 : (Rows.fnExactCountOrbitsRow.inPlace == Try.pinned.checked.prog.inPlace 4) = true := by kernel_rfl
theorem cl2 : (Rows.fnExactCountOrbitsRow.unfollowed == Try.pinned.checked.prog.unfollowed 4) = true := by kernel_rfl
theorem cl3 : (Rows.fnExactCountOrbitsRow.recurses == Try.pinned.checked.prog.recurses 4) = true := by kernel_rfl
theorem cl4 : (Rows.fnExactCountOrbitsRow.named == Try.pinned.checked.prog.varsNamed 4) = true := by kernel_rfl
theorem cl5 : laidOutB Try.pinned.checked.prog = true := by kernel_rfl
theorem cl6 : mapsRowed Try.pinned.checked.prog = true := by kernel_rfl
theorem cl7 : (Rows.fnExactCountOrbitsRow.plainKeys == Try.pinned.checked.prog.plainKeys) = true := by kernel_rfl
theorem closed : joinedFacts Try.pinned.checked.prog 4 Try.f4 Rows.fnExactCountOrbitsSpec Rows.fnExactCountOrbitsRow = true := by
  unfold joinedFacts
  rw [cl1, cl2, cl3, cl4, cl5, cl6, cl7]
  kernel_rfl
theorem inst : Try.f4.isInstance Try.pinned.checked.prog Rows.fnExactCountOrbitsRow.origin Rows.fnExactCountOrbitsRow.targs := of_decide_eq_true (by kernel_rfl)
theorem wrap : Try.f4.isWrapper Try.pinned.checked.prog Rows.fnExactCountOrbitsRow.wrapper Rows.fnExactCountOrbitsRow.mainSum := by
  unfold Func.isWrapper
  first | (rw [if_pos (by decide +kernel)]; kernel_rfl) | (rw [if_neg (by decide +kernel)]; exact ⟨rfl, rfl⟩)
theorem over : Rows.fnExactCountOrbitsRow.holds Try.pinned (OpenSpec.ofChange Rows.fnExactCountOrbitsSpec) :=
  OpenClaim.holds_of_wide 4 Try.f4 rfl rfl rfl rfl rfl rfl rfl ⟨rfl, rfl, rfl, rfl, rfl⟩ rfl rfl rfl rfl rfl named Try.func4 closed inst wrap
    (fun os started H enc _ => lifted os started H enc)
end Go.Proofs.Ytemedeiolhgoeaa.fnExactCountOrbits
namespace Go.Proofs.Ytemedeiolhgoeaa
/-- The row, for the claim. -/
theorem fnExactCountOrbits_holds : Rows.FnExactCountOrbitsSaid := fnExactCountOrbits.over
#print axioms fnExactCountOrbits_holds
end Go.Proofs.Ytemedeiolhgoeaa
