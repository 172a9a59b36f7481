/- The reading of memory as pure data, for the proofs of this seat: data, readings, and what keeps them. -/
import Derived.Laws.AppendOwn
import Derived.Laws.MakeOwn
import Derived.Laws.StructEq
import Derived.Orders
import Derived.Below
namespace Go.Sm

/-- A map as pure data: the keys are arrays of kn integers of one kind; the entries stand in the order of their making. -/
structure MD where
  kk : IntKind
  kn : Nat
  xs : List (List Int × Value)
  deriving Inhabited

def MD.keyV (kk : IntKind) (ns : List Int) : Value := .agg (ns.map fun n => Value.int kk n).toArray
def MD.ents (m : MD) : List MapEntry := m.xs.zipIdx.map fun p => ⟨MD.keyV m.kk p.1.1, p.1.2, p.2⟩

/-- Pure data: a scalar; a view of a slice (a: of an argument); a slice of one's own. -/
inductive D where
  | v (x : Value)
  | vw (a : Bool) (k : Nat) (xs : List (List D))
  | own (e k : Nat) (xs : List (List D))
  | mp (m : MD)
  deriving Inhabited

/-- A map's entries, in the order of their making, each with its number. -/
def MapOk (es : Array MapEntry) (clock : Nat) (m : MD) : Prop :=
  es.toList = m.ents ∧ clock = m.xs.length ∧ ∀ p ∈ m.xs, p.1.length = m.kn ∧ p.2.oneCell' = true

abbrev nilV : Value := .slice none 0 0

mutual
def Rd (w : World) (B : Nat → Prop) (M : Nat → Prop) : D → Value → Prop
  | .v x, c => c = x ∧ x.oneCell' = true
  | .vw a k xs, c => (xs = [] ∧ c = nilV) ∨ ∃ b off cap, c = .slice (some ⟨b, off, none⟩) xs.length cap ∧ xs.length ≤ cap ∧ ¬ M b ∧ b < w.heap.size ∧
      (a = true → B b) ∧ RdEs w B M k xs b off
  | .own e k xs, c => (xs = [] ∧ c = nilV) ∨ ∃ b cap cur, c = .slice (some ⟨b, 0, none⟩) xs.length cap ∧ xs.length ≤ cap ∧ ¬ M b ∧
      w.heap[b]? = some (.cells cur e (0, 0)) ∧ cap ≤ maxLen ∧ cur.size = cap * k ∧ RdEs w B M k xs b 0
  | .mp xs, c => ∃ r es clock, c = .map (some r) ∧ ¬ M r ∧ w.heap[r]? = some (.map es clock) ∧ MapOk es clock xs
def RdCs (w : World) (B : Nat → Prop) (M : Nat → Prop) : List D → Nat → Nat → Prop
  | [], _, _ => True
  | x :: xs, b, off => (∃ c, w.cell? ⟨b, off, none⟩ = some c ∧ Rd w B M x c) ∧ RdCs w B M xs b (off + 1)
def RdEs (w : World) (B : Nat → Prop) (M : Nat → Prop) (k : Nat) : List (List D) → Nat → Nat → Prop
  | [], _, _ => True
  | e :: es, b, off => e.length = k ∧ RdCs w B M e b off ∧ RdEs w B M k es b (off + k)
end

mutual
/-- The blocks that a value of one's own takes, in order. -/
def fp (w : World) : D → Value → List Nat
  | .own _ k xs, .slice (some a) _ _ => a.block :: fpEs w k xs a.block 0
  | _, _ => []
def fpCs (w : World) : List D → Nat → Nat → List Nat
  | [], _, _ => []
  | x :: xs, b, off => fp w x ((w.cell? ⟨b, off, none⟩).getD undef) ++ fpCs w xs b (off + 1)
def fpEs (w : World) (k : Nat) : List (List D) → Nat → Nat → List Nat
  | [], _, _ => []
  | e :: es, b, off => fpCs w e b off ++ fpEs w k es b (off + k)
end

mutual
/-- The same data as an argument of a call. -/
def D.arg : D → D
  | .v x => .v x
  | .vw _ k xs => .vw true k (argEs xs)
  | .own _ k xs => .vw true k (argEs xs)
  | .mp xs => .mp xs
def argCs : List D → List D
  | [] => []
  | x :: xs => x.arg :: argCs xs
def argEs : List (List D) → List (List D)
  | [] => []
  | e :: es => argCs e :: argEs es
end

mutual
/-- The same data as a view. -/
def D.loc : D → D
  | .v x => .v x
  | .vw a k xs => .vw a k xs
  | .own _ k xs => .vw false k (locEs xs)
  | .mp xs => .mp xs
def locCs : List D → List D
  | [] => []
  | x :: xs => x.loc :: locCs xs
def locEs : List (List D) → List (List D)
  | [] => []
  | e :: es => locCs e :: locEs es
end

mutual
/-- No view in it. -/
def D.fresh : D → Bool
  | .v _ => true
  | .vw _ _ _ => false
  | .own _ _ xs => freshEs xs
  | .mp _ => false
def freshCs : List D → Bool
  | [] => true
  | x :: xs => x.fresh && freshCs xs
def freshEs : List (List D) → Bool
  | [] => true
  | e :: es => freshCs e && freshEs es
end

/-- What of the memory stays: every block that is not in M reads as before, and M' is M with new blocks at most. -/
structure Keeps (w w' : World) (M M' : Nat → Prop) : Prop where
  size : w.heap.size ≤ w'.heap.size
  heap : ∀ b, b < w.heap.size → ¬ M b → w'.heap[b]? = w.heap[b]?
  mem : ∀ b, M' b → M b ∨ w.heap.size ≤ b

/-- The blocks of a world. -/
def Old (w : World) (b : Nat) : Prop := b < w.heap.size

theorem lt_of_heap {w : World} {b : Nat} {o : Obj} (h : w.heap[b]? = some o) : b < w.heap.size := (Array.getElem?_eq_some_iff.1 h).1

theorem Keeps.cell {w w' : World} {M M' : Nat → Prop} (K : Keeps w w' M M') {b off : Nat} (hb : b < w.heap.size) (hm : ¬ M b) :
    w'.cell? ⟨b, off, none⟩ = w.cell? ⟨b, off, none⟩ := World.cell?_of_block (w := w) (K.heap b hb hm)

theorem Keeps.not {w w' : World} {M M' : Nat → Prop} (K : Keeps w w' M M') {b : Nat} (hb : b < w.heap.size) (hm : ¬ M b) : ¬ M' b :=
  fun h => (K.mem b h).elim hm (fun h => by omega)

mutual
theorem Rd.keep {w w' : World} {B : Nat → Prop} {M M' : Nat → Prop} (K : Keeps w w' M M') : ∀ (d : D) (c : Value), Rd w B M d c → Rd w' B M' d c
  | .v _, _, h => by simpa only [Rd] using h
  | .vw a k xs, c, h => by
    simp only [Rd] at h ⊢
    rcases h with h | ⟨b, off, cap, hc, hl, hm, hb, ha, he⟩
    · exact .inl h
    · exact .inr ⟨b, off, cap, hc, hl, K.not hb hm, Nat.lt_of_lt_of_le hb K.size, ha, RdEs.keep K (fun _ => K.cell hb hm) xs off he⟩
  | .own e k xs, c, h => by
    simp only [Rd] at h ⊢
    rcases h with h | ⟨b, cap, cur, hc, hl, hm, hh, h1, h2, he⟩
    · exact .inl h
    · have hb := lt_of_heap hh
      exact .inr ⟨b, cap, cur, hc, hl, K.not hb hm, by rw [K.heap b hb hm]; exact hh, h1, h2, RdEs.keep K (fun _ => K.cell hb hm) xs 0 he⟩
  | .mp xs, c, h => by
    simp only [Rd] at h ⊢
    obtain ⟨r, es, clock, hc, hm, hh, ho⟩ := h
    exact ⟨r, es, clock, hc, K.not (lt_of_heap hh) hm, by rw [K.heap r (lt_of_heap hh) hm]; exact hh, ho⟩
theorem RdCs.keep {w w' : World} {B : Nat → Prop} {M M' : Nat → Prop} (K : Keeps w w' M M') {b : Nat} (hq : ∀ off, w'.cell? ⟨b, off, none⟩ = w.cell? ⟨b, off, none⟩) :
    ∀ (xs : List D) (off : Nat), RdCs w B M xs b off → RdCs w' B M' xs b off
  | [], _, _ => by simp only [RdCs]
  | x :: xs, off, h => by
    simp only [RdCs] at h ⊢
    obtain ⟨⟨c, hc, hr⟩, h2⟩ := h
    exact ⟨⟨c, by rw [hq]; exact hc, Rd.keep K x c hr⟩, RdCs.keep K hq xs (off + 1) h2⟩
theorem RdEs.keep {w w' : World} {B : Nat → Prop} {M M' : Nat → Prop} (K : Keeps w w' M M') {b : Nat} (hq : ∀ off, w'.cell? ⟨b, off, none⟩ = w.cell? ⟨b, off, none⟩) {k : Nat} :
    ∀ (xs : List (List D)) (off : Nat), RdEs w B M k xs b off → RdEs w' B M' k xs b off
  | [], _, _ => by simp only [RdEs]
  | e :: es, off, h => by
    simp only [RdEs] at h ⊢
    exact ⟨h.1, RdCs.keep K hq e off h.2.1, RdEs.keep K hq es (off + k) h.2.2⟩
end

mutual
theorem fp.keep {w w' : World} {B : Nat → Prop} {M M' : Nat → Prop} (K : Keeps w w' M M') : ∀ (d : D) (c : Value), Rd w B M d c → fp w' d c = fp w d c
  | .v _, _, _ => by simp only [fp]
  | .vw _ _ _, _, _ => by simp only [fp]
  | .mp _, _, _ => by simp only [fp]
  | .own e k xs, c, h => by
    simp only [Rd] at h
    rcases h with ⟨_, rfl⟩ | ⟨b, cap, cur, rfl, hl, hm, hh, h1, h2, he⟩
    · simp only [fp]
    · simp only [fp]
      rw [fpEs.keep K (fun _ => K.cell (lt_of_heap hh) hm) xs 0 he]
theorem fpCs.keep {w w' : World} {B : Nat → Prop} {M M' : Nat → Prop} (K : Keeps w w' M M') {b : Nat} (hq : ∀ off, w'.cell? ⟨b, off, none⟩ = w.cell? ⟨b, off, none⟩) :
    ∀ (xs : List D) (off : Nat), RdCs w B M xs b off → fpCs w' xs b off = fpCs w xs b off
  | [], _, _ => by simp only [fpCs]
  | x :: xs, off, h => by
    simp only [RdCs] at h
    obtain ⟨⟨c, hc, hr⟩, h2⟩ := h
    simp only [fpCs, hq, hc, Option.getD_some]
    rw [fp.keep K x c hr, fpCs.keep K hq xs (off + 1) h2]
theorem fpEs.keep {w w' : World} {B : Nat → Prop} {M M' : Nat → Prop} (K : Keeps w w' M M') {b : Nat} (hq : ∀ off, w'.cell? ⟨b, off, none⟩ = w.cell? ⟨b, off, none⟩) {k : Nat} :
    ∀ (xs : List (List D)) (off : Nat), RdEs w B M k xs b off → fpEs w' k xs b off = fpEs w k xs b off
  | [], _, _ => by simp only [fpEs]
  | e :: es, off, h => by
    simp only [RdEs] at h
    simp only [fpEs]
    rw [fpCs.keep K hq e off h.2.1, fpEs.keep K hq es (off + k) h.2.2]
end

mutual
/-- The blocks of a value of one's own lie in memory, are not in M and are not frozen. -/
theorem fp.mem {w : World} {B : Nat → Prop} {M : Nat → Prop} : ∀ (d : D) (c : Value), Rd w B M d c → ∀ b ∈ fp w d c, ¬ M b ∧ ∃ cur e, w.heap[b]? = some (.cells cur e (0, 0))
  | .v _, _, _ => by simp [fp]
  | .vw _ _ _, _, _ => by simp [fp]
  | .mp _, _, _ => by simp [fp]
  | .own e k xs, c, h => by
    simp only [Rd] at h
    rcases h with ⟨_, rfl⟩ | ⟨b, cap, cur, rfl, hl, hm, hh, h1, h2, he⟩
    · simp [fp]
    · simp only [fp, List.mem_cons]
      rintro b' (rfl | hb')
      · exact ⟨hm, cur, e, hh⟩
      · exact fpEs.mem xs 0 he b' hb'
theorem fpCs.mem {w : World} {B : Nat → Prop} {M : Nat → Prop} {b : Nat} : ∀ (xs : List D) (off : Nat), RdCs w B M xs b off → ∀ b' ∈ fpCs w xs b off, ¬ M b' ∧ ∃ cur e, w.heap[b']? = some (.cells cur e (0, 0))
  | [], _, _ => by simp [fpCs]
  | x :: xs, off, h => by
    simp only [RdCs] at h
    obtain ⟨⟨c, hc, hr⟩, h2⟩ := h
    simp only [fpCs, hc, Option.getD_some, List.mem_append]
    rintro b' (hb' | hb')
    · exact fp.mem x c hr b' hb'
    · exact fpCs.mem xs (off + 1) h2 b' hb'
theorem fpEs.mem {w : World} {B : Nat → Prop} {M : Nat → Prop} {b k : Nat} : ∀ (xs : List (List D)) (off : Nat), RdEs w B M k xs b off → ∀ b' ∈ fpEs w k xs b off, ¬ M b' ∧ ∃ cur e, w.heap[b']? = some (.cells cur e (0, 0))
  | [], _, _ => by simp [fpEs]
  | e :: es, off, h => by
    simp only [RdEs] at h
    simp only [fpEs, List.mem_append]
    rintro b' (hb' | hb')
    · exact fpCs.mem e off h.2.1 b' hb'
    · exact fpEs.mem es (off + k) h.2.2 b' hb'
end

mutual
/-- Data without a view, of which no block is in M', reads whatever M and B were. -/
theorem Rd.free {w : World} {B B' : Nat → Prop} {M M' : Nat → Prop} : ∀ (d : D) (c : Value), d.fresh = true → Rd w B M d c → (∀ b ∈ fp w d c, ¬ M' b) → Rd w B' M' d c
  | .v _, _, _, h, _ => by simpa only [Rd] using h
  | .vw _ _ _, _, hf, _, _ => by simp [D.fresh] at hf
  | .mp _, _, hf, _, _ => by simp [D.fresh] at hf
  | .own e k xs, c, hf, h, hn => by
    simp only [Rd] at h ⊢
    simp only [D.fresh] at hf
    rcases h with h | ⟨b, cap, cur, rfl, hl, hm, hh, h1, h2, he⟩
    · exact .inl h
    · simp only [fp, List.mem_cons] at hn
      exact .inr ⟨b, cap, cur, rfl, hl, hn b (.inl rfl), hh, h1, h2, RdEs.free xs 0 hf he fun b' hb' => hn b' (.inr hb')⟩
theorem RdCs.free {w : World} {B B' : Nat → Prop} {M M' : Nat → Prop} {b : Nat} : ∀ (xs : List D) (off : Nat), freshCs xs = true → RdCs w B M xs b off → (∀ b' ∈ fpCs w xs b off, ¬ M' b') → RdCs w B' M' xs b off
  | [], _, _, _, _ => by simp only [RdCs]
  | x :: xs, off, hf, h, hn => by
    simp only [RdCs] at h ⊢
    simp only [freshCs, Bool.and_eq_true] at hf
    obtain ⟨⟨c, hc, hr⟩, h2⟩ := h
    simp only [fpCs, hc, Option.getD_some, List.mem_append] at hn
    exact ⟨⟨c, hc, Rd.free x c hf.1 hr fun b' hb' => hn b' (.inl hb')⟩, RdCs.free xs (off + 1) hf.2 h2 fun b' hb' => hn b' (.inr hb')⟩
theorem RdEs.free {w : World} {B B' : Nat → Prop} {M M' : Nat → Prop} {b k : Nat} : ∀ (xs : List (List D)) (off : Nat), freshEs xs = true → RdEs w B M k xs b off → (∀ b' ∈ fpEs w k xs b off, ¬ M' b') → RdEs w B' M' k xs b off
  | [], _, _, _, _ => by simp only [RdEs]
  | e :: es, off, hf, h, hn => by
    simp only [RdEs] at h ⊢
    simp only [freshEs, Bool.and_eq_true] at hf
    simp only [fpEs, List.mem_append] at hn
    exact ⟨h.1, RdCs.free e off hf.1 h.2.1 fun b' hb' => hn b' (.inl hb'), RdEs.free es (off + k) hf.2 h.2.2 fun b' hb' => hn b' (.inr hb')⟩
end

theorem length_argEs : ∀ (xs : List (List D)), (argEs xs).length = xs.length
  | [] => rfl
  | _ :: es => by simp [argEs, length_argEs es]
theorem length_argCs : ∀ (xs : List D), (argCs xs).length = xs.length
  | [] => rfl
  | _ :: es => by simp [argCs, length_argCs es]
theorem length_locEs : ∀ (xs : List (List D)), (locEs xs).length = xs.length
  | [] => rfl
  | _ :: es => by simp [locEs, length_locEs es]
theorem length_locCs : ∀ (xs : List D), (locCs xs).length = xs.length
  | [] => rfl
  | _ :: es => by simp [locCs, length_locCs es]

mutual
/-- Every reading is one as an argument of a call that begins now. -/
theorem Rd.arg {w : World} {B : Nat → Prop} {M : Nat → Prop} : ∀ (d : D) (c : Value), Rd w B M d c → Rd w (Old w) (fun _ => False) d.arg c
  | .v _, _, h => by simpa only [Rd, D.arg] using h
  | .vw _ k xs, c, h => by
    simp only [Rd, D.arg, length_argEs] at h ⊢
    rcases h with ⟨rfl, h⟩ | ⟨b, off, cap, hc, hl, hm, hb, ha, he⟩
    · exact .inl ⟨by simp [argEs], h⟩
    · exact .inr ⟨b, off, cap, hc, hl, not_false, hb, fun _ => hb, RdEs.arg xs off he⟩
  | .own e k xs, c, h => by
    simp only [Rd, D.arg, length_argEs] at h ⊢
    rcases h with ⟨rfl, h⟩ | ⟨b, cap, cur, hc, hl, hm, hh, h1, h2, he⟩
    · exact .inl ⟨by simp [argEs], h⟩
    · exact .inr ⟨b, 0, cap, hc, hl, not_false, lt_of_heap hh, fun _ => lt_of_heap hh, RdEs.arg xs 0 he⟩
  | .mp _, _, h => by
    simp only [Rd, D.arg] at h ⊢
    obtain ⟨r, es, clock, hc, hm, hh, ho⟩ := h
    exact ⟨r, es, clock, hc, not_false, hh, ho⟩
theorem RdCs.arg {w : World} {B : Nat → Prop} {M : Nat → Prop} {b : Nat} : ∀ (xs : List D) (off : Nat), RdCs w B M xs b off → RdCs w (Old w) (fun _ => False) (argCs xs) b off
  | [], _, _ => by simp only [RdCs, argCs]
  | x :: xs, off, h => by
    simp only [RdCs, argCs] at h ⊢
    obtain ⟨⟨c, hc, hr⟩, h2⟩ := h
    exact ⟨⟨c, hc, Rd.arg x c hr⟩, RdCs.arg xs (off + 1) h2⟩
theorem RdEs.arg {w : World} {B : Nat → Prop} {M : Nat → Prop} {b k : Nat} : ∀ (xs : List (List D)) (off : Nat), RdEs w B M k xs b off → RdEs w (Old w) (fun _ => False) k (argEs xs) b off
  | [], _, _ => by simp only [RdEs, argEs]
  | e :: es, off, h => by
    simp only [RdEs, argEs] at h ⊢
    exact ⟨by rw [length_argCs]; exact h.1, RdCs.arg e off h.2.1, RdEs.arg es (off + k) h.2.2⟩
end

mutual
theorem Rd.base {w : World} {B B' : Nat → Prop} {M : Nat → Prop} (hB : ∀ b, B b → B' b) : ∀ (d : D) (c : Value), Rd w B M d c → Rd w B' M d c
  | .v _, _, h => by simpa only [Rd] using h
  | .vw _ k xs, c, h => by
    simp only [Rd] at h ⊢
    rcases h with h | ⟨b, off, cap, hc, hl, hm, hb, ha, he⟩
    · exact .inl h
    · exact .inr ⟨b, off, cap, hc, hl, hm, hb, fun e => hB b (ha e), RdEs.base hB xs off he⟩
  | .own e k xs, c, h => by
    simp only [Rd] at h ⊢
    rcases h with h | ⟨b, cap, cur, hc, hl, hm, hh, h1, h2, he⟩
    · exact .inl h
    · exact .inr ⟨b, cap, cur, hc, hl, hm, hh, h1, h2, RdEs.base hB xs 0 he⟩
  | .mp _, _, h => by simpa only [Rd] using h
theorem RdCs.base {w : World} {B B' : Nat → Prop} {M : Nat → Prop} (hB : ∀ b, B b → B' b) {b : Nat} : ∀ (xs : List D) (off : Nat), RdCs w B M xs b off → RdCs w B' M xs b off
  | [], _, _ => by simp only [RdCs]
  | x :: xs, off, h => by
    simp only [RdCs] at h ⊢
    obtain ⟨⟨c, hc, hr⟩, h2⟩ := h
    exact ⟨⟨c, hc, Rd.base hB x c hr⟩, RdCs.base hB xs (off + 1) h2⟩
theorem RdEs.base {w : World} {B B' : Nat → Prop} {M : Nat → Prop} (hB : ∀ b, B b → B' b) {b k : Nat} : ∀ (xs : List (List D)) (off : Nat), RdEs w B M k xs b off → RdEs w B' M k xs b off
  | [], _, _ => by simp only [RdEs]
  | e :: es, off, h => by
    simp only [RdEs] at h ⊢
    exact ⟨h.1, RdCs.base hB e off h.2.1, RdEs.base hB es (off + k) h.2.2⟩
end

mutual
theorem Rd.loc {w : World} {B : Nat → Prop} {M : Nat → Prop} : ∀ (d : D) (c : Value), Rd w B M d c → Rd w B M d.loc c
  | .v _, _, h => by simpa only [Rd, D.loc] using h
  | .vw _ _ _, _, h => by simpa only [D.loc] using h
  | .mp _, _, h => by simpa only [D.loc] using h
  | .own e k xs, c, h => by
    simp only [Rd, D.loc, length_locEs] at h ⊢
    rcases h with ⟨rfl, h⟩ | ⟨b, cap, cur, hc, hl, hm, hh, h1, h2, he⟩
    · exact .inl ⟨by simp [locEs], h⟩
    · exact .inr ⟨b, 0, cap, hc, hl, hm, lt_of_heap hh, fun h => by simp at h, RdEs.loc xs 0 he⟩
theorem RdCs.loc {w : World} {B : Nat → Prop} {M : Nat → Prop} {b : Nat} : ∀ (xs : List D) (off : Nat), RdCs w B M xs b off → RdCs w B M (locCs xs) b off
  | [], _, _ => by simp only [RdCs, locCs]
  | x :: xs, off, h => by
    simp only [RdCs, locCs] at h ⊢
    obtain ⟨⟨c, hc, hr⟩, h2⟩ := h
    exact ⟨⟨c, hc, Rd.loc x c hr⟩, RdCs.loc xs (off + 1) h2⟩
theorem RdEs.loc {w : World} {B : Nat → Prop} {M : Nat → Prop} {b k : Nat} : ∀ (xs : List (List D)) (off : Nat), RdEs w B M k xs b off → RdEs w B M k (locEs xs) b off
  | [], _, _ => by simp only [RdEs, locEs]
  | e :: es, off, h => by
    simp only [RdEs, locEs] at h ⊢
    exact ⟨by rw [length_locCs]; exact h.1, RdCs.loc e off h.2.1, RdEs.loc es (off + k) h.2.2⟩
end

mutual
theorem fp.loc {w : World} : ∀ (d : D) (c : Value), fp w d.loc c = []
  | .v _, _ => by simp only [fp, D.loc]
  | .vw _ _ _, _ => by simp only [fp, D.loc]
  | .own _ _ _, _ => by simp only [fp, D.loc]
  | .mp _, _ => by simp only [fp, D.loc]
end

end Go.Sm
