/- What the slots of a frame stand for (Slot), and when a frame and a world are as a state says (Good). A state knows no addresses. -/
import Derived.Test.YtlckajldmooefaaTmTy
set_option linter.unusedVariables false
set_option linter.unusedSimpArgs false
namespace Go.Tm

abbrev Dv := (t : Ty) × t.den

inductive Slot where
  | dead
  | val (t : Ty) (x : t.den)
  | nil
  | own (n : Nat) (t : Ty) (xs : List t.den)
  | obj (n : Nat) (t : Ty) (x : t.den)
  | asl (n s : Nat) (rg : Option (Nat × Nat))
  | apt (n s : Nat) (p : List Way)
  | rpt (t : Ty) (x : t.den)
  | tup (l : List Dv)
  | ifc (T : TypeId) (t : Ty) (x : t.den)

/-- Cells of a block of the call's own. -/
structure Mem (w : World) (ad : Addr) (n : Nat) (cs : List Value) : Prop where mk ::
  out : ad.spot = none ∧ ∃ row e fz, w.heap[ad.block]? = some (.cells row e fz) ∧ ad.off + n ≤ row.size ∧ (fz.1 = fz.2 ∨ row.size ≤ fz.1) ∧
    cs.length ≤ n ∧ ∀ j v, cs[j]? = some v → row[ad.off + j]? = some v

def OwnS (w : World) (R : Nat → Prop) (t : Ty) (xs : List t.den) (v : Value) : Prop :=
  ∃ A c cs, v = .slice A xs.length c ∧ xs.length ≤ c ∧ c ≤ maxLen ∧ repList (rep w R t) xs cs ∧ ((A = none ∧ c = 0) ∨ ∃ ad, A = some ad ∧ Mem w ad (c * t.sz) cs)

def OwnP (w : World) (R : Nat → Prop) (t : Ty) (x : t.den) (v : Value) : Prop :=
  ∃ ad cs, v = .pointer (some ad) ∧ rep w R t x cs ∧ Mem w ad t.sz cs

def tupRep (w : World) (R : Nat → Prop) : List Dv → List Value → Prop
  | [], vs => vs = []
  | d :: l, vs => ∃ v r, vs = v :: r ∧ vrep w R d.1 d.2 v ∧ tupRep w R l r

def SlotRep (w : World) (R : Nat → Prop) (st : Nat → Slot) (V : Nat → Value) : Slot → Value → Prop
  | .dead, _ => True
  | .val t x, v => vrep w R t x v
  | .nil, v => v = .slice none 0 0
  | .own _ t xs, v => OwnS w R t xs v
  | .obj _ t x, v => OwnP w R t x v
  | .asl n s none, v => ∀ t xs, st s = .own n t xs → v = V s
  | .asl n s (some (lo, len)), v => ∀ t xs, st s = .own n t xs → lo + len ≤ xs.length ∧ ∃ A L c A', V s = .slice A L c ∧ v = .slice A' len (c - lo) ∧
      ((A = none ∧ A' = none) ∨ ∃ ad j, A = some ad ∧ A' = some (ad.add j) ∧ j ≤ c * t.sz ∧ (lo < c → j = lo * t.sz))
  | .apt n s p, v => (∀ t x, st s = .obj n t x → ∃ ad, V s = .pointer (some ad) ∧ v = .pointer (some (ad.add (offs t p)))) ∧
      (∀ t xs, st s = .own n t xs → ∃ ad L c, V s = .slice (some ad) L c ∧ v = .pointer (some (ad.add (offs (.arr 0 t) p))))
  | .rpt t x, v => ∃ ad cs, v = .pointer (some ad) ∧ R ad.block ∧ ad.block < w.heap.size ∧ rep w R t x cs ∧ lies w ad cs
  | .tup l, v => ∃ vs, v = .tuple vs.toArray ∧ tupRep w R l vs
  | .ifc T t x, v => ∃ u, v = .iface T u ∧ vrep w R t x u

def ownBlk : Slot → Value → Option Nat
  | .own _ _ _, .slice (some ad) _ _ => some ad.block
  | .obj _ _ _, .pointer (some ad) => some ad.block
  | _, _ => none

def isObj : Slot → Bool
  | .obj _ _ _ => true
  | _ => false

def aliasOf : Slot → Option (Nat × Nat)
  | .asl n s _ => some (n, s)
  | .apt n s _ => some (n, s)
  | _ => none

/-- The blocks that may be read and are never written: those that were given to be read, and new ones; none that a slot owns. -/
def RO (B : World) (R0 : Nat → Prop) (st : Nat → Slot) (V : Nat → Value) (b : Nat) : Prop :=
  (R0 b ∨ B.heap.size ≤ b) ∧ ∀ k, ownBlk (st k) (V k) ≠ some b

structure Kept (B : World) (L : Nat → Prop) (w : World) : Prop where
  os : w.os = B.os
  tape : w.tape = B.tape
  output : w.output = B.output
  size : B.heap.size ≤ w.heap.size
  block : ∀ b, b < B.heap.size → ¬ L b → w.heap[b]? = B.heap[b]?

/-- From here on the slots are no variables of the frame: they stand for what the caller lent. -/
def ghost : Nat := 1000000

structure Good (B : World) (R0 L : Nat → Prop) (st : Nat → Slot) (V : Nat → Value) (w : World) : Prop where
  kept : Kept B L w
  rep : ∀ k, SlotRep w (RO B R0 st V) st V (st k) (V k)
  sep : ∀ i j b, ownBlk (st i) (V i) = some b → ownBlk (st j) (V j) = some b → i = j
  mine : ∀ k b, ownBlk (st k) (V k) = some b → (L b ∧ isObj (st k) = true ∧ ghost ≤ k) ∨ B.heap.size ≤ b

theorem Mem.block_lt {w : World} {ad : Addr} {n : Nat} {cs : List Value} (h : Mem w ad n cs) : ad.block < w.heap.size := by
  obtain ⟨_, row, e, fz, h, _⟩ := h.out
  exact (Array.getElem?_eq_some_iff.1 h).1

theorem Mem.move {w w' : World} {ad : Addr} {n : Nat} {cs : List Value} (h : Mem w ad n cs) (hw : w'.heap[ad.block]? = w.heap[ad.block]?) : Mem w' ad n cs := by
  obtain ⟨h1, row, e, fz, h2, h3⟩ := h.out
  exact ⟨h1, row, e, fz, hw.trans h2, h3⟩

theorem Mem.lies {w : World} {ad : Addr} {n : Nat} {cs : List Value} (h : Mem w ad n cs) : lies w ad cs := by
  obtain ⟨h1, row, e, fz, h2, h3, h4, h5, h6⟩ := h.out
  intro j v hv
  have := h6 j v hv
  cases ad with
  | mk b o s =>
    simp only at h1 h2 this
    subst h1
    unfold Addr.add
    split
    · rename_i h0
      subst h0
      simpa [World.cell?, h2] using this
    · simpa [World.cell?, h2] using this

theorem tupRep_mono {w w' : World} {R R' : Nat → Prop} (hz : w.heap.size ≤ w'.heap.size) (hR : ∀ b, b < w.heap.size → R b → R' b) (hw : ∀ b, b < w.heap.size → R b → w'.heap[b]? = w.heap[b]?) :
    ∀ {l : List Dv} {vs : List Value}, tupRep w R l vs → tupRep w' R' l vs
  | [], _, h => h
  | d :: l, _, h => by
    obtain ⟨v, r, rfl, h1, h2⟩ := h
    exact ⟨v, r, rfl, vrep_mono hz hR hw h1, tupRep_mono hz hR hw h2⟩

theorem ownBlk_lt {w : World} {R : Nat → Prop} {st : Nat → Slot} {V : Nat → Value} {s : Slot} {v : Value} (h : SlotRep w R st V s v) {b : Nat} (hb : ownBlk s v = some b) : b < w.heap.size := by
  cases s <;> simp only [ownBlk] at hb <;> try (cases hb; done)
  · obtain ⟨A, c, cs, rfl, _, _, _, h⟩ := h
    rcases h with ⟨rfl, _⟩ | ⟨ad, rfl, h⟩
    · cases hb
    · simp only [Option.some.injEq] at hb
      subst hb
      exact h.block_lt
  · obtain ⟨ad, cs, rfl, _, h⟩ := h
    simp only [Option.some.injEq] at hb
    subst hb
    exact h.block_lt

/-- Another world, in which only blocks that this slot doesn't own have turned, and that reads no less. -/
theorem SlotRep.move {w w' : World} {R R' : Nat → Prop} {st st' : Nat → Slot} {V V' : Nat → Value} {s : Slot} {v : Value} (h : SlotRep w R st V s v)
    (hz : w.heap.size ≤ w'.heap.size) (hR : ∀ b, b < w.heap.size → R b → R' b) (hw : ∀ b, b < w.heap.size → R b → w'.heap[b]? = w.heap[b]?)
    (ho : ∀ b, ownBlk s v = some b → w'.heap[b]? = w.heap[b]?)
    (ha : ∀ n k, aliasOf s = some (n, k) → (∀ t xs', st' k = .own n t xs' → V' k = V k ∧ ∃ xs, st k = .own n t xs ∧ xs.length = xs'.length) ∧ (∀ t x', st' k = .obj n t x' → V' k = V k ∧ ∃ x, st k = .obj n t x)) :
    SlotRep w' R' st' V' s v := by
  cases s with
  | dead => trivial
  | val t x => exact vrep_mono hz hR hw h
  | nil => exact h
  | own n t xs =>
    obtain ⟨A, c, cs, rfl, h1, h2, h3, h4⟩ := h
    refine ⟨A, c, cs, rfl, h1, h2, h3.imp (fun x c _ hx => rep_mono hz hR hw t hx), ?_⟩
    rcases h4 with h4 | ⟨ad, rfl, hm⟩
    · exact .inl h4
    · exact .inr ⟨ad, rfl, hm.move (ho _ rfl)⟩
  | obj n t x =>
    obtain ⟨ad, cs, rfl, h1, h2⟩ := h
    exact ⟨ad, cs, rfl, rep_mono hz hR hw t h1, h2.move (ho _ rfl)⟩
  | asl n s rg =>
    cases rg with
    | none =>
      intro t xs' hs
      obtain ⟨h1, xs, hs', hl⟩ := (ha n s rfl).1 t xs' hs
      rw [h1]
      exact h t xs hs'
    | some q =>
      obtain ⟨lo, len⟩ := q
      intro t xs' hs
      obtain ⟨h1, xs, hs', hl⟩ := (ha n s rfl).1 t xs' hs
      obtain ⟨k1, k2⟩ := h t xs hs'
      rw [h1]
      exact ⟨by omega, k2⟩
  | apt n s p =>
    refine ⟨fun t x' hs => ?_, fun t xs' hs => ?_⟩
    · obtain ⟨h1, x, hs'⟩ := (ha n s rfl).2 t x' hs
      rw [h1]
      exact h.1 t x hs'
    · obtain ⟨h1, xs, hs', _⟩ := (ha n s rfl).1 t xs' hs
      rw [h1]
      exact h.2 t xs hs'
  | rpt t x =>
    obtain ⟨ad, cs, rfl, h1, h2, h3, h4⟩ := h
    exact ⟨ad, cs, rfl, hR _ h2 h1, Nat.lt_of_lt_of_le h2 hz, rep_mono hz hR hw t h3, lies_move (hw _ h2 h1) h4⟩
  | tup l =>
    obtain ⟨vs, rfl, h1⟩ := h
    exact ⟨vs, rfl, tupRep_mono hz hR hw h1⟩
  | ifc T t x =>
    obtain ⟨u, rfl, h1⟩ := h
    exact ⟨u, rfl, vrep_mono hz hR hw h1⟩

/-- What a step may do: it turns some slots (K), blocks that they owned, and new blocks. -/
theorem Good.change {B : World} {R0 L : Nat → Prop} {st st' : Nat → Slot} {V V' : Nat → Value} {w w' : World} (hg : Good B R0 L st V w) (K : Nat → Prop)
    (hos : w'.os = w.os) (htape : w'.tape = w.tape) (hout : w'.output = w.output) (hz : w.heap.size ≤ w'.heap.size)
    (hw : ∀ b, b < w.heap.size → (∀ k, K k → ownBlk (st k) (V k) ≠ some b) → w'.heap[b]? = w.heap[b]?)
    (same : ∀ k, ¬ K k → st' k = st k ∧ V' k = V k)
    (hrep : (∀ b, b < w.heap.size → RO B R0 st V b → RO B R0 st' V' b) → ∀ k, K k → SlotRep w' (RO B R0 st' V') st' V' (st' k) (V' k))
    (hown : ∀ k b, K k → ownBlk (st' k) (V' k) = some b → w.heap.size ≤ b ∨ ∃ k', K k' ∧ ownBlk (st k') (V k') = some b ∧ isObj (st k') = isObj (st' k) ∧ (isObj (st k') = true → ghost ≤ k' → ghost ≤ k))
    (hsep : ∀ i j b, K i → K j → ownBlk (st' i) (V' i) = some b → ownBlk (st' j) (V' j) = some b → i = j)
    (hal : ∀ k n s, ¬ K k → K s → aliasOf (st k) = some (n, s) →
      (∀ t xs', st' s = .own n t xs' → V' s = V s ∧ ∃ xs, st s = .own n t xs ∧ xs.length = xs'.length) ∧ (∀ t x', st' s = .obj n t x' → V' s = V s ∧ ∃ x, st s = .obj n t x)) :
    Good B R0 L st' V' w' := by
  have hlt : ∀ k b, ownBlk (st k) (V k) = some b → b < w.heap.size := fun k b h => ownBlk_lt (hg.rep k) h
  have hR : ∀ b, b < w.heap.size → RO B R0 st V b → RO B R0 st' V' b := by
    intro b hb h
    refine ⟨h.1, fun k hk => ?_⟩
    by_cases hK : K k
    · rcases hown k b hK hk with h1 | ⟨k', _, h1, _⟩
      · omega
      · exact h.2 k' h1
    · obtain ⟨e1, e2⟩ := same k hK
      rw [e1, e2] at hk
      exact h.2 k hk
  have hother : ∀ k b, ¬ K k → ownBlk (st k) (V k) = some b → w'.heap[b]? = w.heap[b]? := by
    intro k b hK hb
    refine hw b (hlt k b hb) (fun k' hK' h => ?_)
    have := hg.sep _ _ _ hb h
    subst this
    exact hK hK'
  refine ⟨?_, fun k => ?_, fun i j b hi hj => ?_, fun k b hb => ?_⟩
  · have hk := hg.kept
    refine ⟨hos.trans hk.os, htape.trans hk.tape, hout.trans hk.output, Nat.le_trans hk.size hz, fun b hb hL => ?_⟩
    rw [hw b (Nat.lt_of_lt_of_le hb hk.size) (fun k _ h => ?_)]
    · exact hk.block b hb hL
    · rcases hg.mine k b h with h1 | h1
      · exact hL h1.1
      · omega
  · by_cases hK : K k
    · exact hrep hR k hK
    · obtain ⟨e1, e2⟩ := same k hK
      rw [e1, e2]
      refine (hg.rep k).move hz hR (fun b hb h => hw b hb (fun k' _ hk' => h.2 k' hk')) (fun b hb => hother k b hK hb) (fun n s ha => ?_)
      by_cases hKs : K s
      · exact hal k n s hK hKs ha
      · obtain ⟨e3, e4⟩ := same s hKs
        rw [e3, e4]
        exact ⟨fun t xs' h => ⟨rfl, xs', h, rfl⟩, fun t x' h => ⟨rfl, x', h⟩⟩
  · by_cases hi' : K i <;> by_cases hj' : K j
    · exact hsep i j b hi' hj' hi hj
    · obtain ⟨e1, e2⟩ := same j hj'
      rw [e1, e2] at hj
      rcases hown i b hi' hi with h1 | ⟨k', h1, h2, _⟩
      · have := hlt j b hj; omega
      · have := hg.sep _ _ _ h2 hj
        subst this
        exact absurd h1 hj'
    · obtain ⟨e1, e2⟩ := same i hi'
      rw [e1, e2] at hi
      rcases hown j b hj' hj with h1 | ⟨k', h1, h2, _⟩
      · have := hlt i b hi; omega
      · have := hg.sep _ _ _ h2 hi
        subst this
        exact absurd h1 hi'
    · obtain ⟨e1, e2⟩ := same i hi'
      obtain ⟨e3, e4⟩ := same j hj'
      rw [e1, e2] at hi
      rw [e3, e4] at hj
      exact hg.sep i j b hi hj
  · by_cases hK : K k
    · rcases hown k b hK hb with h1 | ⟨k', _, h2, h3, h4⟩
      · exact .inr (Nat.le_trans hg.kept.size h1)
      · rw [← h3]
        exact (hg.mine k' b h2).imp (fun h => ⟨h.1, h.2.1, h4 h.2.1 h.2.2⟩) id
    · obtain ⟨e1, e2⟩ := same k hK
      rw [e1, e2] at hb
      rw [e1]
      exact hg.mine k b hb

/-! ### One slot -/
def put {α : Type} (f : Nat → α) (d : Nat) (s : α) : Nat → α := fun k => if k = d then s else f k
@[simp] theorem put_same {α : Type} (f : Nat → α) (d : Nat) (s : α) : put f d s d = s := by simp [put]
theorem put_ne {α : Type} (f : Nat → α) {d k : Nat} (s : α) (h : k ≠ d) : put f d s k = f k := by simp [put, h]
theorem put_eta {α : Type} (f : Nat → α) (d : Nat) : put f d (f d) = f := by funext k; unfold put; split <;> simp_all
theorem put_put {α : Type} (f : Nat → α) (d : Nat) (s s' : α) : put (put f d s) d s' = put f d s' := by funext k; unfold put; split <;> rfl
theorem put_comm {α : Type} (f : Nat → α) {d d' : Nat} (s s' : α) (h : d ≠ d') : put (put f d s) d' s' = put (put f d' s') d s := by
  funext k; unfold put; split <;> split <;> simp_all

def owning : Slot → Bool
  | .own _ _ _ => true
  | .obj _ _ _ => true
  | _ => false

theorem ownBlk_none {s : Slot} (h : owning s = false) (v : Value) : ownBlk s v = none := by
  cases s <;> simp [owning] at h <;> rfl

/-- A slot is filled with what owns nothing; the world has drawn at most. -/
theorem Good.put {B : World} {R0 L : Nat → Prop} {st : Nat → Slot} {V : Nat → Value} {w w' : World} (hg : Good B R0 L st V w) (d : Nat) (s : Slot) (v : Value)
    (hs : owning s = false) (hh : w'.heap = w.heap) (hos : w'.os = w.os) (htape : w'.tape = w.tape) (hout : w'.output = w.output)
    (hrep : SlotRep w (RO B R0 st V) st V s v) (hself : ∀ n, aliasOf s ≠ some (n, d)) : Good B R0 L (put st d s) (put V d v) w' := by
  refine hg.change (fun k => k = d) hos htape hout (by rw [hh]; exact Nat.le_refl _) (fun b hb _ => by rw [hh]) (fun k hk => ⟨put_ne _ _ hk, put_ne _ _ hk⟩) ?_ ?_ ?_ ?_
  · rintro hR k rfl
    simp only [put_same]
    refine hrep.move (by rw [hh]; exact Nat.le_refl _) hR (fun b _ _ => by rw [hh]) (fun b hb => by rw [hh]) (fun n k' ha => ?_)
    have : k' ≠ k := fun e => hself n (e ▸ ha)
    rw [put_ne _ _ this, put_ne _ _ this]
    exact ⟨fun t xs' h => ⟨rfl, xs', h, rfl⟩, fun t x' h => ⟨rfl, x', h⟩⟩
  · rintro k b rfl h
    simp only [put_same, ownBlk_none hs] at h
    cases h
  · rintro i j b rfl rfl _ _
    rfl
  · rintro k n s' hk rfl ha
    simp only [put_same]
    refine ⟨fun t xs' h => ?_, fun t x' h => ?_⟩ <;> (subst h; simp [owning] at hs)

end Go.Tm
