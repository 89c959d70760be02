/- Values of the shapes that the program has, as Lean's own types (Ty.den), and what it says that cells stand for them (rep). -/
import Derived.WalkKit
import Derived.Below
import Derived.KernelRfl
set_option linter.unusedVariables false
set_option linter.unusedSimpArgs false
namespace Go.Tm

inductive Ty where
  | int (k : IntKind)
  | bool
  | str
  | unit
  | prod (a b : Ty)
  | slice (t : Ty)
  | arr (n : Nat) (t : Ty)
  deriving DecidableEq, Inhabited

@[reducible] def Ty.den : Ty → Type
  | .int _ => Int
  | .bool => Bool
  | .str => ByteArray
  | .unit => Unit
  | .prod a b => a.den × b.den
  | .slice t => List t.den
  | .arr _ t => List t.den

def Ty.sz : Ty → Nat
  | .int _ => 1
  | .bool => 1
  | .str => 1
  | .unit => 0
  | .prod a b => a.sz + b.sz
  | .slice _ => 1
  | .arr n t => n * t.sz

def Ty.agg : Ty → Bool
  | .unit => true
  | .prod _ _ => true
  | .arr _ _ => true
  | _ => false

/-- At most so many bytes. -/
def Ty.mx : Ty → Nat
  | .int k => match k with
    | .i8 => 1 | .u8 => 1 | .i16 => 2 | .u16 => 2 | .i32 => 4 | .u32 => 4 | .i64 => 8 | .u64 => 8
  | .bool => 1
  | .str => 16
  | .unit => 0
  | .prod a b => (a.mx + 7) / 8 * 8 + b.mx
  | .slice _ => 24
  | .arr n t => n * t.mx

theorem Ty.mx_pos : ∀ t : Ty, 0 < t.sz → 0 < t.mx
  | .int k, _ => by cases k <;> decide
  | .bool, _ => by decide
  | .str, _ => by decide
  | .unit, h => by simp [Ty.sz] at h
  | .prod a b, h => by
    simp only [Ty.sz] at h
    simp only [Ty.mx]
    rcases Nat.eq_zero_or_pos a.sz with h0 | h0
    · have := Ty.mx_pos b (by omega); omega
    · have := Ty.mx_pos a h0; omega
  | .slice _, _ => by simp [Ty.mx]
  | .arr n t, h => by
    simp only [Ty.sz] at h
    simp only [Ty.mx]
    rcases Nat.eq_zero_or_pos n with h0 | h0
    · simp [h0] at h
    · exact Nat.mul_pos h0 (Ty.mx_pos t (Nat.pos_of_ne_zero (fun e => by simp [e] at h)))

/-- Does a value of this type lead to other memory? -/
def Ty.far : Ty → Bool
  | .prod a b => a.far || b.far
  | .slice _ => true
  | .arr _ t => t.far
  | _ => false

def Ty.dflt : (t : Ty) → t.den
  | .int _ => (0 : Int)
  | .bool => false
  | .str => ⟨#[]⟩
  | .unit => ()
  | .prod a b => (a.dflt, b.dflt)
  | .slice _ => []
  | .arr n t => List.replicate n t.dflt

def Ty.zeroV : Ty → List Value
  | .int k => [.int k 0]
  | .bool => [.bool false]
  | .str => [.string ⟨#[]⟩]
  | .unit => []
  | .prod a b => a.zeroV ++ b.zeroV
  | .slice _ => [.slice none 0 0]
  | .arr n t => (List.replicate n t.zeroV).flatten

def repList {α : Type} (r : α → List Value → Prop) : List α → List Value → Prop
  | [], cs => cs = []
  | x :: xs, cs => ∃ c1 c2, cs = c1 ++ c2 ∧ r x c1 ∧ repList r xs c2

/-- Cells as they lie in memory from an address on. -/
def lies (w : World) (ad : Addr) (cs : List Value) : Prop := ∀ j v, cs[j]? = some v → w.cell? (ad.add j) = some v

def rep (w : World) (R : Nat → Prop) : (t : Ty) → t.den → List Value → Prop
  | .int k, x, cs => cs = [.int k x]
  | .bool, x, cs => cs = [.bool x]
  | .str, x, cs => cs = [.string x]
  | .unit, _, cs => cs = []
  | .prod a b, x, cs => ∃ c1 c2, cs = c1 ++ c2 ∧ rep w R a x.1 c1 ∧ rep w R b x.2 c2
  | .slice t, xs, cs => ∃ A c, cs = [.slice A xs.length c] ∧ xs.length ≤ c ∧ c ≤ maxLen ∧
      (xs = [] ∨ ∃ ad inner, A = some ad ∧ R ad.block ∧ ad.block < w.heap.size ∧ repList (rep w R t) xs inner ∧ lies w ad inner)
  | .arr n t, xs, cs => xs.length = n ∧ repList (rep w R t) xs cs

/-! ### Rows -/
section
variable {α : Type} {r r' : α → List Value → Prop} {xs ys : List α} {cs ds : List Value} {n : Nat}

theorem repList.length (hr : ∀ x c, r x c → c.length = n) : ∀ {xs : List α} {cs : List Value}, repList r xs cs → cs.length = xs.length * n
  | [], cs, h => by simp [repList] at h; simp [h]
  | x :: xs, cs, h => by
    obtain ⟨c1, c2, rfl, h1, h2⟩ := h
    simp [hr _ _ h1, repList.length hr h2, Nat.add_mul, Nat.add_comm]

theorem repList.imp (hr : ∀ x c, x ∈ xs → r x c → r' x c) (h : repList r xs cs) : repList r' xs cs := by
  induction xs generalizing cs with
  | nil => exact h
  | cons x xs ih =>
    obtain ⟨c1, c2, rfl, h1, h2⟩ := h
    exact ⟨c1, c2, rfl, hr _ _ (by simp) h1, ih (fun x c hx => hr x c (by simp [hx])) h2⟩

theorem repList.append (h : repList r xs cs) (k : repList r ys ds) : repList r (xs ++ ys) (cs ++ ds) := by
  induction xs generalizing cs with
  | nil => simp [repList] at h; simpa [h] using k
  | cons x xs ih =>
    obtain ⟨c1, c2, rfl, h1, h2⟩ := h
    exact ⟨c1, c2 ++ ds, by simp, h1, ih h2⟩

theorem repList.one {x : α} {c : List Value} (h : r x c) : repList r [x] c := ⟨c, [], by simp, h, rfl⟩

theorem repList.take (hr : ∀ x c, r x c → c.length = n) (h : repList r xs cs) (k : Nat) : repList r (xs.take k) (cs.take (k * n)) := by
  induction xs generalizing cs k with
  | nil => simp [repList] at h; simp [h, repList]
  | cons x xs ih =>
    obtain ⟨c1, c2, rfl, h1, h2⟩ := h
    cases k with
    | zero => simp [repList]
    | succ k =>
      refine ⟨c1, c2.take (k * n), ?_, h1, ih h2 k⟩
      have : (k + 1) * n = c1.length + k * n := by rw [hr _ _ h1, Nat.add_mul, Nat.one_mul, Nat.add_comm]
      rw [this, List.take_length_add_append]

theorem repList.drop (hr : ∀ x c, r x c → c.length = n) (h : repList r xs cs) (k : Nat) : repList r (xs.drop k) (cs.drop (k * n)) := by
  induction xs generalizing cs k with
  | nil => simp [repList] at h; simp [h, repList]
  | cons x xs ih =>
    cases k with
    | zero => simpa using h
    | succ k =>
      obtain ⟨c1, c2, rfl, h1, h2⟩ := h
      have : (k + 1) * n = c1.length + k * n := by rw [hr _ _ h1, Nat.add_mul, Nat.one_mul, Nat.add_comm]
      rw [this, List.drop_length_add_append]
      simpa using ih h2 k

theorem repList.get (hr : ∀ x c, r x c → c.length = n) (h : repList r xs cs) (i : Nat) (x : α) (hi : xs[i]? = some x) : r x ((cs.drop (i * n)).take n) := by
  have hd := h.drop hr i
  have hlt : i < xs.length := by
    rcases Nat.lt_or_ge i xs.length with h | h
    · exact h
    · simp [List.getElem?_eq_none h] at hi
  rw [List.drop_eq_getElem_cons hlt] at hd
  obtain ⟨c1, c2, he, h1, h2⟩ := hd
  have : xs[i] = x := by simpa [List.getElem?_eq_getElem hlt] using hi
  rw [this] at h1
  rw [he, show n = c1.length + 0 by simp [hr _ _ h1], List.take_length_add_append]
  simpa using h1

theorem repList.set (hr : ∀ x c, r x c → c.length = n) (h : repList r xs cs) (i : Nat) (hi : i < xs.length) {x : α} {c : List Value} (hx : r x c) :
    repList r (xs.set i x) (cs.take (i * n) ++ c ++ cs.drop ((i + 1) * n)) := by
  have h1 := h.take hr i
  have h2 := h.drop hr (i + 1)
  have := (h1.append (repList.one hx)).append h2
  rw [List.set_eq_take_append_cons_drop, if_pos hi]
  simpa using this

theorem repList.replicate {x : α} {c : List Value} (h : r x c) : ∀ n, repList r (List.replicate n x) (List.replicate n c).flatten
  | 0 => rfl
  | n + 1 => ⟨c, _, by simp [List.replicate_succ], h, repList.replicate h n⟩
end

/-! ### Values -/
theorem rep_len {w : World} {R : Nat → Prop} : ∀ (t : Ty) {x : t.den} {cs : List Value}, rep w R t x cs → cs.length = t.sz
  | .int _, _, _, h => by simp only [rep] at h; subst h; rfl
  | .bool, _, _, h => by simp only [rep] at h; subst h; rfl
  | .str, _, _, h => by simp only [rep] at h; subst h; rfl
  | .unit, _, _, h => by simp only [rep] at h; subst h; rfl
  | .prod a b, _, _, h => by
    obtain ⟨c1, c2, rfl, h1, h2⟩ := h
    simp [Ty.sz, rep_len a h1, rep_len b h2]
  | .slice _, _, _, h => by obtain ⟨A, c, rfl, _⟩ := h; rfl
  | .arr n t, xs, _, h => by
    obtain ⟨h1, h2⟩ := h
    rw [h2.length (fun x c hx => rep_len t hx), Ty.sz]
    exact congrArg (· * t.sz) h1

theorem lies_move {w w' : World} {ad : Addr} {cs : List Value} (hw : w'.heap[ad.block]? = w.heap[ad.block]?) (h : lies w ad cs) : lies w' ad cs := by
  intro j v hv
  have := h j v hv
  have hb : (ad.add j).block = ad.block := by unfold Addr.add; split <;> rfl
  rw [← this]
  unfold World.cell?
  rw [hb, hw]

theorem rep_mono {w w' : World} {R R' : Nat → Prop} (hz : w.heap.size ≤ w'.heap.size) (hR : ∀ b, b < w.heap.size → R b → R' b) (hw : ∀ b, b < w.heap.size → R b → w'.heap[b]? = w.heap[b]?) :
    ∀ (t : Ty) {x : t.den} {cs : List Value}, rep w R t x cs → rep w' R' t x cs
  | .int _, _, _, h => h
  | .bool, _, _, h => h
  | .str, _, _, h => h
  | .unit, _, _, h => h
  | .prod a b, _, _, h => by
    obtain ⟨c1, c2, rfl, h1, h2⟩ := h
    exact ⟨c1, c2, rfl, rep_mono hz hR hw a h1, rep_mono hz hR hw b h2⟩
  | .slice t, xs, _, h => by
    obtain ⟨A, c, rfl, h1, h2, h3⟩ := h
    refine ⟨A, c, rfl, h1, h2, h3.imp id ?_⟩
    rintro ⟨ad, inner, rfl, hb, hs, hi, hl⟩
    exact ⟨ad, inner, rfl, hR _ hs hb, Nat.lt_of_lt_of_le hs hz, hi.imp (fun x c _ hx => rep_mono hz hR hw t hx), lies_move (hw _ hs hb) hl⟩
  | .arr n t, xs, _, h => ⟨h.1, h.2.imp (fun x c _ hx => rep_mono hz hR hw t hx)⟩

theorem rep_zero (w : World) (R : Nat → Prop) : ∀ t : Ty, rep w R t t.dflt t.zeroV
  | .int _ => rfl
  | .bool => rfl
  | .str => rfl
  | .unit => rfl
  | .prod a b => ⟨_, _, rfl, rep_zero w R a, rep_zero w R b⟩
  | .slice _ => ⟨none, 0, rfl, Nat.le_refl _, Nat.zero_le _, .inl rfl⟩
  | .arr n t => ⟨List.length_replicate, repList.replicate (rep_zero w R t) n⟩

theorem rep_cells {w : World} {R : Nat → Prop} : ∀ (t : Ty) {x : t.den} {cs : List Value}, rep w R t x cs → ∀ v ∈ cs, v.oneCell' = true
  | .int _, _, _, h => by simp only [rep] at h; subst h; simp [Value.oneCell']
  | .bool, _, _, h => by simp only [rep] at h; subst h; simp [Value.oneCell']
  | .str, _, _, h => by simp only [rep] at h; subst h; simp [Value.oneCell']
  | .unit, _, _, h => by simp only [rep] at h; subst h; simp
  | .prod a b, _, _, h => by
    obtain ⟨c1, c2, rfl, h1, h2⟩ := h
    intro v hv
    rcases List.mem_append.1 hv with hv | hv
    · exact rep_cells a h1 v hv
    · exact rep_cells b h2 v hv
  | .slice _, _, _, h => by obtain ⟨A, c, rfl, _⟩ := h; simp [Value.oneCell']
  | .arr n t, xs, cs, h => by
    have h2 := h.2
    clear h
    have key : ∀ (ys : List t.den) (cs : List Value), repList (rep w R t) ys cs → ∀ v ∈ cs, v.oneCell' = true := by
      intro ys
      induction ys with
      | nil => intro cs h v hv; simp [repList] at h; simp [h] at hv
      | cons y ys ih =>
        rintro cs ⟨c1, c2, rfl, h1, h2⟩ v hv
        rcases List.mem_append.1 hv with hv | hv
        · exact rep_cells t h1 v hv
        · exact ih _ h2 v hv
    exact key xs cs h2

/-! ### Ways into a value -/
inductive Way where
  | fld (j : Nat)
  | idx (i : Nat)
  deriving DecidableEq, Inhabited

def get : (t : Ty) → t.den → List Way → Option ((u : Ty) × u.den)
  | t, x, [] => some ⟨t, x⟩
  | .prod a b, x, .fld 0 :: p => get a x.1 p
  | .prod a b, x, .fld (j + 1) :: p => get b x.2 (.fld j :: p)
  | .arr _ t, xs, .idx i :: p => match xs[i]? with
    | some y => get t y p
    | none => none
  | _, _, _ => none
termination_by structural t => t

def offs : Ty → List Way → Nat
  | _, [] => 0
  | .prod a _, .fld 0 :: p => offs a p
  | .prod a b, .fld (j + 1) :: p => a.sz + offs b (.fld j :: p)
  | .arr _ t, .idx i :: p => i * t.sz + offs t p
  | _, _ => 0
termination_by structural t => t

def upd : (t : Ty) → t.den → List Way → (u : Ty) → u.den → Option t.den
  | t, _, [], u, y => if h : u = t then some (h ▸ y) else none
  | .prod a b, x, .fld 0 :: p, u, y => (upd a x.1 p u y).map fun z => (z, x.2)
  | .prod a b, x, .fld (j + 1) :: p, u, y => (upd b x.2 (.fld j :: p) u y).map fun z => (x.1, z)
  | .arr _ t, xs, .idx i :: p, u, y => match xs[i]? with
    | some z => (upd t z p u y).map fun z' => xs.set i z'
    | none => none
  | _, _, _, _, _ => none
termination_by structural t => t

theorem take_drop_mid {cs c1 c2 : List Value} {o n : Nat} (h : cs = c1 ++ c2) (hn : o + n ≤ c1.length) : (cs.drop o).take n = (c1.drop o).take n := by
  subst h
  rw [List.drop_append_of_le_length (by omega), List.take_append_of_le_length (by simp; omega)]

theorem rep_get {w : World} {R : Nat → Prop} : ∀ (t : Ty) (x : t.den) (cs : List Value) (p : List Way) (u : Ty) (y : u.den), rep w R t x cs → get t x p = some ⟨u, y⟩ →
    rep w R u y ((cs.drop (offs t p)).take u.sz) ∧ offs t p + u.sz ≤ t.sz := by
  intro t
  induction t with
  | prod a b iha ihb =>
    intro x cs p u y h hg
    cases p with
    | nil =>
      simp only [get, Option.some.injEq, Sigma.mk.injEq] at hg
      obtain ⟨rfl, hg⟩ := hg
      cases hg
      have hl := rep_len _ h
      refine ⟨by simpa [offs, ← hl] using h, by simp [offs]⟩
    | cons s p =>
      obtain ⟨c1, c2, rfl, h1, h2⟩ := h
      have l1 := rep_len _ h1
      have l2 := rep_len _ h2
      cases s with
      | idx i => simp [get] at hg
      | fld j =>
        cases j with
        | zero =>
          simp only [get] at hg
          obtain ⟨k1, k2⟩ := iha _ _ _ _ _ h1 hg
          refine ⟨?_, by simp only [offs, Ty.sz]; omega⟩
          simp only [offs]
          rw [take_drop_mid rfl (by omega)]
          exact k1
        | succ j =>
          simp only [get] at hg
          obtain ⟨k1, k2⟩ := ihb _ _ _ _ _ h2 hg
          refine ⟨?_, by simp only [offs, Ty.sz]; omega⟩
          simp only [offs]
          rw [← l1, List.drop_length_add_append]
          exact k1
  | arr n t iht =>
    intro x cs p u y h hg
    cases p with
    | nil =>
      simp only [get, Option.some.injEq, Sigma.mk.injEq] at hg
      obtain ⟨rfl, hg⟩ := hg
      cases hg
      have hl := rep_len _ h
      refine ⟨by simpa [offs, ← hl] using h, by simp [offs]⟩
    | cons s p =>
      cases s with
      | fld j => simp [get] at hg
      | idx i =>
        simp only [get] at hg
        split at hg
        · rename_i z hz
          obtain ⟨h1, h2⟩ := h
          have hlt : i < n := by
            rcases Nat.lt_or_ge i n with hh | hh
            · exact hh
            · rw [List.getElem?_eq_none (by omega)] at hz; cases hz
          have hr : ∀ x c, rep w R t x c → c.length = t.sz := fun x c hx => rep_len t hx
          have hi := h2.get hr i z hz
          obtain ⟨k1, k2⟩ := iht _ _ _ _ _ hi hg
          have hlen := h2.length hr
          have hm : (i + 1) * t.sz ≤ n * t.sz := Nat.mul_le_mul_right _ hlt
          rw [Nat.add_mul, Nat.one_mul] at hm
          refine ⟨?_, by simp only [offs, Ty.sz]; omega⟩
          simp only [offs]
          rw [List.drop_take, List.take_take, List.drop_drop, Nat.min_eq_left (by omega)] at k1
          exact k1
        · cases hg
  | int k =>
    intro x cs p u y h hg
    cases p with
    | nil =>
      simp only [get, Option.some.injEq, Sigma.mk.injEq] at hg
      obtain ⟨rfl, hg⟩ := hg
      cases hg
      have hl := rep_len _ h
      exact ⟨by simpa [offs, ← hl] using h, by simp [offs]⟩
    | cons s p => cases s <;> simp [get] at hg
  | bool =>
    intro x cs p u y h hg
    cases p with
    | nil =>
      simp only [get, Option.some.injEq, Sigma.mk.injEq] at hg
      obtain ⟨rfl, hg⟩ := hg
      cases hg
      have hl := rep_len _ h
      exact ⟨by simpa [offs, ← hl] using h, by simp [offs]⟩
    | cons s p => cases s <;> simp [get] at hg
  | str =>
    intro x cs p u y h hg
    cases p with
    | nil =>
      simp only [get, Option.some.injEq, Sigma.mk.injEq] at hg
      obtain ⟨rfl, hg⟩ := hg
      cases hg
      have hl := rep_len _ h
      exact ⟨by simpa [offs, ← hl] using h, by simp [offs]⟩
    | cons s p => cases s <;> simp [get] at hg
  | unit =>
    intro x cs p u y h hg
    cases p with
    | nil =>
      simp only [get, Option.some.injEq, Sigma.mk.injEq] at hg
      obtain ⟨rfl, hg⟩ := hg
      cases hg
      have hl := rep_len _ h
      exact ⟨by simpa [offs, ← hl] using h, by simp [offs]⟩
    | cons s p => cases s <;> simp [get] at hg
  | slice t _ =>
    intro x cs p u y h hg
    cases p with
    | nil =>
      simp only [get, Option.some.injEq, Sigma.mk.injEq] at hg
      obtain ⟨rfl, hg⟩ := hg
      cases hg
      have hl := rep_len _ h
      exact ⟨by simpa [offs, ← hl] using h, by simp [offs]⟩
    | cons s p => cases s <;> simp [get] at hg

theorem upd_nil {t u : Ty} {x : t.den} {y : u.den} {z : t.den} (h : upd t x [] u y = some z) : ∃ e : u = t, z = e ▸ y := by
  have : (if h : u = t then some (h ▸ y) else none : Option t.den) = some z := by
    cases t <;> simpa only [upd] using h
  split at this
  · rename_i e
    exact ⟨e, by simpa using this.symm⟩
  · cases this

theorem rep_upd {w : World} {R : Nat → Prop} : ∀ (t : Ty) (x : t.den) (cs : List Value) (p : List Way) (u : Ty) (y : u.den) (x' : t.den) (c : List Value), rep w R t x cs →
    upd t x p u y = some x' → rep w R u y c → rep w R t x' (cs.take (offs t p) ++ c ++ cs.drop (offs t p + u.sz)) ∧ offs t p + u.sz ≤ t.sz := by
  intro t
  have base : ∀ (t : Ty) (x : t.den) (cs : List Value) (u : Ty) (y : u.den) (x' : t.den) (c : List Value), rep w R t x cs →
      upd t x [] u y = some x' → rep w R u y c → rep w R t x' (cs.take (offs t []) ++ c ++ cs.drop (offs t [] + u.sz)) ∧ offs t [] + u.sz ≤ t.sz := by
    intro t x cs u y x' c h hu hc
    obtain ⟨rfl, rfl⟩ := upd_nil hu
    have hl := rep_len _ h
    have h0 : offs u [] = 0 := by cases u <;> rfl
    rw [h0]
    refine ⟨by simpa [← hl] using hc, by simp⟩
  induction t with
  | prod a b iha ihb =>
    intro x cs p u y x' c h hu hc
    cases p with
    | nil => exact base _ _ _ _ _ _ _ h hu hc
    | cons s p =>
      obtain ⟨c1, c2, rfl, h1, h2⟩ := h
      have l1 := rep_len _ h1
      have l2 := rep_len _ h2
      cases s with
      | idx i => simp [upd] at hu
      | fld j =>
        cases j with
        | zero =>
          simp only [upd, Option.map_eq_some_iff] at hu
          obtain ⟨z, hz, rfl⟩ := hu
          obtain ⟨k1, k2⟩ := iha _ _ _ _ _ _ _ h1 hz hc
          refine ⟨⟨_, c2, ?_, k1, h2⟩, by simp only [offs, Ty.sz]; omega⟩
          simp only [offs]
          rw [List.take_append_of_le_length (by omega), List.drop_append_of_le_length (by omega), ← List.append_assoc]
        | succ j =>
          simp only [upd, Option.map_eq_some_iff] at hu
          obtain ⟨z, hz, rfl⟩ := hu
          obtain ⟨k1, k2⟩ := ihb _ _ _ _ _ _ _ h2 hz hc
          refine ⟨⟨c1, _, ?_, h1, k1⟩, by simp only [offs, Ty.sz]; omega⟩
          simp only [offs]
          rw [← l1, Nat.add_assoc, List.take_length_add_append, List.drop_length_add_append]
          simp [List.append_assoc]
  | arr n t iht =>
    intro x cs p u y x' c h hu hc
    cases p with
    | nil => exact base _ _ _ _ _ _ _ h hu hc
    | cons s p =>
      cases s with
      | fld j => simp [upd] at hu
      | idx i =>
        simp only [upd] at hu
        split at hu
        · rename_i z hz
          simp only [Option.map_eq_some_iff] at hu
          obtain ⟨z', hz', rfl⟩ := hu
          obtain ⟨h1, h2⟩ := h
          have hlt : i < List.length x := by
            rcases Nat.lt_or_ge i (List.length x) with hh | hh
            · exact hh
            · rw [List.getElem?_eq_none (by omega)] at hz; cases hz
          have hr : ∀ x c, rep w R t x c → c.length = t.sz := fun x c hx => rep_len t hx
          have hi := h2.get hr i z hz
          obtain ⟨k1, k2⟩ := iht _ _ _ _ _ _ _ hi hz' hc
          have hlen := h2.length hr
          have hm : (i + 1) * t.sz ≤ List.length x * t.sz := Nat.mul_le_mul_right _ hlt
          rw [Nat.add_mul, Nat.one_mul] at hm
          have hx : List.length x = n := h1
          refine ⟨⟨by simpa using h1, ?_⟩, by simp only [offs, Ty.sz]; rw [hx] at hm; omega⟩
          have := h2.set hr i hlt k1
          have e : cs.take (i * t.sz) ++ (((cs.drop (i * t.sz)).take t.sz).take (offs t p) ++ c ++ ((cs.drop (i * t.sz)).take t.sz).drop (offs t p + u.sz)) ++ cs.drop ((i + 1) * t.sz)
              = cs.take (offs (.arr n t) (.idx i :: p)) ++ c ++ cs.drop (offs (.arr n t) (.idx i :: p) + u.sz) := by
            simp only [offs]
            rw [List.take_take, Nat.min_eq_left (by omega), List.take_add, List.drop_take, List.drop_drop, Nat.add_mul, Nat.one_mul]
            have e2 : cs.drop (i * t.sz + offs t p + u.sz) = (cs.drop (i * t.sz + offs t p + u.sz)).take (t.sz - (offs t p + u.sz)) ++ cs.drop (i * t.sz + t.sz) := by
              have e3 := (List.take_append_drop (t.sz - (offs t p + u.sz)) (cs.drop (i * t.sz + offs t p + u.sz))).symm
              rw [List.drop_drop, show i * t.sz + offs t p + u.sz + (t.sz - (offs t p + u.sz)) = i * t.sz + t.sz by omega] at e3
              exact e3
            rw [e2, show i * t.sz + (offs t p + u.sz) = i * t.sz + offs t p + u.sz by omega]
            simp [List.append_assoc]
          rw [← e]
          exact this
        · cases hu
  | int k =>
    intro x cs p u y x' c h hu hc
    cases p with
    | nil => exact base _ _ _ _ _ _ _ h hu hc
    | cons s p => cases s <;> simp [upd] at hu
  | bool =>
    intro x cs p u y x' c h hu hc
    cases p with
    | nil => exact base _ _ _ _ _ _ _ h hu hc
    | cons s p => cases s <;> simp [upd] at hu
  | str =>
    intro x cs p u y x' c h hu hc
    cases p with
    | nil => exact base _ _ _ _ _ _ _ h hu hc
    | cons s p => cases s <;> simp [upd] at hu
  | unit =>
    intro x cs p u y x' c h hu hc
    cases p with
    | nil => exact base _ _ _ _ _ _ _ h hu hc
    | cons s p => cases s <;> simp [upd] at hu
  | slice t _ =>
    intro x cs p u y x' c h hu hc
    cases p with
    | nil => exact base _ _ _ _ _ _ _ h hu hc
    | cons s p => cases s <;> simp [upd] at hu

/-! ### A value that stands in a slot -/
def mkv (t : Ty) (cs : List Value) : Value := if t.agg then .agg cs.toArray else cs.headD undef

def vrep (w : World) (R : Nat → Prop) (t : Ty) (x : t.den) (v : Value) : Prop := ∃ cs, rep w R t x cs ∧ v = mkv t cs

theorem mkv_cells {w : World} {R : Nat → Prop} {t : Ty} {x : t.den} {cs : List Value} (h : rep w R t x cs) : (mkv t cs).cells = cs.toArray := by
  unfold mkv
  split
  · rfl
  · rename_i ha
    have hl := rep_len _ h
    have hc := rep_cells _ h
    have h1 : t.sz = 1 := by cases t <;> simp [Ty.agg] at ha <;> rfl
    rw [h1] at hl
    obtain ⟨c, rfl⟩ := List.length_eq_one_iff.1 hl
    have := hc c (by simp)
    cases c <;> simp [Value.oneCell'] at this <;> rfl

theorem vrep_mono {w w' : World} {R R' : Nat → Prop} (hz : w.heap.size ≤ w'.heap.size) (hR : ∀ b, b < w.heap.size → R b → R' b) (hw : ∀ b, b < w.heap.size → R b → w'.heap[b]? = w.heap[b]?) {t : Ty} {x : t.den} {v : Value}
    (h : vrep w R t x v) : vrep w' R' t x v := by
  obtain ⟨cs, h, rfl⟩ := h
  exact ⟨cs, rep_mono hz hR hw t h, rfl⟩

end Go.Tm
